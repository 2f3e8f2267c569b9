/- Lemmas on which the claim leans. -/
import Derived.Test.YtfnjganjlkoehaaGreatDoorMzAi
namespace Go.Mz
open Go.Conc
structure Cx (P : Program) where
 X : Logic P
 f : FuncId
 kd : CallKind
 ro : Option Nat
 cs : List Frame
 L0 : LH
 R0 : LH
def W {P : Program} (C : Cx P) (n : Nat) (ds : List Deferred) (k : List Item) (E : Env) (B : List (Option Bx)) (L : LH) : Prop :=
 ∀ (T : Array Value) (R : LH) (β : Nm), T.size = n → EnvOk β (get E) T → HeapOk C.L0 C.R0 β B L R → C.X.Go (G (Fr C.f T k ds .run C.kd C.ro) C.cs) R
def guardOk (E : Look) (ops : List Oper) : Option (Nat × Bool) → Option Bool
 | none => some true
 | some (j, w) => match nth ops j with
  | some o => match o.dst with
   | some s => match E s with
    | some (.lit b) => some (match b, w with | true, true => true | false, false => true | _, _ => false)
    | some (.v (.tuple _)) => some false
    | _ => none
   | none => none
  | none => none
theorem getD_bool {T : Array Value} {s : Nat} {b : Bool} (h : T.getD s undef = .bool b) : T[s]? = some (.bool b) := by
 by_cases hlt : s < T.size
 ·simp only [Array.getD, hlt, dif_pos] at h
  rw [Array.getElem?_eq_getElem hlt]; exact congrArg some h
 ·simp only [Array.getD, hlt, dif_neg, not_false_eq_true] at h
  cases h
theorem guardOk_wanted {β : Nm} {E : Look} {T : Array Value} {ops : Array Oper} {o : Oper} {b : Bool} (hE : EnvOk β E T) (h : guardOk E ops.toList o.guard = some b) : Region.wanted o (yielded ops T) = b := by
 unfold guardOk at h
 unfold Region.wanted
 split at h
 ·rename_i hg; cases h; simp [hg]
 ·rename_i j w hg
  rw [hg]
  split at h
  ·rename_i oj hj
   split at h
   ·rename_i s hs
    split at h
    ·rename_i c hc
     cases h
     have hT := getD_bool (Option.some.inj (hE s _ hc)).symm
     rw [nth_eq, Array.getElem?_toList] at hj
     simp only [yielded, hj, Option.bind_some, hs, hT]
     cases c <;> cases w <;> rfl
    ·rename_i u hc
     cases h
     have hT := (Option.some.inj (hE s _ hc)).symm
     rw [nth_eq, Array.getElem?_toList] at hj
     simp only [yielded, hj, Option.bind_some, hs]
     have hT2 : ∀ c, T[s]? ≠ some (.bool c) := fun c h' => by
      simp only [Array.getD_eq_getD_getElem?] at hT
      rw [h'] at hT
      cases hT
     split
     ·rename_i c h'; exact absurd h' (hT2 c)
     ·rfl
    ·cases h
   ·cases h
  ·cases h
def inN (l : List Nat) (d : Nat) : Bool := match l with
 | [] => false
 | x :: r => match Nat.beq x d with | true => true | false => inN r d
def regStep (τ : TT) (n : Nat) (pub : List Nat) (ops : Array Oper) (i : Nat) (rest : List Nat) (k : List Item) (E : Env) (B : List (Option Bx)) : Option (List Item × Env × List (Option Bx)) :=
 match nth ops.toList i with
 | some o => match guardOk (get E) ops.toList o.guard with
  | some true => match o.dst with
   | some d => match Nat.blt d n with
    | true => match inN pub d with
     | true => none
     | false => match semV τ (get E) B o.op with
      | some sv => some (.inRegion ops rest :: k, (d, sv) :: E, B)
      | none => match semA τ (get E) o.op with
       | some (x, sh) => some (.inRegion ops rest :: k, (d, sh B.length) :: E, B ++ [some x])
       | none => none
    | false => none
   | none => match semS τ (get E) B o.op with
    | some (kk, x) => some (.inRegion ops rest :: k, E, B.set kk (some x))
    | none => match semV τ (get E) B o.op with
     | some _ => some (.inRegion ops rest :: k, E, B)
     | none => none
  | some false => match o.dst with
   | some d => match Nat.blt d n with
    | true => some (.inRegion ops rest :: k, (d, .v undef) :: E, B)
    | false => none
   | none => some (.inRegion ops rest :: k, E, B)
  | none => none
 | none => none
def stepC (k : List Item) (E : Env) (B : List (Option Bx)) : Code → Option (List Item × Env × List (Option Bx))
 | .skip => some (k, E, B)
 | .label _ => some (k, E, B)
 | .seq a b => some (.code a :: .code b :: k, E, B)
 | .cond c a b => match evS (get E) c with
  | some (.lit true) => some (.code a :: k, E, B)
  | some (.lit false) => some (.code b :: k, E, B)
  | _ => none
 | .block l c => some (.code c :: .inBlock l :: k, E, B)
 | .scope c => some (.code c :: .inScope c :: k, E, B)
 | .exit l => match exitTo l k with | some k' => some (k', E, B) | none => none
 | .region _ ops d => match d with | false => some (.inRegion ops (List.range ops.size) :: k, E, B) | true => none
 | _ => none
def step1 (τ : TT) (n : Nat) (pub : List Nat) : List Item → Env → List (Option Bx) → Option (List Item × Env × List (Option Bx))
 | .code c :: k, E, B => stepC k E B c
 | .inBlock _ :: k, E, B => some (k, E, B)
 | .inScope _ :: k, E, B => some (k, E, B)
 | .inRegion _ [] :: k, E, B => some (k, E, B)
 | .inRegion ops (i :: rest) :: k, E, B => regStep τ n pub ops i rest k E B
 | _, _, _ => none
def runK (τ : TT) (n : Nat) (pub : List Nat) : Nat → List Item → Env → List (Option Bx) → (List Item × Env × List (Option Bx))
 | 0, k, E, B => (k, E, B)
 | m + 1, k, E, B => match step1 τ n pub k E B with
  | some (k', E', B') => runK τ n pub m k' E' B'
  | none => (k, E, B)
section
variable {P : Program} {C : Cx P} {τ : TT} {n : Nat} {ds : List Deferred} {k : List Item} {E : Env} {B : List (Option Bx)} {L : LH}
theorem semV_defer {E : Look} {op : Op} {sv : SV} (h : semV τ E B op = some sv) : isDefer op = false := by cases op <;> first | rfl | cases h
theorem semA_defer {E : Look} {op : Op} {x : Bx × (Nat → SV)} (h : semA τ E op = some x) : isDefer op = false := by cases op <;> first | rfl | cases h
theorem semS_defer {E : Look} {op : Op} {x : Nat × Bx} (h : semS τ E B op = some x) : isDefer op = false := by cases op <;> first | rfl | cases h
theorem W.oper {ops : Array Oper} {i : Nat} {rest : List Nat} {o : Oper} (ho : nth ops.toList i = some o) (hg : guardOk (get E) ops.toList o.guard = some true) (hdf : isDefer o.op = false)
  (h : ∀ (T : Array Value) (R : LH) (β : Nm), T.size = n → EnvOk β (get E) T → HeapOk C.L0 C.R0 β B L R →
   wpS P (nextOut P C.X.Go (Fr C.f T (.inRegion ops (i :: rest) :: k) ds .run C.kd C.ro) C.cs .normal) (panicOut C.X.Go (Fr C.f T (.inRegion ops (i :: rest) :: k) ds .run C.kd C.ro) C.cs) (execOp (ev T) o) R) :
  W C n ds (.inRegion ops (i :: rest) :: k) E B L := by
 intro T R β hT hE hH
 rw [nth_eq, Array.getElem?_toList] at ho
 exact C.X.op ho (guardOk_wanted hE hg) (.inr fun c hc => by rw [hc] at hdf; cases hdf) (h T R β hT hE hH)
theorem W.fin_some {ops : Array Oper} {i : Nat} {rest : List Nat} {o : Oper} {d : Nat} {T : Array Value} {R : LH} {β : Nm} {sv : SV} {v : Value} (ho : nth ops.toList i = some o) (hd : o.dst = some d) (hz : d < n) (hT : T.size = n) (hE : EnvOk β (get E) T) (hH : HeapOk C.L0 C.R0 β B L R) (hv : den β sv = some v)
  (w : W C n ds (.inRegion ops rest :: k) ((d, sv) :: E) B L) : C.X.Go (G ((Fr C.f T (.inRegion ops (i :: rest) :: k) ds .run C.kd C.ro).finish v) C.cs) R := by
 rw [nth_eq, Array.getElem?_toList] at ho
 rw [finish_some ho hd]
 exact w _ R β (by simp [hT]) (hE.set hv (upd_set v (by rw [hT]; exact hz))) hH
theorem W.fin_none {ops : Array Oper} {i : Nat} {rest : List Nat} {o : Oper} {T : Array Value} {R : LH} {β : Nm} {v : Value} (ho : nth ops.toList i = some o) (hd : o.dst = none) (hT : T.size = n) (hE : EnvOk β (get E) T) (hH : HeapOk C.L0 C.R0 β B L R)
  (w : W C n ds (.inRegion ops rest :: k) E B L) : C.X.Go (G ((Fr C.f T (.inRegion ops (i :: rest) :: k) ds .run C.kd C.ro).finish v) C.cs) R := by
 rw [nth_eq, Array.getElem?_toList] at ho
 rw [finish_none ho hd]
 exact w _ R β hT hE hH
theorem lt_of_blt {d n : Nat} (h : Nat.blt d n = true) : d < n := Nat.le_of_ble_eq_true h
theorem W.val {ops : Array Oper} {i : Nat} {rest : List Nat} {o : Oper} {d : Nat} {sv : SV} (ho : nth ops.toList i = some o) (hg : guardOk (get E) ops.toList o.guard = some true) (hd : o.dst = some d) (hz : Nat.blt d n = true) (hdf : isDefer o.op = false)
  (hv : ∀ (T : Array Value) (R : LH) (β : Nm), EnvOk β (get E) T → HeapOk C.L0 C.R0 β B L R → Vld P β o.op T R sv) (w : W C n ds (.inRegion ops rest :: k) ((d, sv) :: E) B L) : W C n ds (.inRegion ops (i :: rest) :: k) E B L := by
 refine W.oper ho hg hdf fun T R β hT hE hH => ?_
 obtain ⟨v, h1, h2⟩ := hv T R β hE hH
 obtain ⟨dst, op, ty, pos, af, gd⟩ := o
 exact h2 ty dst pos af gd _ _ (W.fin_some ho hd (lt_of_blt hz) hT hE hH h1 w)
theorem regStep_ok (hτ : τ.Ok P) {pub : List Nat} {ops : Array Oper} {i : Nat} {rest : List Nat} {k' : List Item} {E' : Env} {B' : List (Option Bx)} (h : regStep τ n pub ops i rest k E B = some (k', E', B')) (w : W C n ds k' E' B' L) : W C n ds (.inRegion ops (i :: rest) :: k) E B L := by
 unfold regStep at h
 split at h
 ·rename_i o ho
  split at h
  ·rename_i hg
   split at h
   ·rename_i d hd
    split at h
    ·rename_i hz
     split at h
     ·cases h
     ·split at h
      ·rename_i sv hs
       cases h
       exact W.val ho hg hd hz (semV_defer hs) (fun T R β hE hH => semV_ok hτ hE hH.boxes hs) w
      ·split at h
       ·rename_i x sh hx
        cases h
        refine W.oper ho hg (semA_defer hx) fun T R β hT hE hH => ?_
        obtain ⟨cs, mk, h1, h3, h2⟩ := semA_ok hτ hE hx
        obtain ⟨dst, op, ty, pos, af, gd⟩ := o
        refine h2 ty R dst pos af gd _ _ fun b hb => ?_
        exact W.fin_some ho hd (lt_of_blt hz) hT (hE.mono (Nm.set_le (hH.more x).2 b)) (hH.new hb h1) (h3 _ _ b (Nm.set_same _ _ _)) w
       ·cases h
    ·cases h
   ·rename_i hd
    split at h
    ·rename_i kk x hs
     cases h
     refine W.oper ho hg (semS_defer hs) fun T R β hT hE hH => ?_
     obtain ⟨dst, op, ty, pos, af, gd⟩ := o
     exact semS_ok hτ hE hH hs dst ty pos af gd _ _ fun R' hR' => W.fin_none ho hd hT hE hR' w
    ·split at h
     ·rename_i sv hs
      cases h
      refine W.oper ho hg (semV_defer hs) fun T R β hT hE hH => ?_
      obtain ⟨v, h1, h2⟩ := semV_ok hτ hE hH.boxes hs
      obtain ⟨dst, op, ty, pos, af, gd⟩ := o
      exact h2 ty dst pos af gd _ _ (W.fin_none ho hd hT hE hH w)
     ·cases h
  ·rename_i hg
   have un : ∀ {E1 : Env}, (∀ (T : Array Value) (R : LH) (β : Nm), T.size = n → EnvOk β (get E) T → HeapOk C.L0 C.R0 β B L R → C.X.Go (G ((Fr C.f T (.inRegion ops (i :: rest) :: k) ds .run C.kd C.ro).finish undef) C.cs) R) → W C n ds (.inRegion ops (i :: rest) :: k) E B L := by
    intro _ hh T R β hT hE hH
    refine C.X.unwanted ?_ (hh T R β hT hE hH)
    have ho' := ho
    rw [nth_eq, Array.getElem?_toList] at ho'
    rw [ho']
    simpa using guardOk_wanted hE hg
   split at h
   ·rename_i d hd
    split at h
    ·rename_i hz
     cases h
     exact un (E1 := E) fun T R β hT hE hH => W.fin_some ho hd (lt_of_blt hz) hT hE hH rfl w
    ·cases h
   ·rename_i hd
    cases h
    exact un (E1 := E) fun T R β hT hE hH => W.fin_none ho hd hT hE hH w
  ·cases h
 ·cases h
theorem stepC_ok {c : Code} {k' : List Item} {E' : Env} {B' : List (Option Bx)} (h : stepC k E B c = some (k', E', B')) (w : W C n ds k' E' B' L) : W C n ds (.code c :: k) E B L := by
 intro T R β hT hE hH
 unfold stepC at h
 split at h
 ·cases h; exact C.X.skip (w T R β hT hE hH)
 ·cases h; exact C.X.label (w T R β hT hE hH)
 ·cases h; exact C.X.seq (w T R β hT hE hH)
 ·split at h
  ·rename_i hc; cases h
   exact C.X.condT (Option.some.inj (hE.val hc)).symm (w T R β hT hE hH)
  ·rename_i hc; cases h
   exact C.X.condF (Option.some.inj (hE.val hc)).symm (w T R β hT hE hH)
  ·cases h
 ·cases h; exact C.X.block (w T R β hT hE hH)
 ·cases h; exact C.X.scope (w T R β hT hE hH)
 ·split at h
  ·rename_i hx; cases h; exact C.X.exit hx (w T R β hT hE hH)
  ·cases h
 ·split at h
  ·cases h; exact C.X.region rfl (w T R β hT hE hH)
  ·cases h
 ·cases h
theorem step1_ok (hτ : τ.Ok P) {pub : List Nat} {k' : List Item} {E' : Env} {B' : List (Option Bx)} (h : step1 τ n pub k E B = some (k', E', B')) (w : W C n ds k' E' B' L) : W C n ds k E B L := by
 unfold step1 at h
 split at h
 ·exact stepC_ok h w
 ·cases h; exact fun T R β hT hE hH => C.X.inBlock (w T R β hT hE hH)
 ·cases h; exact fun T R β hT hE hH => C.X.inScope (w T R β hT hE hH)
 ·cases h; exact fun T R β hT hE hH => C.X.regionEnd (w T R β hT hE hH)
 ·exact regStep_ok hτ h w
 ·cases h
theorem W.run (hτ : τ.Ok P) {pub : List Nat} (m : Nat) {k' : List Item} {E' : Env} {B' : List (Option Bx)} (h : runK τ n pub m k E B = (k', E', B')) (w : W C n ds k' E' B' L) : W C n ds k E B L := by
 induction m generalizing k E B with
 | zero => cases h; exact w
 | succ m ih =>
  unfold runK at h
  split at h
  ·rename_i k1 E1 B1 hs
   exact step1_ok hτ hs (ih h)
  ·cases h; exact w
theorem W.bool (s : Nat) {sv : SV} {p : Bool} (hs : get E s = some sv) (hb : boolOf sv = some p) (h1 : p = true → W C n ds k ((s, .lit true) :: E) B L) (h2 : p = false → W C n ds k ((s, .lit false) :: E) B L) : W C n ds k E B L := by
 intro T R β hT hE hH
 have hT' : T.getD s undef = .bool p := (Option.some.inj ((boolOf_den (β := β) hb).symm.trans (hE s _ hs))).symm
 have set : ∀ c, p = c → EnvOk β (get ((s, .lit c) :: E)) T := fun c hc s' x hx => by
  rw [get_cons] at hx
  by_cases e : s = s'
  ·subst e; rw [if_pos rfl] at hx; cases hx
   rw [hT', hc]; rfl
  ·rw [if_neg e] at hx; exact hE s' x hx
 cases p
 ·exact h2 rfl T R β hT (set _ rfl) hH
 ·exact h1 rfl T R β hT (set _ rfl) hH
def stopSlot : List Item → Option Nat
 | .code (.cond (.tmp s) _ _) :: _ => some s
 | .inRegion ops (i :: _) :: _ => match nth ops.toList i with
  | some o => match o.op, o.guard with
   | _, some (j, _) => match nth ops.toList j with | some o => o.dst | none => none
   | .pick (.tmp s) _ _, none => some s
   | _, none => none
  | none => none
 | _ => none
theorem W.split {s : Nat} {sv : SV} {p : Bool} (_h : stopSlot k = some s) (hs : get E s = some sv) (hb : boolOf sv = some p) (h1 : p = true → W C n ds k ((s, .lit true) :: E) B L) (h2 : p = false → W C n ds k ((s, .lit false) :: E) B L) : W C n ds k E B L := W.bool s hs hb h1 h2
def SubE (E : Env) : Env → Prop
 | [] => True
 | (s, x) :: r => get E s = some x ∧ SubE E r
theorem SubE.get {E : Env} : ∀ {E' : Env}, SubE E E' → ∀ s x, Go.Mz.get E' s = some x → Go.Mz.get E s = some x
 | [], _, s, x, h => by cases h
 | (s', x') :: r, hs, s, x, h => by
  rw [get_cons] at h
  by_cases e : s' = s
  ·subst e; rw [if_pos rfl] at h; cases h; exact hs.1
  ·rw [if_neg e] at h; exact hs.2.get s x h
def Nm.upto (β : Nm) (m : Nat) : Nm := fun k => if k < m then β k else none
theorem Nm.upto_lt (β : Nm) {k m : Nat} (h : k < m) : β.upto m k = β k := by simp [Nm.upto, h]
theorem Nm.upto_some {β : Nm} {k m b : Nat} (h : β.upto m k = some b) : k < m ∧ β k = some b := by
 unfold Nm.upto at h
 split at h
 ·exact ⟨‹_›, h⟩
 ·cases h
mutual
def sc (m : Nat) : SV → Bool
 | .v _ => true
 | .p k _ => Nat.blt k m
 | .a l => scL m l
 | .f _ a b => match scL m a with | true => scL m b | false => false
 | .i _ x => sc m x
 | .lit _ => true
 | .sl k _ _ _ => Nat.blt k m
def scL (m : Nat) : List SV → Bool
 | [] => true
 | x :: l => match sc m x with | true => scL m l | false => false
end
mutual
theorem sc_den {m : Nat} {β : Nm} : ∀ {x : SV} {v : Value}, sc m x = true → den β x = some v → den (β.upto m) x = some v
 | .v x, v, _, h => h
 | .p k off, v, hs, h => by
  unfold den at h ⊢
  rw [Nm.upto_lt β (lt_of_blt hs)]; exact h
 | .a l, v, hs, h => by
  unfold den at h ⊢
  cases hl : denL β l with
  | none => rw [hl] at h; cases h
  | some vs => rw [hl] at h; rw [scL_den hs hl]; exact h
 | .f fn f1 f2, v, hs, h => by
  unfold sc at hs
  unfold den at h ⊢
  cases h1 : denL β f1 with
  | none => rw [h1] at h; cases h
  | some vs1 =>
   cases h2 : denL β f2 with
   | none => rw [h1, h2] at h; cases h
   | some vs2 =>
    cases hs1 : scL m f1 with
    | false => rw [hs1] at hs; cases hs
    | true => rw [hs1] at hs; rw [h1, h2] at h; rw [scL_den hs1 h1, scL_den hs h2]; exact h
 | .i t x, v, hs, h => by
  unfold sc at hs
  unfold den at h ⊢
  cases hx : den β x with
  | none => rw [hx] at h; cases h
  | some u => rw [hx] at h; rw [sc_den hs hx]; exact h
 | .lit _, v, _, h => h
 | .sl k off len cap, v, hs, h => by
  unfold den at h ⊢
  rw [Nm.upto_lt β (lt_of_blt hs)]; exact h
theorem scL_den {m : Nat} {β : Nm} : ∀ {l : List SV} {vs : List Value}, scL m l = true → denL β l = some vs → denL (β.upto m) l = some vs
 | [], vs, _, h => h
 | x :: l, vs, hs, h => by
  unfold scL at hs
  obtain ⟨v, ws, h1, h2, rfl⟩ := denL_cons h
  cases hx : sc m x with
  | false => rw [hx] at hs; cases hs
  | true => rw [hx] at hs; exact denL_cons' (sc_den hx h1) (scL_den hs h2)
end
def scE (m : Nat) : Env → Bool
 | [] => true
 | (_, x) :: r => match sc m x with | true => scE m r | false => false
theorem scE_get {m : Nat} : ∀ {E : Env}, scE m E = true → ∀ s x, get E s = some x → sc m x = true
 | [], _, s, x, h => by cases h
 | (s', y) :: r, hs, s, x, h => by
  unfold scE at hs
  cases hy : sc m y with
  | false => rw [hy] at hs; cases hs
  | true =>
   rw [hy] at hs
   rw [get_cons] at h
   by_cases e : s' = s
   ·rw [if_pos e] at h; cases h; exact hy
   ·rw [if_neg e] at h; exact scE_get hs s x h
def scB (m : Nat) : List (Option Bx) → Bool
 | [] => true
 | some x :: r => match scL m x.cells with | true => scB m r | false => false
 | none :: r => scB m r
theorem scB_nth {m : Nat} : ∀ {B : List (Option Bx)}, scB m B = true → ∀ (k : Nat) (x : Bx), B[k]? = some (some x) → scL m x.cells = true
 | [], _, k, x, h => by simp at h
 | none :: r, hs, k, x, h => by
  unfold scB at hs
  cases k with
  | zero => simp at h
  | succ k => exact scB_nth hs k x (by simpa using h)
 | some y :: r, hs, k, x, h => by
  unfold scB at hs
  cases hy : scL m y.cells with
  | false => rw [hy] at hs; cases hs
  | true =>
   rw [hy] at hs
   cases k with
   | zero => simp at h; subst h; exact hy
   | succ k => exact scB_nth hs k x (by simpa using h)
def PreB : List (Option Bx) → List (Option Bx) → Prop
 | _, [] => True
 | x :: B, y :: B' => x = y ∧ PreB B B'
 | [], _ :: _ => False
theorem PreB.eq : ∀ {B B' : List (Option Bx)}, PreB B B' → ∃ G, B = B' ++ G
 | B, [], _ => ⟨B, rfl⟩
 | x :: B, y :: B', h => by
  obtain ⟨rfl, h⟩ := h
  obtain ⟨G, rfl⟩ := PreB.eq h
  exact ⟨G, rfl⟩
 | [], _ :: _, h => h.elim
theorem HeapOk.fewer {L0 R0 : LH} {β : Nm} {B B' : List (Option Bx)} {L R : LH} (h : HeapOk L0 R0 β (B ++ B') L R) (hs : scB B.length B = true) : HeapOk L0 R0 (β.upto B.length) B L R :=
 ⟨fun k k' b h1 h2 => h.inj k k' b (Nm.upto_some h1).2 (Nm.upto_some h2).2, fun k b h1 => (Nm.upto_some h1).1, fun k b h1 => h.al k b (Nm.upto_some h1).2, fun k b x hk hx => by
  obtain ⟨hlt, hk⟩ := Nm.upto_some hk
  obtain ⟨h1, h2, cs, h3, h4⟩ := h.box k b x hk (by rw [List.getElem?_append_left hlt]; exact hx)
  exact ⟨h1, h2, cs, scL_den (scB_nth hs k x hx) h3, h4⟩, h.le, h.keep, h.fresh, h.dom⟩
theorem W.weak {E' : Env} {B' : List (Option Bx)} (hE : SubE E E') (hB : PreB B B') (w : W C n ds k E' B' L) (h1 : scE B'.length E' = true := by rfl) (h2 : scB B'.length B' = true := by rfl) : W C n ds k E B L := by
 obtain ⟨G, rfl⟩ := hB.eq
 intro T R β hT hE' hH
 exact w T R _ hT (fun s x hx => sc_den (scE_get h1 s x hx) (hE' s x (hE.get s x hx))) (hH.fewer h2)
theorem W.again {E' : Env} {B' : List (Option Bx)} (w : W C n ds k E' B' L) (hE : SubE E E') (hB : PreB B B') (h1 : scE B'.length E' = true := by rfl) (h2 : scB B'.length B' = true := by rfl) : W C n ds k E B L := W.weak hE hB w h1 h2
theorem W.loop {c : Code} (I : Nat → Env → List (Option Bx) → LH → Prop) {m : Nat} {E' : Env} {B' : List (Option Bx)} (h0 : I m E' B' L) (hE : SubE E E') (hB : PreB B B')
  (h : ∀ m E B L, I m E B L → (∀ m' E' B' L', m' < m → I m' E' B' L' → W C n ds (.inLoop c :: k) E' B' L') → W C n ds (.code c :: .inLoop c :: k) E B L) (h1 : scE B'.length E' = true := by rfl) (h2 : scB B'.length B' = true := by rfl) : W C n ds (.code (.loop c) :: k) E B L := by
 have key : ∀ m E B L, I m E B L → W C n ds (.code c :: .inLoop c :: k) E B L := by
  intro m
  induction m using Nat.strongRecOn with
  | ind m ih => exact fun E B L hI => h m E B L hI fun m' E' B' L' hm hI' T R β hT hE hH => C.X.inLoop (ih m' hm E' B' L' hI' T R β hT hE hH)
 refine W.weak hE hB ?_ h1 h2
 exact fun T R β hT hE hH => C.X.loop (key m E' B' L h0 T R β hT hE hH)
theorem W.cut {k' : List Item} (J : Env → List (Option Bx) → LH → Prop) (hJ : ∀ E B L, J E B L → W C n ds k E B L) (h : (∀ E' B' L', J E' B' L' → W C n ds k E' B' L') → W C n ds k' E B L) : W C n ds k' E B L := h hJ
end
def Callable (P : Program) (f : FuncId) : Prop := ∃ fn : Func, P.funcs[f]? = some fn ∧ (fn.name == "runtime.NumGoroutine") = false ∧ fn.body.isNone = false
structure Post (L R : LH) (L' R' : LH) : Prop where
 le : Le L' R'
 keep : ∀ b x, L b = none → R b = some x → R' b = some x
 fresh : ∀ b, L' b ≠ none → L b ≠ none ∨ R b = none
 dom : ∀ b, L b ≠ none → L' b ≠ none
def Sp {P : Program} (X : Logic P) (f : FuncId) (args : List Value) (L : LH) (Q : Value → LH → Prop) (H : List PanicEntry → LH → Prop := fun _ _ => False) : Prop :=
 Callable P f ∧ ∀ R, Le L R → Fn X f args.toArray R (fun v R' => ∃ L', Q v L' ∧ Post L R L' R') (fun ch R' => ∃ L', H ch L' ∧ Post L R L' R')
theorem Sp.mono {P : Program} {X : Logic P} {f : FuncId} {args : List Value} {L : LH} {Q Q' : Value → LH → Prop} {H H' : List PanicEntry → LH → Prop} (h : Sp X f args L Q H) (hq : ∀ v L', Q v L' → Q' v L') (hh : ∀ c L', H c L' → H' c L') : Sp X f args L Q' H' :=
 ⟨h.1, fun R hR => (h.2 R hR).mono (fun _ _ ⟨L', h1, h2⟩ => ⟨L', hq _ _ h1, h2⟩) (fun _ _ ⟨L', h1, h2⟩ => ⟨L', hh _ _ h1, h2⟩)⟩
structure Rt {P : Program} (C : Cx P) (fn : Func) (Q : Value → LH → Prop) (H : List PanicEntry → LH → Prop := fun _ _ => False) : Prop where
 fn : P.funcs[C.f]? = some fn
 ro : C.ro = none
 kd : C.kd = .normal ∨ C.kd = .wrapped
 cs : ∃ c cs, C.cs = c :: cs ∧ (∀ v R' L', Q v L' → Post C.L0 C.R0 L' R' → C.X.Go (G (c.finish v) cs) R') ∧ (∀ ch R' L', H ch L' → Post C.L0 C.R0 L' R' → C.X.Go (G (c.raise ch) cs) R')
section
variable {P : Program} {τ : TT} {n : Nat} {ds : List Deferred} {k : List Item} {E : Env} {B : List (Option Bx)} {L : LH}
def argEnv : Nat → List Value → Env
 | _, [] => []
 | i, v :: vs => (i, .v v) :: argEnv (i + 1) vs
theorem argEnv_get : ∀ {vs : List Value} {i s : Nat} {x : SV}, get (argEnv i vs) s = some x → i ≤ s ∧ ∃ v, vs[s - i]? = some v ∧ x = .v v
 | [], _, _, _, h => by cases h
 | v :: vs, i, s, x, h => by
  unfold argEnv at h
  rw [get_cons] at h
  by_cases e : i = s
  ·subst e; rw [if_pos rfl] at h; cases h; exact ⟨Nat.le_refl _, v, by simp, rfl⟩
  ·rw [if_neg e] at h
   obtain ⟨h1, u, h2, h3⟩ := argEnv_get h
   exact ⟨by omega, u, by rw [show s - i = (s - (i + 1)) + 1 by omega]; simpa using h2, h3⟩
theorem Sp.enter {X : Logic P} {f : FuncId} {fn : Func} {body : Code} {args : List Value} {Q : Value → LH → Prop} {H : List PanicEntry → LH → Prop} (hf : P.funcs[f]? = some fn) (hb : fn.body = some body) (hn : (fn.name == "runtime.NumGoroutine") = false) (hz : fn.ntmps = n) (hle : Nat.ble args.length n = true)
  (h : ∀ C : Cx P, C.X = X → C.f = f → C.L0 = L → Rt C fn Q H → W C n [] [.code body] (argEnv 0 args) [] L) : Sp X f args L Q H := by
 refine ⟨⟨fn, hf, hn, by rw [hb]; rfl⟩, fun R hR => Fn.enter hf hb fun T kd c cs hT hk h1 h2 => ?_⟩
 have hsz : T.size = n := args_size hT hz (by simpa using Nat.le_of_ble_eq_true hle)
 refine h ⟨X, f, kd, none, c :: cs, L, R⟩ rfl rfl rfl ⟨hf, rfl, hk, c, cs, rfl, fun v R' L' hq hp => h1 v R' ⟨L', hq, hp⟩, fun ch R' L' hq hp => h2 ch R' ⟨L', hq, hp⟩⟩ T R nm0 hsz ?_ ⟨(fun _ _ _ h => by cases h), (fun _ _ h => by cases h), (fun _ _ h => by cases h), (fun k b x hk => by cases hk), hR, fun b x _ h => h, fun b hb => .inl hb, fun b hb => hb⟩
 intro s x hx
 obtain ⟨_, v, h3, rfl⟩ := argEnv_get hx
 rw [den, args_slot (j := s) hT (v := v) (by simpa using h3)]
variable {C : Cx P}
theorem HeapOk.post {β : Nm} {R : LH} (h : HeapOk C.L0 C.R0 β B L R) : Post C.L0 C.R0 L R := ⟨h.le, h.keep, h.fresh, h.dom⟩
theorem HeapOk.call {L0 R0 : LH} {β : Nm} {B : List (Option Bx)} {L R L' R' : LH} (h : HeapOk L0 R0 β B L R) (p : Post L R L' R') : HeapOk L0 R0 β B L' R' where
 inj := h.inj
 dm := h.dm
 al := fun k b hk => by
  have h1 := h.al k b hk
  cases hL : L b with
  | none =>
   cases hR : R b with
   | none => exact absurd hR h1
   | some y => rw [p.keep b y hL hR]; simp
  | some y =>
   have := p.dom b (by rw [hL]; simp)
   cases hL' : L' b with
   | none => exact absurd hL' this
   | some z => rw [p.le _ _ hL']; simp
 box := fun k b x hk hx => by
  obtain ⟨h1, h2, cs, h3, h4⟩ := h.box k b x hk hx
  have h5 := p.keep b _ h1 h4
  refine ⟨?_, h2, cs, h3, h5⟩
  cases hL : L' b with
  | none => rfl
  | some y =>
   rcases p.fresh b (by rw [hL]; simp) with e | e
   ·exact absurd h1 e
   ·rw [h4] at e; cases e
 le := p.le
 keep := fun b x h1 h2 => by
  have h3 := h.keep b x h1 h2
  have h4 : L b = none := by
   cases hL : L b with
   | none => rfl
   | some y =>
    rcases h.fresh b (by rw [hL]; simp) with e | e
    ·exact absurd h1 e
    ·rw [h2] at e; cases e
  exact p.keep b x h4 h3
 fresh := fun b hb => by
  rcases p.fresh b hb with e | e
  ·exact h.fresh b e
  ·exact .inr (h.free e).2
 dom := fun b hb => p.dom b (h.dom b hb)
def resS (τ : TT) (E : Look) (B : List (Option Bx)) : List ResultVar → Option (List SV)
 | [] => some []
 | .tmp t :: r => match E t, resS τ E B r with | some x, some l => some (x :: l) | _, _ => none
 | .cell a t :: r => match semLoad τ E B t (.tmp a), resS τ E B r with | some x, some l => some (x :: l) | _, _ => none
def retV : List Value → Value
 | [v] => v
 | l => .tuple l.toArray
theorem wpS_of_load {P : Program} {T : Array Value} {t : TypeId} {a : Tmp} {v : Value} {Q : Value → LH → Prop} {H : Value → LH → Prop} {R : LH} (hv : ∀ ty, Val P (.load t (.tmp a)) ty T R v) (ha : ∃ ad, T.getD a undef = .pointer (some ad)) (hq : Q v R) : wpS P Q H (do loadVar t (← asAddr (T.getD a undef))) R := by
 obtain ⟨ad, ha⟩ := ha
 have h := hv 0 none "" #[] none (fun nx L' => match nx with | .value u => Q u L' | _ => False) H hq
 have he : ev T (.tmp a) = .pointer (some ad) := ha
 simp only [execOp, he] at h
 rw [wpS_bind] at h
 unfold Instr.loadAt at h
 rw [wpS_bind] at h
 simp only [Instr.sureAddr, wpS_pure] at h
 rw [wpS_bind, ha]
 exact h
theorem resS_ok {β : Nm} {E : Look} {B : List (Option Bx)} {T : Array Value} {g : ResultVar → Sem Value} (hτ : τ.Ok P) (hg : ∀ t, g (.tmp t) = pure (T.getD t undef)) (hg2 : ∀ a t, g (.cell a t) = (do loadVar t (← asAddr (T.getD a undef)))) {Q : List Value → LH → Prop} {H : Value → LH → Prop} {R : LH} (hE : EnvOk β E T) (hB : Boxes β B R) :
  ∀ {rs : List ResultVar} {svs : List SV} {vs : List Value}, resS τ E B rs = some svs → denL β svs = some vs → Q vs R → wpS P Q H (rs.mapM g) R
 | [], svs, vs, h, hv, hq => by cases h; cases hv; exact hq
 | .tmp t :: r, svs, vs, h, hv, hq => by
  unfold resS at h
  cases h1 : E t with
  | none => rw [h1] at h; cases h
  | some x =>
   cases h2 : resS τ E B r with
   | none => rw [h1, h2] at h; cases h
   | some l =>
    rw [h1, h2] at h; cases h
    obtain ⟨v, ws, e1, e2, rfl⟩ := denL_cons hv
    have := hE t x h1
    rw [e1] at this; cases this
    rw [List.mapM_cons, wpS_bind, hg, wpS_pure, wpS_bind]
    exact resS_ok hτ hg hg2 hE hB h2 e2 hq
 | .cell a t :: r, svs, vs, h, hv, hq => by
  unfold resS at h
  cases h1 : semLoad τ E B t (.tmp a) with
  | none => rw [h1] at h; cases h
  | some x =>
   cases h2 : resS τ E B r with
   | none => rw [h1, h2] at h; cases h
   | some l =>
    rw [h1, h2] at h; cases h
    obtain ⟨v, ws, e1, e2, rfl⟩ := denL_cons hv
    obtain ⟨v', d1, d2⟩ := semLoad_ok hτ hE hB h1
    rw [e1] at d1; cases d1
    have hp : ∃ ad, T.getD a undef = .pointer (some ad) := by
     unfold semLoad at h1
     split at h1
     ·rename_i k off hx
      obtain ⟨b, hb, hv⟩ := den_p (hE.val hx)
      exact ⟨_, hv⟩
     ·cases h1
    rw [List.mapM_cons, wpS_bind, hg2]
    refine wpS_of_load d2 hp ?_
    rw [wpS_bind]
    exact resS_ok hτ hg hg2 hE hB h2 e2 hq
theorem W.retT (hτ : τ.Ok P) {fn : Func} {Q : Value → LH → Prop} {H : List PanicEntry → LH → Prop} {svs : List SV} {vs : List Value} (r : Rt C fn Q H) (hk : k = [] ∨ ∃ k', k = .code .ret :: k') (hs : resS τ (get E) B fn.results.toList = some svs) (hv : denL nm0 svs = some vs) (hq : Q (retV vs) L) : W C n [] k E B L := by
 intro T R β hT hE hH
 obtain ⟨hf, hro, hkd, c, cs, hcs, h1, _⟩ := r
 rw [hro, hcs]
 have key : ∀ k, C.X.Go (G (Fr C.f T k [] .returning C.kd none) (c :: cs)) R := fun k => by
  refine C.X.leave hf hkd ?_
  unfold results
  rw [wpS_bind, Array.mapM_eq_mapM_toList, ← bind_pure_comp, wpS_bind]
  refine resS_ok hτ (fun t => rfl) (fun a t => rfl) hE hH.boxes hs (denL_nil hv β) ?_
  simp only [wpS_pure]
  have e : (if h : vs.toArray.size = 1 then vs.toArray[0] else Value.tuple vs.toArray) = retV vs := by
   match vs with
   | [] => rfl
   | [v] => rfl
   | _ :: _ :: _ => rfl
  rw [e]
  exact h1 _ _ _ hq hH.post
 rcases hk with rfl | ⟨k', rfl⟩
 ·exact C.X.ending (key _)
 ·exact C.X.ret (key _)
end
end Go.Mz


namespace Go.Mz
open Go.Conc
def edgeM (m : Region.Mode) : List Edge → Nat
 | [] => 0
 | e :: r => match Region.binds m e with | true => Nat.lor (Nat.shiftLeft 1 e.on) (edgeM m r) | false => edgeM m r
def masks (m : Region.Mode) : List Oper → List Nat
 | [] => []
 | o :: r => edgeM m o.after.toList :: masks m r
def pass1 : List Nat → Nat → Nat → Nat
 | [], _, seen => seen
 | d :: r, i, seen => match Nat.testBit seen i, Nat.beq (Nat.land d seen) d with
  | false, true => pass1 r (i + 1) (Nat.lor seen (Nat.shiftLeft 1 i))
  | _, _ => pass1 r (i + 1) seen
def passes (ds : List Nat) : Nat → Nat → Nat
 | 0, seen => seen
 | n + 1, seen => match Nat.beq (pass1 ds 0 seen) seen with
  | true => seen
  | false => passes ds n (pass1 ds 0 seen)
def fullB (n seen : Nat) : Bool := Nat.beq seen (Nat.shiftLeft 1 n - 1)
def okOrd (m : Region.Mode) (ops : List Oper) : Bool := fullB ops.length (passes (masks m ops) 8 0)
theorem edgeM_bit {m : Region.Mode} : ∀ {l : List Edge} {e : Edge}, e ∈ l → Region.binds m e = true → (edgeM m l).testBit e.on = true
 | [], e, h, _ => by cases h
 | x :: l, e, h, hb => by
  unfold edgeM
  rcases List.mem_cons.1 h with rfl | h
  ·rw [hb]
   show (Nat.shiftLeft 1 e.on ||| edgeM m l).testBit e.on = true
   rw [Nat.testBit_or]
   have : (Nat.shiftLeft 1 e.on).testBit e.on = true := by
    show (1 <<< e.on).testBit e.on = true
    rw [Nat.one_shiftLeft, Nat.testBit_two_pow_self]
   rw [this]; rfl
  ·have ih := edgeM_bit h hb
   cases Region.binds m x with
   | false => exact ih
   | true =>
    show (Nat.shiftLeft 1 x.on ||| edgeM m l).testBit e.on = true
    rw [Nat.testBit_or, ih, Bool.or_true]
theorem masks_get {m : Region.Mode} : ∀ {l : List Oper} {i : Nat} {o : Oper}, l[i]? = some o → (masks m l)[i]? = some (edgeM m o.after.toList)
 | [], i, o, h => by simp at h
 | x :: l, 0, o, h => by simp at h; subst h; rfl
 | x :: l, i + 1, o, h => by
  show (masks m l)[i]? = _
  exact masks_get (by simpa using h)
def Ranks (ds : List Nat) (seen : Nat) : Prop := ∃ (rk : Nat → Nat) (t : Nat), ∀ i, seen.testBit i = true → rk i < t ∧ ∃ d, ds[i]? = some d ∧ ∀ j, d.testBit j = true → seen.testBit j = true ∧ rk j < rk i
theorem pass1_ok {ds : List Nat} : ∀ {l : List Nat} {i seen : Nat}, (∀ k d, l[k]? = some d → ds[i + k]? = some d) → Ranks ds seen → Ranks ds (pass1 l i seen)
 | [], _, _, _, h => h
 | d :: r, i, seen, hl, h => by
  have hr : ∀ k d', r[k]? = some d' → ds[i + 1 + k]? = some d' := fun k d' hk => by
   rw [show i + 1 + k = i + (k + 1) by omega]; exact hl (k + 1) d' (by simpa using hk)
  unfold pass1
  split
  ·rename_i h1 h2
   refine pass1_ok hr ?_
   have h2 := Nat.eq_of_beq_eq_true h2
   obtain ⟨rk, t, hk⟩ := h
   have hbit : ∀ j, (seen ||| (1 <<< i)).testBit j = (seen.testBit j || decide (j = i)) := fun j => by
    rw [Nat.testBit_or, Nat.one_shiftLeft]
    congr 1
    by_cases e : i = j
    ·subst e; simp
    ·rw [Nat.testBit_two_pow_of_ne e]; simp [Ne.symm e]
   refine ⟨fun j => if j = i then t else rk j, t + 1, fun j hj => ?_⟩
   change (seen ||| (1 <<< i)).testBit j = true at hj
   rw [hbit] at hj
   by_cases e : j = i
   ·subst e
    simp only [if_true]
    refine ⟨by omega, d, by simpa using hl 0 d rfl, fun j' hj' => ?_⟩
    have hs : seen.testBit j' = true := by
     have := congrArg (fun n => n.testBit j') h2
     change (d &&& seen).testBit j' = d.testBit j' at this
     rw [Nat.testBit_and, hj'] at this
     simpa using this
    have hne : j' ≠ j := fun e => by subst e; rw [h1] at hs; cases hs
    refine ⟨by change (seen ||| (1 <<< j)).testBit j' = true; rw [hbit, hs]; rfl, ?_⟩
    simp only [hne, if_false]; exact (hk j' hs).1
   ·simp only [e, decide_false, Bool.or_false] at hj
    obtain ⟨g1, d', g2, g3⟩ := hk j hj
    refine ⟨by simp only [e, if_false]; omega, d', g2, fun j' hj' => ?_⟩
    obtain ⟨g4, g5⟩ := g3 j' hj'
    have hne : j' ≠ i := fun e => by subst e; rw [h1] at g4; cases g4
    refine ⟨by change (seen ||| (1 <<< i)).testBit j' = true; rw [hbit, g4]; rfl, ?_⟩
    simp only [e, hne, if_false]; exact g5
  ·exact pass1_ok hr h
theorem passes_ok {ds : List Nat} : ∀ {n seen : Nat}, Ranks ds seen → Ranks ds (passes ds n seen)
 | 0, _, h => h
 | n + 1, seen, h => by
  unfold passes
  split
  ·exact h
  ·exact passes_ok (pass1_ok (fun k d hk => by simpa using hk) h)
theorem okOrd_ok {m : Region.Mode} {ops : Array Oper} (h : okOrd m ops.toList = true) : ∃ rk, ranked m ops rk = true := by
 unfold okOrd fullB at h
 have h := Nat.eq_of_beq_eq_true h
 obtain ⟨rk, t, hk⟩ : Ranks (masks m ops.toList) (passes (masks m ops.toList) 8 0) := passes_ok ⟨fun _ => 0, 0, fun i hi => by simp at hi⟩
 have hf : ∀ i, (passes (masks m ops.toList) 8 0).testBit i = decide (i < ops.size) := fun i => by
  rw [h]
  show ((1 <<< ops.toList.length) - 1).testBit i = _
  rw [Nat.one_shiftLeft, Nat.testBit_two_pow_sub_one, Array.length_toList]
 refine ⟨rk, ?_⟩
 unfold ranked
 rw [List.all_eq_true]
 intro i hi
 have hlt := List.mem_range.1 hi
 obtain ⟨_, d, h1, h2⟩ := hk i (by rw [hf]; simpa using hlt)
 cases ho : ops[i]? with
 | none => rfl
 | some o =>
  simp only
  rw [List.all_eq_true]
  intro e he
  cases hb : Region.binds m e with
  | false => rfl
  | true =>
   rw [masks_get (o := o) (by rw [Array.getElem?_toList]; exact ho)] at h1
   cases h1
   obtain ⟨g1, g2⟩ := h2 e.on (edgeM_bit he hb)
   rw [hf] at g1
   simp only [Bool.not_true, Bool.false_or, Bool.and_eq_true, decide_eq_true_eq]
   exact ⟨g2, by simpa using g1⟩
def dsts (n : Nat) : List Oper → Nat → Bool
 | [], _ => true
 | o :: r, seen => match o.dst with
  | none => dsts n r seen
  | some d => match Nat.testBit seen d, Nat.blt d n with
   | false, true => dsts n r (Nat.lor seen (Nat.shiftLeft 1 d))
   | _, _ => false
theorem dsts_ok {n : Nat} : ∀ {l : List Oper} {seen : Nat}, dsts n l seen = true → (∀ (i d : Nat), (l[i]?).bind (·.dst) = some d → d < n ∧ seen.testBit d = false) ∧ ∀ (i j d : Nat), (l[i]?).bind (·.dst) = some d → (l[j]?).bind (·.dst) = some d → i = j
 | [], _, _ => ⟨fun i d h => by simp at h, fun i j d h => by simp at h⟩
 | o :: r, seen, h => by
  unfold dsts at h
  have bit : ∀ d j, (seen ||| (1 <<< d)).testBit j = (seen.testBit j || decide (j = d)) := fun d j => by
   rw [Nat.testBit_or, Nat.one_shiftLeft]
   congr 1
   by_cases e : d = j
   ·subst e; simp
   ·rw [Nat.testBit_two_pow_of_ne e]; simp [Ne.symm e]
  split at h
  ·rename_i hd
   obtain ⟨h1, h2⟩ := dsts_ok h
   refine ⟨fun i d hi => ?_, fun i j d hi hj => ?_⟩
   ·cases i with
    | zero => simp [hd] at hi
    | succ i => exact h1 i d (by simpa using hi)
   ·cases i with
    | zero => simp [hd] at hi
    | succ i =>
     cases j with
     | zero => simp [hd] at hj
     | succ j => rw [h2 i j d (by simpa using hi) (by simpa using hj)]
  ·rename_i d0 hd
   split at h
   ·rename_i g1 g2
    obtain ⟨h1, h2⟩ := dsts_ok h
    have h1' : ∀ (i d : Nat), (r[i]?).bind (·.dst) = some d → d < n ∧ seen.testBit d = false ∧ d ≠ d0 := fun i d hi => by
     obtain ⟨a, b⟩ := h1 i d hi
     change (seen ||| (1 <<< d0)).testBit d = false at b
     rw [bit] at b
     simp only [Bool.or_eq_false_iff, decide_eq_false_iff_not] at b
     exact ⟨a, b⟩
    refine ⟨fun i d hi => ?_, fun i j d hi hj => ?_⟩
    ·cases i with
     | zero =>
      simp [hd] at hi; subst hi
      exact ⟨Nat.le_of_ble_eq_true g2, g1⟩
     | succ i => exact ⟨(h1' i d (by simpa using hi)).1, (h1' i d (by simpa using hi)).2.1⟩
    ·cases i with
     | zero =>
      cases j with
      | zero => rfl
      | succ j =>
       simp [hd] at hi; subst hi
       exact absurd rfl (h1' j _ (by simpa using hj)).2.2
     | succ i =>
      cases j with
      | zero =>
       simp [hd] at hj; subst hj
       exact absurd rfl (h1' i _ (by simpa using hi)).2.2
      | succ j => rw [h2 i j d (by simpa using hi) (by simpa using hj)]
   ·cases h
def okQ (ops : Array Oper) (n : Nat) : Bool := match okOrd .any ops.toList, okOrd .text ops.toList, okOrd .gc ops.toList with
 | true, true, true => dsts n ops.toList 0
 | _, _, _ => false
theorem okQ_ok {ops : Array Oper} {n : Nat} (h : okQ ops n = true) : (∃ r1, ranked .any ops r1 = true) ∧ (∃ r2, ranked .text ops r2 = true) ∧ (∃ r3, ranked .gc ops r3 = true) ∧ distinctDst ops = true ∧ dstBelow ops n = true := by
 unfold okQ at h
 split at h
 ·rename_i h1 h2 h3
  obtain ⟨g1, g2⟩ := dsts_ok h
  have conv : ∀ i, dstOf ops i = (ops.toList[i]?).bind (·.dst) := fun i => by unfold dstOf; rw [Array.getElem?_toList]
  refine ⟨okOrd_ok h1, okOrd_ok h2, okOrd_ok h3, ?_, ?_⟩
  ·unfold distinctDst
   rw [List.all_eq_true]; intro i _
   rw [List.all_eq_true]; intro j _
   rw [conv, conv]
   cases hi : (ops.toList[i]?).bind (·.dst) with
   | none => simp
   | some d =>
    cases hj : (ops.toList[j]?).bind (·.dst) with
    | none => simp
    | some d' =>
     by_cases e : d = d'
     ·subst e
      simp [g2 i j d hi hj]
     ·simp [e]
  ·unfold dstBelow
   rw [List.all_eq_true]; intro i _
   rw [conv]
   cases hi : (ops.toList[i]?).bind (·.dst) with
   | none => rfl
   | some d => simpa using (g1 i d hi).1
 ·cases h
end Go.Mz


namespace Go.Mz
open Go.Conc
def depsO : List Edge → List Nat
 | [] => []
 | e :: r => match always e with | true => e.on :: depsO r | false => depsO r
def depsL (ops : List Oper) (i : Nat) : List Nat := match nth ops i with
 | some o => depsO o.after.toList
 | none => []
theorem depsO_eq : ∀ (l : List Edge), depsO l = (l.filter always).map (·.on)
 | [] => rfl
 | e :: r => by
  unfold depsO
  cases h : always e with
  | true => simp [h, depsO_eq r]
  | false => simp [h, depsO_eq r]
theorem depsL_eq (ops : Array Oper) (i : Nat) : depsL ops.toList i = depsOf ops i := by
 unfold depsL depsOf
 rw [nth_eq, Array.getElem?_toList]
 cases ops[i]? with
 | none => rfl
 | some o => exact depsO_eq _
def writer (s : Nat) : List Oper → Nat → Option Nat
 | [], _ => none
 | o :: r, n => match o.dst with
  | some d => match Nat.beq d s with | true => some n | false => writer s r (n + 1)
  | none => writer s r (n + 1)
theorem writer_some {s : Nat} : ∀ {l : List Oper} {n j : Nat}, writer s l n = some j → n ≤ j ∧ ∃ o, l[j - n]? = some o ∧ o.dst = some s
 | [], _, _, h => by cases h
 | o :: r, n, j, h => by
  unfold writer at h
  split at h
  ·rename_i d hd
   split at h
   ·rename_i hb
    cases h
    obtain rfl := Nat.eq_of_beq_eq_true hb
    exact ⟨Nat.le_refl _, o, by simp, hd⟩
   ·obtain ⟨h1, o', h2, h3⟩ := writer_some h
    exact ⟨by omega, o', by rw [show j - n = (j - (n + 1)) + 1 by omega]; simpa using h2, h3⟩
  ·obtain ⟨h1, o', h2, h3⟩ := writer_some h
   exact ⟨by omega, o', by rw [show j - n = (j - (n + 1)) + 1 by omega]; simpa using h2, h3⟩
theorem writer_none {s : Nat} : ∀ {l : List Oper} {n : Nat}, writer s l n = none → ∀ (j : Nat) (o : Oper), l[j]? = some o → o.dst ≠ some s
 | [], _, _, j, o, h => by simp at h
 | p :: r, n, h, j, o, hj => by
  unfold writer at h
  split at h
  ·rename_i d hd
   split at h
   ·cases h
   ·rename_i hb
    cases j with
    | zero =>
     simp at hj; subst hj
     intro e
     rw [hd] at e; cases e
     simp at hb
    | succ j => exact writer_none h j o (by simpa using hj)
  ·rename_i hd
   cases j with
   | zero => simp at hj; subst hj; rw [hd]; simp
   | succ j => exact writer_none h j o (by simpa using hj)
def lookV (ops : List Oper) (i : Nat) (V E0 : Env) : Look := fun s => match writer s ops 0 with
 | none => get E0 s
 | some j => match inN (depsL ops i) j with
  | true => get V s
  | false => match inN (depsL ops j) i with
   | true => get E0 s
   | false => none
theorem inN_iff {l : List Nat} {d : Nat} : inN l d = true ↔ d ∈ l := by
 induction l with
 | nil => simp [inN]
 | cons x r ih =>
  unfold inN
  cases hb : Nat.beq x d with
  | true => simp [Nat.eq_of_beq_eq_true hb]
  | false =>
   have hne : d ≠ x := fun e => by subst e; simp at hb
   simp [ih, hne]
def subN (td : List Nat) : List Nat → Bool
 | [] => true
 | x :: r => match inN td x with | true => subN td r | false => false
theorem subN_iff {td l : List Nat} (h : subN td l = true) : ∀ x ∈ l, x ∈ td := by
 induction l with
 | nil => simp
 | cons y r ih =>
  unfold subN at h
  cases hy : inN td y with
  | false => rw [hy] at h; cases h
  | true =>
   rw [hy] at h
   intro x hx
   rcases List.mem_cons.1 hx with rfl | hx
   ·exact inN_iff.1 hy
   ·exact ih h x hx
def onlyN (ops : List Oper) (td pe : List Nat) : Nat → Bool
 | 0 => true
 | i + 1 => match inN td i, inN pe i, subN td (depsL ops i) with
  | false, false, true => false
  | _, _, _ => onlyN ops td pe i
theorem subN_of {td : List Nat} : ∀ {l : List Nat}, (∀ x ∈ l, x ∈ td) → subN td l = true
 | [], _ => rfl
 | x :: r, h => by
  unfold subN
  rw [inN_iff.2 (h x List.mem_cons_self)]
  exact subN_of fun y hy => h y (List.mem_cons_of_mem _ hy)
def reachN (ops : List Oper) : Nat → List Nat → Nat → Bool
 | 0, l, j => inN l j
 | f + 1, l, j => match inN l j with | true => true | false => l.any fun k => reachN ops f (depsL ops k) j
def subT (ops : List Oper) (deps : List Nat) : List Nat → Bool
 | [] => true
 | j :: r => match reachN ops 4 deps j with | true => subT ops deps r | false => false
theorem reachN_in {ops : List Oper} {S : List Nat} (hS : ∀ k ∈ S, ∀ j ∈ depsL ops k, j ∈ S) : ∀ {f : Nat} {l : List Nat} {j : Nat}, reachN ops f l j = true → (∀ k ∈ l, k ∈ S) → j ∈ S
 | 0, l, j, h, hl => hl j (inN_iff.1 h)
 | f + 1, l, j, h, hl => by
  unfold reachN at h
  cases hk : inN l j with
  | true => exact hl j (inN_iff.1 hk)
  | false =>
   rw [hk] at h
   obtain ⟨k, h1, h2⟩ := List.any_eq_true.1 h
   exact reachN_in hS h2 (hS k (hl k h1))
theorem subT_in {ops : List Oper} {S deps : List Nat} (hS : ∀ k ∈ S, ∀ j ∈ depsL ops k, j ∈ S) (hd : ∀ k ∈ deps, k ∈ S) : ∀ {l : List Nat}, subT ops deps l = true → ∀ j ∈ l, j ∈ S
 | [], _, _, hj => by cases hj
 | x :: r, h, j, hj => by
  unfold subT at h
  cases hx : reachN ops 4 deps x with
  | true =>
   rw [hx] at h
   rcases List.mem_cons.1 hj with rfl | hj
   ·exact reachN_in hS hx hd
   ·exact subT_in hS hd h j hj
  | false => rw [hx] at h; cases h
theorem onlyN_ok {ops : List Oper} {td pe : List Nat} : ∀ {n : Nat}, onlyN ops td pe n = true → ∀ i, i < n → i ∉ td → (∀ j ∈ depsL ops i, j ∈ td) → i ∈ pe
 | 0, _, i, h, _, _ => by omega
 | n + 1, h, i, hi, ht, hd => by
  by_cases e : i = n
  ·subst e
   unfold onlyN at h
   have h1 : inN td i = false := by
    cases hx : inN td i with
    | false => rfl
    | true => exact absurd (inN_iff.1 hx) ht
   rw [h1, subN_of hd] at h
   cases hx : inN pe i with
   | true => exact inN_iff.1 hx
   | false => rw [hx] at h; cases h
  ·refine onlyN_ok (n := n) ?_ i (by omega) ht hd
   unfold onlyN at h
   split at h
   ·cases h
   ·exact h
def onlyP (ops : List Oper) (td : List Nat) (p : Nat) : Nat → Bool
 | 0 => true
 | i + 1 => match inN td i, inN (depsL ops i) p, subN td (depsL ops i) with
  | false, false, true => false
  | _, _, _ => onlyP ops td p i
theorem onlyP_ok {ops : List Oper} {td : List Nat} {p : Nat} : ∀ {n : Nat}, onlyP ops td p n = true → ∀ i, i < n → i ∉ td → (∀ j ∈ depsL ops i, j ∈ td) → p ∈ depsL ops i
 | 0, _, i, h, _, _ => by omega
 | n + 1, h, i, hi, ht, hd => by
  by_cases e : i = n
  ·subst e
   unfold onlyP at h
   have h1 : inN td i = false := by
    cases hx : inN td i with
    | false => rfl
    | true => exact absurd (inN_iff.1 hx) ht
   rw [h1, subN_of hd] at h
   cases hx : inN (depsL ops i) p with
   | true => exact inN_iff.1 hx
   | false => rw [hx] at h; cases h
  ·refine onlyP_ok (n := n) ?_ i (by omega) ht hd
   unfold onlyP at h
   split at h
   ·cases h
   ·exact h
def allN (td : List Nat) : Nat → Bool
 | 0 => true
 | i + 1 => match inN td i with | true => allN td i | false => false
theorem allN_ok {td : List Nat} : ∀ {n : Nat}, allN td n = true → ∀ i, i < n → i ∈ td
 | 0, _, i, h => by omega
 | n + 1, h, i, hi => by
  unfold allN at h
  cases hx : inN td n with
  | false => rw [hx] at h; cases h
  | true =>
   rw [hx] at h
   by_cases e : i = n
   ·subst e; exact inN_iff.1 hx
   ·exact allN_ok h i (by omega)
def addV : Option Nat → SV → Env → Env
 | some d, sv, V => (d, sv) :: V
 | none, _, V => V
mutual
def pubS (k b : Nat) : SV → SV
 | .v x => .v x
 | .p k' off => match Nat.beq k' k with | true => .v (.pointer (some ⟨b, off, none⟩)) | false => .p k' off
 | .a l => .a (pubL k b l)
 | .f fn x y => .f fn (pubL k b x) (pubL k b y)
 | .i t x => .i t (pubS k b x)
 | .lit c => .lit c
 | .sl k' off len cap => match Nat.beq k' k with | true => .v (.slice (some ⟨b, off, none⟩) len cap) | false => .sl k' off len cap
def pubL (k b : Nat) : List SV → List SV
 | [] => []
 | x :: l => pubS k b x :: pubL k b l
end
mutual
theorem pubS_den {β : Nm} {k b : Nat} (hk : β k = some b) : ∀ (x : SV), den β (pubS k b x) = den β x
 | .v x => rfl
 | .p k' off => by
  unfold pubS
  cases hb : Nat.beq k' k with
  | true => obtain rfl := Nat.eq_of_beq_eq_true hb; simp only [den, hk]
  | false => rfl
 | .a l => by unfold pubS den; rw [pubL_den hk l]
 | .f fn x y => by unfold pubS den; rw [pubL_den hk x, pubL_den hk y]
 | .i t x => by unfold pubS den; rw [pubS_den hk x]
 | .lit c => rfl
 | .sl k' off len cap => by
  unfold pubS
  cases hb : Nat.beq k' k with
  | true => obtain rfl := Nat.eq_of_beq_eq_true hb; simp only [den, hk]
  | false => rfl
theorem pubL_den {β : Nm} {k b : Nat} (hk : β k = some b) : ∀ (x : List SV), denL β (pubL k b x) = denL β x
 | [] => rfl
 | x :: l => by unfold pubL denL; rw [pubS_den hk x, pubL_den hk l]
end
mutual
theorem pubS_id {γ : Nm} {k b : Nat} (hk : γ k = none) : ∀ {x : SV} {v : Value}, den γ x = some v → pubS k b x = x
 | .v x, _, _ => rfl
 | .p k' off, v, h => by
  unfold pubS
  cases hb : Nat.beq k' k with
  | true =>
   obtain rfl := Nat.eq_of_beq_eq_true hb
   unfold den at h; rw [hk] at h; cases h
  | false => rfl
 | .a l, v, h => by
  unfold den at h
  cases hl : denL γ l with
  | none => rw [hl] at h; cases h
  | some vs => unfold pubS; rw [pubL_id hk hl]
 | .f fn x y, v, h => by
  unfold den at h
  cases h1 : denL γ x with
  | none => rw [h1] at h; cases h
  | some a =>
   cases h2 : denL γ y with
   | none => rw [h1, h2] at h; cases h
   | some c => unfold pubS; rw [pubL_id hk h1, pubL_id hk h2]
 | .i t x, v, h => by
  unfold den at h
  cases hx : den γ x with
  | none => rw [hx] at h; cases h
  | some u => unfold pubS; rw [pubS_id hk hx]
 | .lit c, _, _ => rfl
 | .sl k' off len cap, v, h => by
  unfold pubS
  cases hb : Nat.beq k' k with
  | true =>
   obtain rfl := Nat.eq_of_beq_eq_true hb
   unfold den at h; rw [hk] at h; cases h
  | false => rfl
theorem pubL_id {γ : Nm} {k b : Nat} (hk : γ k = none) : ∀ {x : List SV} {v : List Value}, denL γ x = some v → pubL k b x = x
 | [], _, _ => rfl
 | x :: l, v, h => by
  obtain ⟨u, us, h1, h2, _⟩ := denL_cons h
  unfold pubL; rw [pubS_id hk h1, pubL_id hk h2]
end
def pubE (k b : Nat) : Env → Env
 | [] => []
 | (s, x) :: r => (s, pubS k b x) :: pubE k b r
theorem pubE_get (k b : Nat) : ∀ (E : Env) (s : Nat), get (pubE k b E) s = (get E s).map (pubS k b)
 | [], s => rfl
 | (s', x) :: r, s => by
  unfold pubE
  rw [get_cons, get_cons]
  by_cases e : s' = s
  ·rw [if_pos e, if_pos e]; rfl
  ·rw [if_neg e, if_neg e]; exact pubE_get k b r s
theorem pubE_ok {β : Nm} {k b : Nat} {E : Env} {T : Array Value} (hk : β k = some b) (h : EnvOk β (get E) T) : EnvOk β (get (pubE k b E)) T := fun s x hx => by
 rw [pubE_get, Option.map_eq_some_iff] at hx
 obtain ⟨y, h1, rfl⟩ := hx
 rw [pubS_den hk]; exact h s y h1
section
variable {P : Program} {C : Cx P} {τ : TT} {n : Nat} {ds : List Deferred} {k : List Item} {E : Env} {B : List (Option Bx)} {L : LH}
theorem W.pub (s : Nat) {kk : Nat} {x : Bx} {cs : List Value} (hs : (∃ off, get E s = some (.p kk off)) ∨ (∃ off len cap, get E s = some (.sl kk off len cap))) (hx : nth B kk = some (some x)) (hc : denL nm0 x.cells = some cs)
  (w : ∀ b, L b = none → C.R0 b = none → W C n ds k (pubE kk b E) (B.set kk none) (L.put b (.cells cs.toArray x.ty))) : W C n ds k E B L := by
 intro T R β hT hE hH
 have hb : ∃ b, β kk = some b := by
  rcases hs with ⟨off, hs⟩ | ⟨off, len, cap, hs⟩
  ·obtain ⟨b, hb, _⟩ := den_p (hE s _ hs); exact ⟨b, hb⟩
  ·have := hE s _ hs
   unfold den at this
   cases hk : β kk with
   | none => rw [hk] at this; cases this
   | some b => exact ⟨b, rfl⟩
 obtain ⟨b, hb⟩ := hb
 have hx' : B[kk]? = some (some x) := by rw [← nth_eq]; exact hx
 obtain ⟨h1, h2⟩ := hH.pub hb hx' hc
 exact w b h1 (hH.box kk b x hb hx').2.1 T R β hT (pubE_ok hb hE) h2
end
section
variable {P : Program} (C : Cx P) (τ : TT) (n : Nat) (ds : List Deferred) (ops : Array Oper) (k : List Item) (m : Nat) (Lf : LH)
inductive DD : List Nat → Env → Env → List (Option Bx) → LH → Prop
 | reg {td : List Nat} {V E0 : Env} {B : List (Option Bx)} {L : LH} (i : Nat) {o : Oper} {d : Nat} {sv : SV} (ho : nth ops.toList i = some o) (hn : inN td i = false) (hdp : subN td (depsL ops.toList i) = true) (hd : o.dst = some d) (hdf : isDefer o.op = false)
   (hg : guardOk (lookV ops.toList i V E0) ops.toList o.guard = some true) (hv : ∀ (T : Array Value) (R : LH) (β : Nm), EnvOk β (lookV ops.toList i V E0) T → Boxes β (B.take m) R → Le Lf R → Vld P β o.op T R sv) (w : DD (i :: td) ((d, sv) :: V) E0 B L) : DD td V E0 B L
 | no {td : List Nat} {V E0 : Env} {B : List (Option Bx)} {L : LH} (i : Nat) {o : Oper} {d : Nat} (ho : nth ops.toList i = some o) (hn : inN td i = false) (hdp : subN td (depsL ops.toList i) = true) (hd : o.dst = some d)
   (hg : guardOk (lookV ops.toList i V E0) ops.toList o.guard = some false) (w : DD (i :: td) ((d, .v undef) :: V) E0 B L) : DD td V E0 B L
 | alc {td : List Nat} {V E0 : Env} {B : List (Option Bx)} {L : LH} (i : Nat) {o : Oper} {d : Nat} {x : Bx} {sh : Nat → SV} (ho : nth ops.toList i = some o) (hn : inN td i = false) (hdp : subN td (depsL ops.toList i) = true) (hd : o.dst = some d)
   (hg : guardOk (lookV ops.toList i V E0) ops.toList o.guard = some true) (hs : semA τ (lookV ops.toList i V E0) o.op = some (x, sh)) (w : DD (i :: td) ((d, sh B.length) :: V) E0 (B ++ [some x]) L) : DD td V E0 B L
 | eff {td : List Nat} {V E0 : Env} {B : List (Option Bx)} {L : LH} (pe : List Nat) (Q : Nat → SV → List (Option Bx) → LH → Prop) (e0 : Nat) (h0 : Nat.blt e0 ops.size = true) (hn0 : inN td e0 = false) (hall : onlyN ops.toList td pe ops.size = true)
   (he : ∀ e ∈ pe, subN td (depsL ops.toList e) = true → ∃ o, nth ops.toList e = some o ∧ guardOk (lookV ops.toList e V E0) ops.toList o.guard = some true ∧
    ∀ (T : Array Value) (R : LH) (β : Nm), EnvOk β (lookV ops.toList e V E0) T → HeapOk C.L0 C.R0 β B L R → EffW C.X o T R (fun v R' => ∃ sv B' L', Q e sv B' L' ∧ den β sv = some v ∧ HeapOk C.L0 C.R0 β B' L' R' ∧ ∀ kk, β kk = none → B'[kk]? = B[kk]?))
   (hq : ∀ e ∈ pe, subN td (depsL ops.toList e) = true → ∀ sv B' L', Q e sv B' L' → Le Lf L' ∧ B'.length = B.length ∧ (B'.take m = B.take m ∨ subT ops.toList (depsL ops.toList e) td = true))
   (w : ∀ e ∈ pe, subN td (depsL ops.toList e) = true → ∀ sv B' L', Q e sv B' L' → DD (e :: td) (addV (dstOf ops e) sv V) E0 B' L') : DD td V E0 B L
 | pub {td : List Nat} {V E0 : Env} {B : List (Option Bx)} {L : LH} (p : Nat) {d kk : Nat} {x : Bx} {cs : List Value} (hp : inN td p = true) (hd : dstOf ops p = some d) (hs : (∃ off, get V d = some (.p kk off)) ∨ (∃ off len cap, get V d = some (.sl kk off len cap))) (hm : Nat.ble m kk = true)
   (e0 : Nat) (h0 : Nat.blt e0 ops.size = true) (hn0 : inN td e0 = false) (hall : onlyP ops.toList td p ops.size = true) (hx : nth B kk = some (some x)) (hc : denL nm0 x.cells = some cs)
   (w : ∀ b, L b = none → C.R0 b = none → DD td (pubE kk b V) E0 (B.set kk none) (L.put b (.cells cs.toArray x.ty))) : DD td V E0 B L
 | pan {td : List Nat} {V E0 : Env} {B : List (Option Bx)} {L : LH} (e0 : Nat) {o : Oper} (h0 : Nat.blt e0 ops.size = true) (hn0 : inN td e0 = false) (hall : onlyN ops.toList td [e0] ops.size = true) (ho : nth ops.toList e0 = some o) (hg : guardOk (lookV ops.toList e0 V E0) ops.toList o.guard = some true)
   (he : ∀ (T : Array Value) (R : LH) (β : Nm) (k' : List Item), T.size = n → EnvOk β (lookV ops.toList e0 V E0) T → HeapOk C.L0 C.R0 β B L R → isDefer o.op = false ∧
    wpS P (nextOut P C.X.Go (Fr C.f T k' ds .run C.kd C.ro) C.cs .normal) (panicOut C.X.Go (Fr C.f T k' ds .run C.kd C.ro) C.cs) (execOp (ev T) o) R) : DD td V E0 B L
 | rest {td : List Nat} {V E0 : Env} {B : List (Option Bx)} {L : LH} (e0 : Nat) (h0 : Nat.blt e0 ops.size = true) (hn0 : inN td e0 = false) (hall : allN (e0 :: td) ops.size = true) (hsub : subT ops.toList (depsL ops.toList e0) td = true)
   (w : W C n ds (.inRegion ops [e0] :: k) (V ++ E0) B L) : DD td V E0 B L
 | lit {td : List Nat} {V E0 : Env} {B : List (Option Bx)} {L : LH} (s : Nat) {p : Bool} (hs : get V s = some (.v (.bool p))) (w : DD td ((s, .lit p) :: V) E0 B L) : DD td V E0 B L
 | fin {td : List Nat} {V E0 : Env} {B : List (Option Bx)} {L : LH} (hall : allN td ops.size = true) (w : W C n ds k (V ++ E0) B L) : DD td V E0 B L
end
section
variable {P : Program} {C : Cx P} {τ : TT} {n : Nat} {ds : List Deferred} {ops : Array Oper} {k : List Item} {m : Nat} {Lf : LH}
theorem get_append (V E0 : Env) (s : Nat) : get (V ++ E0) s = match get V s with | some y => some y | none => get E0 s := by
 induction V with
 | nil => rfl
 | cons y V ihV =>
  obtain ⟨s', y⟩ := y
  rw [List.cons_append, get_cons, get_cons]
  by_cases e : s' = s
  ·rw [if_pos e, if_pos e]
  ·rw [if_neg e, if_neg e]; exact ihV
theorem dst_uniq (hdd : distinctDst ops = true) {i j s : Nat} (hi : dstOf ops i = some s) (hj : dstOf ops j = some s) : i = j := by
 have lt : ∀ {i : Nat}, dstOf ops i = some s → i < ops.size := fun {i} h => by
  unfold dstOf at h
  cases hx : ops[i]? with
  | none => rw [hx] at h; cases h
  | some o => exact (Array.getElem?_eq_some_iff.1 hx).1
 have h1 := List.all_eq_true.1 (List.all_eq_true.1 hdd i (List.mem_range.2 (lt hi))) j (List.mem_range.2 (lt hj))
 rw [hi, hj] at h1
 simpa using h1
theorem writer_dst {s j : Nat} (h : writer s ops.toList 0 = some j) : dstOf ops j = some s := by
 obtain ⟨_, o, h1, h2⟩ := writer_some h
 unfold dstOf
 rw [Nat.sub_zero, Array.getElem?_toList] at h1
 rw [h1]; exact h2
theorem writer_no {s : Nat} (h : writer s ops.toList 0 = none) (j : Nat) : dstOf ops j ≠ some s := by
 unfold dstOf
 cases hx : ops[j]? with
 | none => simp
 | some o => exact writer_none h j o (by rw [Array.getElem?_toList]; exact hx)
def Told (P : Program) (C : Cx P) (n : Nat) (ops : Array Oper) (m : Nat) (Lf : LH) (V E0 : Env) (B : List (Option Bx)) (β : Nm) (pend : Nat → Option Nat) (i : Nat) : Prop :=
  ∃ o d sv, ops[i]? = some o ∧ o.dst = some d ∧ get V d = some sv ∧
    ((pend i = none ∧ ∀ (T : Array Value) (R : LH) (γ : Nm), NmLe β γ → EnvOk γ (lookV ops.toList i V E0) T → Boxes γ (B.take m) R → Le Lf R → ∃ v, den γ sv = some v ∧ Yld P ops T R o v) ∨
     (∃ kk x, pend i = some kk ∧ B[kk]? = some (some x) ∧ β kk = none ∧ ∀ (T : Array Value) (γ : Nm), NmLe β γ → EnvOk γ (lookV ops.toList i V E0) T → Region.wanted o (yielded ops T) = true ∧ isDefer o.op = false ∧
        ∃ cs mk, denL γ x.cells = some cs ∧ (∀ (γ' : Nm) (b : Nat), γ' kk = some b → den γ' sv = some (mk b)) ∧ ∀ ty R, Alc P o.op ty T R mk (.cells cs.toArray x.ty)))
structure Inv (C : Cx P) (n : Nat) (ops : Array Oper) (m : Nat) (Lf : LH) (td : List Nat) (V E0 : Env) (B : List (Option Bx)) (L : LH) (S : List Nat) (T : Array Value) (R : LH) (β : Nm) (pend : Nat → Option Nat) : Prop where
 hT : T.size = n
 hS : ∀ i ∈ S, i ∈ td ∧ i < ops.size ∧ ∀ j ∈ depsOf ops i, j ∈ S
 hC : ∀ i ∈ td, ∀ j ∈ depsOf ops i, j ∈ td
 hE : ∀ s x, get E0 s = some x → (∀ j ∈ S, dstOf ops j ≠ some s) → den β x = some (T.getD s undef)
 hV : ∀ j ∈ S, ∀ s x, dstOf ops j = some s → get V s = some x → den β x = some (T.getD s undef)
 hK : ∀ s x, get V s = some x → ∃ j, j ∈ td ∧ dstOf ops j = some s
 hN : ∀ j ∈ td, ∀ s, dstOf ops j = some s → get V s ≠ none
 hH : HeapOk C.L0 C.R0 β B L R
 hL : Le Lf L
 hm : m ≤ B.length
 hI : ∀ i i' kk, pend i = some kk → pend i' = some kk → i = i'
 hP : ∀ i kk, pend i = some kk → kk < B.length
 hD : ∀ i ∈ td, i ∉ S → Told P C n ops m Lf V E0 B β pend i
theorem Inv.env {td : List Nat} {V E0 : Env} {B : List (Option Bx)} {L : LH} {S : List Nat} {T : Array Value} {R : LH} {β : Nm} {pend : Nat → Option Nat} (h : Inv C n ops m Lf td V E0 B L S T R β pend) (hdd : distinctDst ops = true) {i : Nat} (hi : i ∉ S) (hd : ∀ j ∈ depsOf ops i, j ∈ S) : EnvOk β (lookV ops.toList i V E0) T := by
 intro s x hx
 unfold lookV at hx
 split at hx
 ·rename_i hw
  exact h.hE s x hx fun j _ => writer_no hw j
 ·rename_i j hw
  have hj := writer_dst hw
  split at hx
  ·rename_i h1
   rw [depsL_eq] at h1
   exact h.hV j (hd j (inN_iff.1 h1)) s x hj hx
  ·split at hx
   ·rename_i h1
    rw [depsL_eq] at h1
    refine h.hE s x hx fun j' hj' e => ?_
    obtain rfl := dst_uniq hdd e hj
    exact hi ((h.hS j' hj').2.2 i (inN_iff.1 h1))
   ·cases hx
theorem Inv.low {td : List Nat} {V E0 : Env} {B : List (Option Bx)} {L : LH} {S : List Nat} {T : Array Value} {R : LH} {β : Nm} {pend : Nat → Option Nat} (h : Inv C n ops m Lf td V E0 B L S T R β pend) : Boxes β (B.take m) R := fun k b x hk hx => by
 by_cases hlt : k < m
 ·rw [List.getElem?_take_of_lt hlt] at hx
  exact h.hH.boxes k b x hk hx
 ·rw [List.getElem?_eq_none (by rw [List.length_take]; omega)] at hx; cases hx
theorem Inv.exec {td : List Nat} {V E0 : Env} {B : List (Option Bx)} {L : LH} {S : List Nat} {T : Array Value} {R : LH} {β : Nm} {pend : Nat → Option Nat} (h : Inv C n ops m Lf td V E0 B L S T R β pend) (hdd : distinctDst ops = true) (hz : dstBelow ops n = true) {i : Nat} {l : List Nat} (ht : i ∈ td) (hi : i ∉ S) (hlt : i < ops.size) (hd : ∀ j ∈ depsOf ops i, j ∈ S)
  (w : ∀ T' R' β' pend', Inv C n ops m Lf td V E0 B L (i :: S) T' R' β' pend' → C.X.Go (G (Fr C.f T' (.inRegion ops l :: k) ds .run C.kd C.ro) C.cs) R') : C.X.Go (G (Fr C.f T (.inRegion ops (i :: l) :: k) ds .run C.kd C.ro) C.cs) R := by
 have hen := h.env hdd hi hd
 obtain ⟨o, d, sv, ho, hdst, hsv, hcase⟩ := h.hD i ht hi
 have hdo : dstOf ops i = some d := by unfold dstOf; rw [ho]; exact hdst
 have hdn : d < n := by
  have := List.all_eq_true.1 hz i (List.mem_range.2 hlt)
  rw [hdo] at this
  simpa using this
 have hSd : ∀ j ∈ i :: S, j ∈ td ∧ j < ops.size ∧ ∀ j' ∈ depsOf ops j, j' ∈ i :: S := fun j hj => by
  rcases List.mem_cons.1 hj with rfl | hj
  ·exact ⟨ht, hlt, fun j' hj' => List.mem_cons_of_mem _ (hd j' hj')⟩
  ·exact ⟨(h.hS j hj).1, (h.hS j hj).2.1, fun j' hj' => List.mem_cons_of_mem _ ((h.hS j hj).2.2 j' hj')⟩
 -- the slots behind it
 have slots : ∀ (γ : Nm) (v : Value) (T' : Array Value), NmLe β γ → den γ sv = some v → Upd T T' d v → (∀ s x, get E0 s = some x → (∀ j ∈ i :: S, dstOf ops j ≠ some s) → den γ x = some (T'.getD s undef)) ∧ (∀ j ∈ i :: S, ∀ s x, dstOf ops j = some s → get V s = some x → den γ x = some (T'.getD s undef)) := by
  intro γ v T' hγ hv u
  refine ⟨fun s x hx hj => ?_, fun j hj s x hs hx => ?_⟩
  ·have hne : s ≠ d := fun e => hj i List.mem_cons_self (by rw [e]; exact hdo)
   rw [u.other s (by simpa using hne)]
   exact den_mono hγ (h.hE s x hx fun j hj' => hj j (List.mem_cons_of_mem _ hj'))
  ·by_cases e : s = d
   ·subst e
    rw [hsv] at hx; cases hx
    rw [u.same]; exact hv
   ·rw [u.other s (by simpa using e)]
    rcases List.mem_cons.1 hj with rfl | hj
    ·rw [hdo] at hs; cases hs; exact absurd rfl e
    ·exact den_mono hγ (h.hV j hj s x hs hx)
 rcases hcase with ⟨hp, hY⟩ | ⟨kk, x, hp, hB, hk, hA⟩
 ·obtain ⟨v, hv, hy⟩ := hY T R β (fun _ _ e => e) hen h.low (h.hL.trans h.hH.le)
  refine exec_yld ho hy fun T' hT' => ?_
  rw [hdst] at hT'
  have u := hT' (by rw [h.hT]; exact hdn)
  obtain ⟨s1, s2⟩ := slots β v T' (fun _ _ e => e) hv u
  refine w T' R β pend ⟨u.size.trans h.hT, hSd, h.hC, s1, s2, h.hK, h.hN, h.hH, h.hL, h.hm, h.hI, h.hP, fun j hj hj' => h.hD j hj fun e => hj' (List.mem_cons_of_mem _ e)⟩
 ·obtain ⟨hw, hdf, cs, mk, h1, h2, h3⟩ := hA T β (fun _ _ e => e) hen
  refine C.X.op ho hw (.inr fun c hc => by rw [hc] at hdf; cases hdf) ?_
  obtain ⟨dst, op, ty, pos, af, gd⟩ := o
  refine h3 ty R dst pos af gd _ _ fun b hb => ?_
  show C.X.Go (G ((Fr C.f T (.inRegion ops (i :: l) :: k) ds .run C.kd C.ro).finish (mk b)) C.cs) _
  rw [finish_some ho hdst]
  have u := upd_set (mk b) (show d < T.size by rw [h.hT]; exact hdn)
  have hγ := Nm.set_le hk b
  obtain ⟨s1, s2⟩ := slots (β.set kk b) (mk b) _ hγ (h2 _ b (Nm.set_same _ _ _)) u
  refine w _ _ (β.set kk b) (fun j => if j = i then none else pend j) ⟨u.size.trans h.hT, hSd, h.hC, s1, s2, h.hK, h.hN, h.hH.name hb hk hB h1, h.hL, h.hm, fun a a' c e1 e2 => ?_, fun a c e1 => ?_, fun j hj hj' => ?_⟩
  ·try simp only at e1 e2
   split at e1
   ·cases e1
   ·split at e2
    ·cases e2
    ·exact h.hI a a' c e1 e2
  ·try simp only at e1
   split at e1
   ·cases e1
   ·exact h.hP a c e1
  ·have hji : j ≠ i := fun e => hj' (by rw [e]; exact List.mem_cons_self)
   obtain ⟨o', d', sv', g1, g2, g3, g4⟩ := h.hD j hj fun e => hj' (List.mem_cons_of_mem _ e)
   refine ⟨o', d', sv', g1, g2, g3, ?_⟩
   rcases g4 with ⟨g5, g6⟩ | ⟨kk', x', g5, g6, g7, g8⟩
   ·exact .inl ⟨by simp [hji, g5], fun T' R' γ hγ' => g6 T' R' γ (fun a c e => hγ' a c (hγ a c e))⟩
   ·refine .inr ⟨kk', x', by simp [hji, g5], g6, ?_, fun T' γ hγ' => g8 T' γ (fun a c e => hγ' a c (hγ a c e))⟩
    rw [Nm.set_ne _ _ (fun e => by subst e; exact hji (h.hI _ _ _ g5 hp))]; exact g7
theorem lookV_grow (hdd : distinctDst ops = true) {td : List Nat} (hC : ∀ i ∈ td, ∀ j ∈ depsOf ops i, j ∈ td) {V E0 : Env} {j i d : Nat} {sv : SV} (hj : j ∈ td) (hi : i ∉ td) (hd : dstOf ops i = some d) {γ : Nm} {T : Array Value} (h : EnvOk γ (lookV ops.toList j ((d, sv) :: V) E0) T) : EnvOk γ (lookV ops.toList j V E0) T := by
 intro s x hx
 refine h s x ?_
 unfold lookV at hx ⊢
 cases hw : writer s ops.toList 0 with
 | none => rw [hw] at hx; exact hx
 | some p =>
  rw [hw] at hx
  simp only at hx ⊢
  cases h1 : inN (depsL ops.toList j) p with
  | true =>
   rw [h1] at hx
   simp only at hx ⊢
   rw [get_cons, if_neg (fun e => ?_)]
   ·exact hx
   ·subst e
    have := dst_uniq hdd hd (writer_dst hw)
    subst this
    rw [depsL_eq] at h1
    exact hi (hC j hj _ (inN_iff.1 h1))
  | false => rw [h1] at hx; exact hx
theorem Inv.tell {td : List Nat} {V E0 : Env} {B B' : List (Option Bx)} {L : LH} {S : List Nat} {T : Array Value} {R : LH} {β : Nm} {pend pend' : Nat → Option Nat} (h : Inv C n ops m Lf td V E0 B L S T R β pend) (hdd : distinctDst ops = true) {i d : Nat} {sv : SV} {o : Oper} (ho : ops[i]? = some o) (hd : o.dst = some d) (hi : i ∉ td) (hdp : ∀ j ∈ depsOf ops i, j ∈ td)
  (hB : B'.take m = B.take m) (hB2 : ∀ (kk : Nat) (x : Bx), B[kk]? = some (some x) → B'[kk]? = some (some x)) (hm' : m ≤ B'.length) (hH : HeapOk C.L0 C.R0 β B' L R) (hp : ∀ j, j ≠ i → pend' j = pend j) (hI : ∀ i i' kk, pend' i = some kk → pend' i' = some kk → i = i') (hP : ∀ i kk, pend' i = some kk → kk < B'.length)
  (hnew : Told P C n ops m Lf ((d, sv) :: V) E0 B' β pend' i) : Inv C n ops m Lf (i :: td) ((d, sv) :: V) E0 B' L S T R β pend' := by
 have hdo : dstOf ops i = some d := by unfold dstOf; rw [ho]; exact hd
 refine ⟨h.hT, fun j hj => ⟨List.mem_cons_of_mem _ (h.hS j hj).1, (h.hS j hj).2⟩, fun j hj j' hj' => ?_, h.hE, fun j hj s x hs hx => ?_, fun s x hx => ?_, fun j hj s hs => ?_, hH, h.hL, hm', hI, hP, fun j hj hj' => ?_⟩
 ·rcases List.mem_cons.1 hj with rfl | hj
  ·exact List.mem_cons_of_mem _ (hdp j' hj')
  ·exact List.mem_cons_of_mem _ (h.hC j hj j' hj')
 ·have hne : d ≠ s := fun e => by
   subst e
   obtain rfl := dst_uniq hdd hdo hs
   exact hi (h.hS _ hj).1
  rw [get_cons, if_neg hne] at hx
  exact h.hV j hj s x hs hx
 ·rw [get_cons] at hx
  by_cases e : d = s
  ·exact ⟨i, List.mem_cons_self, by rw [hdo, e]⟩
  ·rw [if_neg e] at hx
   obtain ⟨j, h1, h2⟩ := h.hK s x hx
   exact ⟨j, List.mem_cons_of_mem _ h1, h2⟩
 ·rw [get_cons]
  by_cases e : d = s
  ·rw [if_pos e]; simp
  ·rw [if_neg e]
   rcases List.mem_cons.1 hj with rfl | hj
   ·rw [hdo] at hs; cases hs; exact absurd rfl e
   ·exact h.hN j hj s hs
 ·rcases List.mem_cons.1 hj with rfl | hj
  ·exact hnew
  ·have hji : j ≠ i := fun e => hi (e ▸ hj)
   obtain ⟨o', d', sv', g1, g2, g3, g4⟩ := h.hD j hj hj'
   have hd' : d ≠ d' := fun e => by
    subst e
    exact hji (dst_uniq hdd (by unfold dstOf; rw [g1]; exact g2) hdo)
   refine ⟨o', d', sv', g1, g2, by rw [get_cons, if_neg hd']; exact g3, ?_⟩
   rcases g4 with ⟨g5, g6⟩ | ⟨kk', x', g5, g6, g7, g8⟩
   ·exact .inl ⟨by rw [hp j hji]; exact g5, fun T' R' γ hγ hE hBx => g6 T' R' γ hγ (lookV_grow hdd h.hC hj hi hdo hE) (by rw [← hB]; exact hBx)⟩
   ·exact .inr ⟨kk', x', by rw [hp j hji]; exact g5, hB2 _ _ g6, g7, fun T' γ hγ hE => g8 T' γ hγ (lookV_grow hdd h.hC hj hi hdo hE)⟩
theorem DD.run (hτ : τ.Ok P) (hdd : distinctDst ops = true) (hz : dstBelow ops n = true) {td : List Nat} {V E0 : Env} {B : List (Option Bx)} {L : LH} (h : DD C τ n ds ops k m Lf td V E0 B L) : ∀ (l S : List Nat) (T : Array Value) (R : LH) (β : Nm) (pend : Nat → Option Nat), Lin ops S l → Inv C n ops m Lf td V E0 B L S T R β pend →
  C.X.Go (G (Fr C.f T (.inRegion ops l :: k) ds .run C.kd C.ro) C.cs) R := by
 have opsOf : ∀ {i : Nat} {o : Oper}, nth ops.toList i = some o → ops[i]? = some o := fun h => by rw [nth_eq, Array.getElem?_toList] at h; exact h
 have nin : ∀ {td : List Nat} {i : Nat}, inN td i = false → i ∉ td := fun h e => by rw [inN_iff.2 e] at h; cases h
 induction h with
 | @reg td V E0 B L i o d sv ho hn hdp hd hdf hg hv w ih =>
  intro l S T R β pend hl hI
  have hni := nin hn
  have hpi : pend i = none ∨ True := .inr trivial
  have hdp' : ∀ j ∈ depsOf ops i, j ∈ td := fun j hj => subN_iff hdp j (by rw [depsL_eq]; exact hj)
  refine ih l S T R β (fun j => if j = i then none else pend j) hl (hI.tell hdd (opsOf ho) hd hni hdp' rfl (fun _ _ e => e) hI.hm hI.hH (fun j hj => by simp [hj]) (fun a a' c e1 e2 => ?_) (fun a c e1 => ?_) ?_)
  ·try simp only at e1 e2
   split at e1
   ·cases e1
   ·split at e2
    ·cases e2
    ·exact hI.hI a a' c e1 e2
  ·try simp only at e1
   split at e1
   ·cases e1
   ·exact hI.hP a c e1
  ·refine ⟨o, d, sv, opsOf ho, hd, by rw [get_cons, if_pos rfl], .inl ⟨by simp, fun T' R' γ _ hE hB hR => ?_⟩⟩
   have hE' : EnvOk γ (lookV ops.toList i V E0) T' := fun s x hx => by
    refine hE s x ?_
    unfold lookV at hx ⊢
    cases hw : writer s ops.toList 0 with
    | none => rw [hw] at hx; exact hx
    | some p =>
     rw [hw] at hx
     simp only at hx ⊢
     cases h1 : inN (depsL ops.toList i) p with
     | true =>
      rw [h1] at hx
      simp only at hx ⊢
      rw [get_cons, if_neg (fun e => ?_)]
      ·exact hx
      ·subst e
       have := dst_uniq hdd (show dstOf ops i = some d by unfold dstOf; rw [opsOf ho]; exact hd) (writer_dst hw)
       subst this
       rw [depsL_eq] at h1
       exact hni (hdp' _ (inN_iff.1 h1))
     | false => rw [h1] at hx; exact hx
   obtain ⟨v, h1, h2⟩ := hv T' R' γ hE' hB hR
   exact ⟨v, h1, .inl ⟨guardOk_wanted hE' hg, hdf, h2 _⟩⟩
 | @no td V E0 B L i o d ho hn hdp hd hg w ih =>
  intro l S T R β pend hl hI
  have hni := nin hn
  have hdp' : ∀ j ∈ depsOf ops i, j ∈ td := fun j hj => subN_iff hdp j (by rw [depsL_eq]; exact hj)
  refine ih l S T R β (fun j => if j = i then none else pend j) hl (hI.tell hdd (opsOf ho) hd hni hdp' rfl (fun _ _ e => e) hI.hm hI.hH (fun j hj => by simp [hj]) (fun a a' c e1 e2 => ?_) (fun a c e1 => ?_) ?_)
  ·try simp only at e1 e2
   split at e1
   ·cases e1
   ·split at e2
    ·cases e2
    ·exact hI.hI a a' c e1 e2
  ·try simp only at e1
   split at e1
   ·cases e1
   ·exact hI.hP a c e1
  ·refine ⟨o, d, _, opsOf ho, hd, by rw [get_cons, if_pos rfl], .inl ⟨by simp, fun T' R' γ _ hE hB hR => ?_⟩⟩
   have hE' : EnvOk γ (lookV ops.toList i V E0) T' := fun s x hx => by
    refine hE s x ?_
    unfold lookV at hx ⊢
    cases hw : writer s ops.toList 0 with
    | none => rw [hw] at hx; exact hx
    | some p =>
     rw [hw] at hx
     simp only at hx ⊢
     cases h1 : inN (depsL ops.toList i) p with
     | true =>
      rw [h1] at hx
      simp only at hx ⊢
      rw [get_cons, if_neg (fun e => ?_)]
      ·exact hx
      ·subst e
       have := dst_uniq hdd (show dstOf ops i = some d by unfold dstOf; rw [opsOf ho]; exact hd) (writer_dst hw)
       subst this
       rw [depsL_eq] at h1
       exact hni (hdp' _ (inN_iff.1 h1))
     | false => rw [h1] at hx; exact hx
   exact ⟨undef, rfl, .inr ⟨guardOk_wanted hE' hg, rfl⟩⟩
 | @alc td V E0 B L i o d x sh ho hn hdp hd hg hs w ih =>
  intro l S T R β pend hl hI
  have hni := nin hn
  have hdp' : ∀ j ∈ depsOf ops i, j ∈ td := fun j hj => subN_iff hdp j (by rw [depsL_eq]; exact hj)
  obtain ⟨hH', hfree⟩ := hI.hH.more x
  refine ih l S T R β (fun j => if j = i then some B.length else pend j) hl (hI.tell hdd (opsOf ho) hd hni hdp' (by rw [List.take_append_of_le_length hI.hm]) (fun kk y hy => by rw [List.getElem?_append_left (List.getElem?_eq_some_iff.1 hy).1]; exact hy) (by simp; have := hI.hm; omega) hH' (fun j hj => by simp [hj]) (fun a a' c e1 e2 => ?_) (fun a c e1 => ?_) ?_)
  ·try simp only at e1 e2
   split at e1
   ·rename_i ea
    cases e1
    split at e2
    ·rename_i eb; rw [ea, eb]
    ·exact absurd (hI.hP _ _ e2) (Nat.lt_irrefl _)
   ·split at e2
    ·cases e2
     exact absurd (hI.hP _ _ e1) (Nat.lt_irrefl _)
    ·exact hI.hI a a' c e1 e2
  ·try simp only at e1
   split at e1
   ·cases e1; simp
   ·have := hI.hP a c e1; simp; omega
  ·refine ⟨o, d, _, opsOf ho, hd, by rw [get_cons, if_pos rfl], .inr ⟨B.length, x, by simp, by simp, hfree, fun T' γ _ hE => ?_⟩⟩
   have hE' : EnvOk γ (lookV ops.toList i V E0) T' := fun s y hx => by
    refine hE s y ?_
    unfold lookV at hx ⊢
    cases hw : writer s ops.toList 0 with
    | none => rw [hw] at hx; exact hx
    | some p =>
     rw [hw] at hx
     simp only at hx ⊢
     cases h1 : inN (depsL ops.toList i) p with
     | true =>
      rw [h1] at hx
      simp only at hx ⊢
      rw [get_cons, if_neg (fun e => ?_)]
      ·exact hx
      ·subst e
       have := dst_uniq hdd (show dstOf ops i = some d by unfold dstOf; rw [opsOf ho]; exact hd) (writer_dst hw)
       subst this
       rw [depsL_eq] at h1
       exact hni (hdp' _ (inN_iff.1 h1))
     | false => rw [h1] at hx; exact hx
   obtain ⟨cs, mk, e1, e2, e3⟩ := semA_ok hτ hE' hs
   exact ⟨guardOk_wanted hE' hg, semA_defer hs, cs, mk, e1, fun γ' b hb => e2 γ' _ b hb, e3⟩
 | @eff td V E0 B L pe Q e0 h0 hn0 hall he hq w ih =>
  intro l
  induction l with
  | nil =>
   intro S T R β pend hl hI
   cases hl with
   | nil hfull => exact absurd (hI.hS e0 (hfull e0 (lt_of_blt h0))).1 (nin hn0)
  | cons i l ihl =>
   intro S T R β pend hl hI
   cases hl with
   | cons hi hni hd hrest =>
    by_cases ht : i ∈ td
    ·exact hI.exec hdd hz ht hni hi hd fun T' R' β' pend' hI' => ihl _ T' R' β' pend' hrest hI'
    ·have hdt : ∀ j ∈ depsOf ops i, j ∈ td := fun j hj => (hI.hS j (hd j hj)).1
     have hpe := onlyN_ok hall i hi ht (fun j hj => hdt j (by rw [← depsL_eq]; exact hj))
     have hsub : subN td (depsL ops.toList i) = true := subN_of fun j hj => hdt j (by rw [← depsL_eq]; exact hj)
     obtain ⟨o, ho, hg, hstep⟩ := he i hpe hsub
     have hen := hI.env hdd hni hd
     obtain ⟨hdf, hE⟩ := hstep T R β hen hI.hH
     refine C.X.op (opsOf ho) (guardOk_wanted hen hg) (.inr fun c hc => by rw [hc] at hdf; cases hdf) (wpS_mono ?_ (fun _ _ h => h.elim) _ _ hE)
     have go : ∀ v R', (∃ sv B' L', Q i sv B' L' ∧ den β sv = some v ∧ HeapOk C.L0 C.R0 β B' L' R' ∧ ∀ kk, β kk = none → B'[kk]? = B[kk]?) → C.X.Go (G ((Fr C.f T (.inRegion ops (i :: l) :: k) ds .run C.kd C.ro).finish v) C.cs) R' := by
      rintro v R' ⟨sv, B', L', hQ, hv, hH', hBk⟩
      obtain ⟨q1, q2, q3⟩ := hq i hpe hsub sv B' L' hQ
      have hSd : ∀ j ∈ i :: S, j ∈ i :: td ∧ j < ops.size ∧ ∀ j' ∈ depsOf ops j, j' ∈ i :: S := fun j hj => by
       rcases List.mem_cons.1 hj with rfl | hj
       ·exact ⟨List.mem_cons_self, hi, fun j' hj' => List.mem_cons_of_mem _ (hd j' hj')⟩
       ·exact ⟨List.mem_cons_of_mem _ (hI.hS j hj).1, (hI.hS j hj).2.1, fun j' hj' => List.mem_cons_of_mem _ ((hI.hS j hj).2.2 j' hj')⟩
      have hC' : ∀ j ∈ i :: td, ∀ j' ∈ depsOf ops j, j' ∈ i :: td := fun j hj j' hj' => by
       rcases List.mem_cons.1 hj with rfl | hj
       ·exact List.mem_cons_of_mem _ (hdt j' hj')
       ·exact List.mem_cons_of_mem _ (hI.hC j hj j' hj')
      have hlow : ∀ {j : Nat}, j ∈ td → j ∉ S → B'.take m = B.take m := fun {j} hj hj' => by
       rcases q3 with q3 | q3
       ·exact q3
       ·exact absurd (subT_in (S := S) (fun k hk j hj => (hI.hS k hk).2.2 j (by rw [← depsL_eq]; exact hj)) (fun k hk => hd k (by rw [← depsL_eq]; exact hk)) q3 j hj) hj'
      have hdo : dstOf ops i = o.dst := by unfold dstOf; rw [opsOf ho]; rfl
      cases hdd' : o.dst with
      | none =>
       rw [finish_none (opsOf ho) hdd']
       have ihw := ih i hpe hsub sv B' L' hQ l (i :: S) T R' β pend hrest
       rw [hdo, hdd'] at ihw
       refine ihw ⟨hI.hT, hSd, hC', fun s x hx hj => hI.hE s x hx fun j hj' => hj j (List.mem_cons_of_mem _ hj'), fun j hj s x hs hx => ?_, fun s x hx => ?_, fun j hj s hs => ?_, hH', q1, by rw [q2]; exact hI.hm, hI.hI, fun a c e => by rw [q2]; exact hI.hP a c e, fun j hj hj' => ?_⟩
       ·rcases List.mem_cons.1 hj with rfl | hj
        ·rw [hdo, hdd'] at hs; cases hs
        ·exact hI.hV j hj s x hs hx
       ·obtain ⟨j, h1, h2⟩ := hI.hK s x hx
        exact ⟨j, List.mem_cons_of_mem _ h1, h2⟩
       ·rcases List.mem_cons.1 hj with rfl | hj
        ·rw [hdo, hdd'] at hs; cases hs
        ·exact hI.hN j hj s hs
       ·have hjS : j ∉ S := fun e => hj' (List.mem_cons_of_mem _ e)
        have hjt : j ∈ td := by
         rcases List.mem_cons.1 hj with rfl | hj
         ·exact absurd List.mem_cons_self hj'
         ·exact hj
        obtain ⟨o', d', sv', g1, g2, g3, g4⟩ := hI.hD j hjt hjS
        refine ⟨o', d', sv', g1, g2, g3, ?_⟩
        rcases g4 with ⟨g5, g6⟩ | ⟨kk', x', g5, g6, g7, g8⟩
        ·exact .inl ⟨g5, fun T' R'' γ hγ hE hBx => g6 T' R'' γ hγ hE (by rw [← hlow hjt hjS]; exact hBx)⟩
        ·exact .inr ⟨kk', x', g5, by rw [hBk kk' g7]; exact g6, g7, g8⟩
      | some d =>
       rw [finish_some (opsOf ho) hdd']
       have hdn : d < T.size := by
        have := List.all_eq_true.1 hz i (List.mem_range.2 hi)
        rw [hdo, hdd'] at this
        rw [hI.hT]; simpa using this
       have u := upd_set v hdn
       have ihw := ih i hpe hsub sv B' L' hQ l (i :: S) (T.setIfInBounds d v) R' β pend hrest
       rw [hdo, hdd'] at ihw
       refine ihw ⟨u.size.trans hI.hT, hSd, hC', fun s x hx hj => ?_, fun j hj s x hs hx => ?_, fun s x hx => ?_, fun j hj s hs => ?_, hH', q1, by rw [q2]; exact hI.hm, hI.hI, fun a c e => by rw [q2]; exact hI.hP a c e, fun j hj hj' => ?_⟩
       ·have hne : s ≠ d := fun e => hj i List.mem_cons_self (by rw [e, hdo]; exact hdd')
        rw [u.other s (by simpa using hne)]
        exact hI.hE s x hx fun j hj' => hj j (List.mem_cons_of_mem _ hj')
       ·simp only [addV] at hx
        rw [get_cons] at hx
        by_cases e : d = s
        ·subst e
         rw [if_pos rfl] at hx; cases hx
         rw [u.same]; exact hv
        ·rw [if_neg e] at hx
         rw [u.other s (by simpa using Ne.symm e)]
         rcases List.mem_cons.1 hj with rfl | hj
         ·rw [hdo, hdd'] at hs; cases hs; exact absurd rfl e
         ·exact hI.hV j hj s x hs hx
       ·simp only [addV] at hx
        rw [get_cons] at hx
        by_cases e : d = s
        ·exact ⟨i, List.mem_cons_self, by rw [hdo, hdd', e]⟩
        ·rw [if_neg e] at hx
         obtain ⟨j, h1, h2⟩ := hI.hK s x hx
         exact ⟨j, List.mem_cons_of_mem _ h1, h2⟩
       ·simp only [addV]
        rw [get_cons]
        by_cases e : d = s
        ·rw [if_pos e]; simp
        ·rw [if_neg e]
         rcases List.mem_cons.1 hj with rfl | hj
         ·rw [hdo, hdd'] at hs; cases hs; exact absurd rfl e
         ·exact hI.hN j hj s hs
       ·have hjS : j ∉ S := fun e => hj' (List.mem_cons_of_mem _ e)
        have hjt : j ∈ td := by
         rcases List.mem_cons.1 hj with rfl | hj
         ·exact absurd List.mem_cons_self hj'
         ·exact hj
        have hji : j ≠ i := fun e => hj' (by rw [e]; exact List.mem_cons_self)
        obtain ⟨o', d', sv', g1, g2, g3, g4⟩ := hI.hD j hjt hjS
        have hdi : dstOf ops i = some d := by rw [hdo]; exact hdd'
        have hd' : d ≠ d' := fun e => by
         subst e
         exact hji (dst_uniq hdd (by unfold dstOf; rw [g1]; exact g2) hdi)
        refine ⟨o', d', sv', g1, g2, by simp only [addV]; rw [get_cons, if_neg hd']; exact g3, ?_⟩
        rcases g4 with ⟨g5, g6⟩ | ⟨kk', x', g5, g6, g7, g8⟩
        ·exact .inl ⟨g5, fun T' R'' γ hγ hE hBx => g6 T' R'' γ hγ (lookV_grow hdd hI.hC hjt ht hdi hE) (by rw [← hlow hjt hjS]; exact hBx)⟩
        ·exact .inr ⟨kk', x', g5, by rw [hBk kk' g7]; exact g6, g7, fun T' γ hγ hE => g8 T' γ hγ (lookV_grow hdd hI.hC hjt ht hdi hE)⟩
     intro nx L1 hnx
     cases nx <;> first | exact hnx.elim | skip
     ·exact go _ _ hnx
     ·exact go _ _ hnx
     ·obtain ⟨Q', hfn, hq'⟩ := hnx
      exact hfn .normal _ _ (.inl rfl) (fun v L' hv => go v L' (hq' v L' hv)) (fun _ _ h => h.elim)
     ·obtain ⟨Q', hfn, hq'⟩ := hnx
      exact hfn _ _ (fun v L' hv => go v L' (hq' v L' hv))
 | @pub td V E0 B L p d kk x cs hp hd hs hm e0 h0 hn0 hall hx hc w ih =>
  intro l
  induction l with
  | nil =>
   intro S T R β pend hl hI
   cases hl with
   | nil hfull => exact absurd (hI.hS e0 (hfull e0 (lt_of_blt h0))).1 (nin hn0)
  | cons i l ihl =>
   intro S T R β pend hl hI
   by_cases hpS : p ∈ S
   ·have hb : ∃ b, β kk = some b := by
     rcases hs with ⟨off, hs⟩ | ⟨off, len, cap, hs⟩
     ·obtain ⟨b, hb, _⟩ := den_p (hI.hV p hpS d _ hd hs); exact ⟨b, hb⟩
     ·have := hI.hV p hpS d _ hd hs
      unfold den at this
      cases hk : β kk with
      | none => rw [hk] at this; cases this
      | some b => exact ⟨b, rfl⟩
    obtain ⟨b, hb⟩ := hb
    have hx' : B[kk]? = some (some x) := by rw [← nth_eq]; exact hx
    obtain ⟨g1, g2⟩ := hI.hH.pub hb hx' hc
    have hmk := Nat.le_of_ble_eq_true hm
    have htk : (B.set kk none).take m = B.take m := by rw [List.take_set_of_le hmk]
    have conv : ∀ {γ : Nm} {j : Nat} {T' : Array Value}, NmLe β γ → EnvOk γ (lookV ops.toList j (pubE kk b V) E0) T' → EnvOk γ (lookV ops.toList j V E0) T' := fun {γ j T'} hγ hE s y hy => by
     unfold lookV at hy
     cases hw : writer s ops.toList 0 with
     | none =>
      rw [hw] at hy
      exact hE s y (by unfold lookV; rw [hw]; exact hy)
     | some q =>
      rw [hw] at hy
      simp only at hy
      cases h1 : inN (depsL ops.toList j) q with
      | true =>
       rw [h1] at hy
       simp only at hy
       have := hE s (pubS kk b y) (by unfold lookV; rw [hw]; simp only; rw [h1]; simp only; rw [pubE_get, hy]; rfl)
       rw [pubS_den (hγ _ _ hb)] at this
       exact this
      | false =>
       rw [h1] at hy
       exact hE s y (by unfold lookV; rw [hw]; simp only; rw [h1]; exact hy)
    refine ih b g1 (hI.hH.box kk b x hb hx').2.1 (i :: l) S T R β pend hl ⟨hI.hT, hI.hS, hI.hC, hI.hE, fun j hj s y hs' hy => ?_, fun s y hy => ?_, fun j hj s hs' => ?_, g2, hI.hL.trans (Le.put g1 _), by simpa using hI.hm, hI.hI, fun a c e => by simpa using hI.hP a c e, fun j hj hj' => ?_⟩
    ·rw [pubE_get, Option.map_eq_some_iff] at hy
     obtain ⟨z, h1, rfl⟩ := hy
     rw [pubS_den hb]; exact hI.hV j hj s z hs' h1
    ·rw [pubE_get, Option.map_eq_some_iff] at hy
     obtain ⟨z, h1, rfl⟩ := hy
     exact hI.hK s z h1
    ·rw [pubE_get]
     have := hI.hN j hj s hs'
     cases hg : get V s with
     | none => exact absurd hg this
     | some y => simp
    ·obtain ⟨o', d', sv', q1, q2, q3, q4⟩ := hI.hD j hj hj'
     refine ⟨o', d', pubS kk b sv', q1, q2, by rw [pubE_get, q3]; rfl, ?_⟩
     rcases q4 with ⟨q5, q6⟩ | ⟨kk', x', q5, q6, q7, q8⟩
     ·refine .inl ⟨q5, fun T' R' γ hγ hE hBx hLf => ?_⟩
      obtain ⟨v, e1, e2⟩ := q6 T' R' γ hγ (conv hγ hE) (by rw [← htk]; exact hBx) hLf
      exact ⟨v, by rw [pubS_den (hγ _ _ hb)]; exact e1, e2⟩
     ·have hne : kk ≠ kk' := fun e => by subst e; rw [hb] at q7; cases q7
      refine .inr ⟨kk', x', q5, by rw [List.getElem?_set_ne hne]; exact q6, q7, fun T' γ hγ hE => ?_⟩
      obtain ⟨f1, f2, cs', mk, f3, f4, f5⟩ := q8 T' γ hγ (conv hγ hE)
      refine ⟨f1, f2, cs', mk, f3, fun γ' c hc' => ?_, f5⟩
      have hden := f4 γ' c hc'
      -- the shape names box kk' alone
      have h4 := f4 (nm0.set kk' c) c (Nm.set_same _ _ _)
      have : pubS kk b sv' = sv' := pubS_id (by rw [Nm.set_ne _ _ hne]; rfl) h4
      rw [this]; exact hden
   ·cases hl with
    | cons hi hni hd' hrest =>
     by_cases ht : i ∈ td
     ·exact hI.exec hdd hz ht hni hi hd' fun T' R' β' pend' hI' => ihl _ T' R' β' pend' hrest hI'
     ·have hdt : ∀ j ∈ depsOf ops i, j ∈ td := fun j hj => (hI.hS j (hd' j hj)).1
      have := onlyP_ok hall i hi ht (fun j hj => hdt j (by rw [← depsL_eq]; exact hj))
      rw [depsL_eq] at this
      exact absurd (hd' p this) hpS
 | @pan td V E0 B L e0 o h0 hn0 hall ho hg he =>
  intro l
  induction l with
  | nil =>
   intro S T R β pend hl hI
   cases hl with
   | nil hfull => exact absurd (hI.hS e0 (hfull e0 (lt_of_blt h0))).1 (nin hn0)
  | cons i l ihl =>
   intro S T R β pend hl hI
   cases hl with
   | cons hi hni hd hrest =>
    by_cases ht : i ∈ td
    ·exact hI.exec hdd hz ht hni hi hd fun T' R' β' pend' hI' => ihl _ T' R' β' pend' hrest hI'
    ·have hdt : ∀ j ∈ depsOf ops i, j ∈ td := fun j hj => (hI.hS j (hd j hj)).1
     have hpe := onlyN_ok hall i hi ht (fun j hj => hdt j (by rw [← depsL_eq]; exact hj))
     obtain rfl := List.mem_singleton.1 hpe
     have hen := hI.env hdd hni hd
     obtain ⟨hdf, hE⟩ := he T R β (.inRegion ops (i :: l) :: k) hI.hT hen hI.hH
     exact C.X.op (opsOf ho) (guardOk_wanted hen hg) (.inr fun c hc => by rw [hc] at hdf; cases hdf) hE
 | @rest td V E0 B L e0 h0 hn0 hall hsub w =>
  intro l
  induction l with
  | nil =>
   intro S T R β pend hl hI
   cases hl with
   | nil hfull => exact absurd (hI.hS e0 (hfull e0 (lt_of_blt h0))).1 (nin hn0)
  | cons i l ihl =>
   intro S T R β pend hl hI
   cases hl with
   | cons hi hni hd hrest =>
    by_cases ht : i ∈ td
    ·exact hI.exec hdd hz ht hni hi hd fun T' R' β' pend' hI' => ihl _ T' R' β' pend' hrest hI'
    ·have hie : i = e0 := (List.mem_cons.1 (allN_ok hall i hi)).resolve_right ht
     subst hie
     have hin : ∀ j ∈ td, j ∈ S := subT_in (fun a ha j hj => (hI.hS a ha).2.2 j (by rw [← depsL_eq]; exact hj)) (fun a ha => hd a (by rw [← depsL_eq]; exact ha)) hsub
     have hall' : ∀ j, j < ops.size → j ∈ i :: S := fun j hj => by
      rcases List.mem_cons.1 (allN_ok hall j hj) with e | e
      ·exact e ▸ List.mem_cons_self
      ·exact List.mem_cons_of_mem _ (hin j e)
     have hl0 : l = [] := by
      cases hrest with
      | nil _ => rfl
      | cons hi2 hni2 _ _ => exact absurd (hall' _ hi2) hni2
     subst hl0
     refine w T R β hI.hT (fun s x hx => ?_) hI.hH
     rw [get_append] at hx
     cases hv : get V s with
     | some y =>
      rw [hv] at hx; cases hx
      obtain ⟨j, h1, h2⟩ := hI.hK s x hv
      exact hI.hV j (hin j h1) s x h2 hv
     | none =>
      rw [hv] at hx
      exact hI.hE s x hx fun j hj e => hI.hN j (hI.hS j hj).1 s e hv
 | @lit td V E0 B L s p hs w ih =>
  intro l S T R β pend hl hI
  have hget : ∀ t x, get V t = some x → ∃ y, get ((s, SV.lit p) :: V) t = some y ∧ ∀ γ, den γ y = den γ x := fun t x hx => by
   rw [get_cons]
   by_cases e : s = t
   ·subst e
    rw [hs] at hx; cases hx
    exact ⟨.lit p, by rw [if_pos rfl], fun _ => rfl⟩
   ·exact ⟨x, by rw [if_neg e]; exact hx, fun _ => rfl⟩
  have hget' : ∀ t y, get ((s, SV.lit p) :: V) t = some y → ∃ x, get V t = some x ∧ ∀ γ, den γ y = den γ x := fun t y hy => by
   rw [get_cons] at hy
   by_cases e : s = t
   ·subst e
    rw [if_pos rfl] at hy; cases hy
    exact ⟨_, hs, fun _ => rfl⟩
   ·rw [if_neg e] at hy; exact ⟨y, hy, fun _ => rfl⟩
  have conv : ∀ {γ : Nm} {j : Nat} {T' : Array Value}, EnvOk γ (lookV ops.toList j ((s, SV.lit p) :: V) E0) T' → EnvOk γ (lookV ops.toList j V E0) T' := fun {γ j T'} hE t y hy => by
   unfold lookV at hy
   cases hw : writer t ops.toList 0 with
   | none =>
    rw [hw] at hy
    exact hE t y (by unfold lookV; rw [hw]; exact hy)
   | some q =>
    rw [hw] at hy
    simp only at hy
    cases h1 : inN (depsL ops.toList j) q with
    | true =>
     rw [h1] at hy
     obtain ⟨z, h2, h3⟩ := hget t y hy
     have := hE t z (by unfold lookV; rw [hw]; simp only; rw [h1]; exact h2)
     rw [h3] at this; exact this
    | false =>
     rw [h1] at hy
     exact hE t y (by unfold lookV; rw [hw]; simp only; rw [h1]; exact hy)
  refine ih l S T R β pend hl ⟨hI.hT, hI.hS, hI.hC, hI.hE, fun j hj t y ht hy => ?_, fun t y hy => ?_, fun j hj t ht => ?_, hI.hH, hI.hL, hI.hm, hI.hI, hI.hP, fun j hj hj' => ?_⟩
  ·obtain ⟨x, h1, h2⟩ := hget' t y hy
   rw [h2]; exact hI.hV j hj t x ht h1
  ·obtain ⟨x, h1, _⟩ := hget' t y hy
   exact hI.hK t x h1
  ·have := hI.hN j hj t ht
   cases hg : get V t with
   | none => exact absurd hg this
   | some x => obtain ⟨y, h1, _⟩ := hget t x hg; rw [h1]; simp
  ·obtain ⟨o', d', sv', q1, q2, q3, q4⟩ := hI.hD j hj hj'
   obtain ⟨y, h1, h2⟩ := hget d' sv' q3
   refine ⟨o', d', y, q1, q2, h1, ?_⟩
   rcases q4 with ⟨q5, q6⟩ | ⟨kk', x', q5, q6, q7, q8⟩
   ·refine .inl ⟨q5, fun T' R' γ hγ hE hBx hLf => ?_⟩
    obtain ⟨v, e1, e2⟩ := q6 T' R' γ hγ (conv hE) hBx hLf
    exact ⟨v, by rw [h2]; exact e1, e2⟩
   ·refine .inr ⟨kk', x', q5, q6, q7, fun T' γ hγ hE => ?_⟩
    obtain ⟨f1, f2, cs', mk, f3, f4, f5⟩ := q8 T' γ hγ (conv hE)
    exact ⟨f1, f2, cs', mk, f3, fun γ' c hc' => by rw [h2]; exact f4 γ' c hc', f5⟩
 | @fin td V E0 B L hall w =>
  intro l
  induction l with
  | nil =>
   intro S T R β pend hl hI
   cases hl with
   | nil hfull =>
    refine C.X.regionEnd (w T R β hI.hT (fun s x hx => ?_) hI.hH)
    rw [get_append] at hx
    cases hv : get V s with
    | some y =>
     rw [hv] at hx; cases hx
     obtain ⟨j, h1, h2⟩ := hI.hK s x hv
     have hlt : j < ops.size := by
      unfold dstOf at h2
      cases hy : ops[j]? with
      | none => rw [hy] at h2; cases h2
      | some o => exact (Array.getElem?_eq_some_iff.1 hy).1
     exact hI.hV j (hfull j hlt) s x h2 hv
    | none =>
     rw [hv] at hx
     exact hI.hE s x hx fun j hj e => hI.hN j (hI.hS j hj).1 s e hv
  | cons i l ihl =>
   intro S T R β pend hl hI
   cases hl with
   | cons hi hni hd hrest => exact hI.exec hdd hz (allN_ok hall i hi) hni hi hd fun T' R' β' pend' hI' => ihl _ T' R' β' pend' hrest hI'
theorem W.draw (hτ : τ.Ok P) {id : Nat} {E : Env} {B : List (Option Bx)} {L : LH} (hok : okQ ops n = true) (hle : Le Lf L) (h : DD C τ n ds ops k B.length Lf [] [] E B L) : W C n ds (.code (.region id ops true) :: k) E B L := by
 intro T R β hT hE hH
 obtain ⟨⟨_, h1⟩, ⟨_, h2⟩, ⟨_, h3⟩, hdd, hz⟩ := okQ_ok hok
 refine C.X.regionDraw fun t => ?_
 refine h.run hτ hdd hz _ [] T R β (fun _ => none) (lin_schedule h1 h2 h3 t) ⟨hT, (fun i hi => by cases hi), (fun i hi => by cases hi), (fun s x hx _ => hE s x hx), (fun j hj => by cases hj), (fun s x hx => by cases hx), (fun j hj => by cases hj), hH, hle, Nat.le_refl _, (fun _ _ _ h => by cases h), (fun _ _ h => by cases h), (fun i hi => by cases hi)⟩
def runD (τ : TT) (ops : List Oper) (E0 : Env) (m : Nat) : List Nat → List Nat → Env → List (Option Bx) → Option (List Nat × Env × List (Option Bx))
 | [], td, V, B => some (td, V, B)
 | i :: is, td, V, B => match nth ops i, inN td i, subN td (depsL ops i) with
  | some o, false, true => match o.dst with
   | some d => match guardOk (lookV ops i V E0) ops o.guard with
    | some true => match semV τ (lookV ops i V E0) (B.take m) o.op with
     | some sv => runD τ ops E0 m is (i :: td) ((d, sv) :: V) B
     | none => match semA τ (lookV ops i V E0) o.op with
      | some (x, sh) => runD τ ops E0 m is (i :: td) ((d, sh B.length) :: V) (B ++ [some x])
      | none => none
    | some false => runD τ ops E0 m is (i :: td) ((d, .v undef) :: V) B
    | none => none
   | none => none
  | _, _, _ => none
theorem DD.go (hτ : τ.Ok P) {E0 : Env} {L : LH} (is : List Nat) {td td' : List Nat} {V V' : Env} {B B' : List (Option Bx)} (h : runD τ ops.toList E0 m is td V B = some (td', V', B')) (w : DD C τ n ds ops k m Lf td' V' E0 B' L) : DD C τ n ds ops k m Lf td V E0 B L := by
 induction is generalizing td V B with
 | nil => cases h; exact w
 | cons i is ih =>
  unfold runD at h
  split at h
  ·rename_i o ho hn hdp
   split at h
   ·rename_i d hd
    split at h
    ·rename_i hg
     split at h
     ·rename_i sv hs
      exact .reg i ho hn hdp hd (semV_defer hs) hg (fun T R β hE hB _ => semV_ok hτ hE hB hs) (ih h)
     ·split at h
      ·rename_i x sh hs
       exact .alc i ho hn hdp hd hg hs (ih h)
      ·cases h
    ·rename_i hg
     exact .no i ho hn hdp hd hg (ih h)
    ·cases h
   ·cases h
  ·cases h
end
end Go.Mz

