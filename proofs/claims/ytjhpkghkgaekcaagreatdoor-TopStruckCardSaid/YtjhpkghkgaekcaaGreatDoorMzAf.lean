/- Lemmas on which the claim leans. -/
import Derived.Test.YtjhpkghkgaekcaaGreatDoorMzAe
namespace Go.Mz
open Go.Conc
def depsO : List Edge → List Nat
 | [] => []
 | e :: r => match always e with | true => e.on :: depsO r | false => depsO r
def depsL (ops : List Oper) (i : Nat) : List Nat := match nth ops i with
 | some o => depsO o.after.toList
 | none => []
theorem depsO_eq : ∀ (l : List Edge), depsO l = (l.filter always).map (·.on)
 | [] => rfl
 | e :: r => by
  unfold depsO
  cases h : always e with
  | true => simp [h, depsO_eq r]
  | false => simp [h, depsO_eq r]
theorem depsL_eq (ops : Array Oper) (i : Nat) : depsL ops.toList i = depsOf ops i := by
 unfold depsL depsOf
 rw [nth_eq, Array.getElem?_toList]
 cases ops[i]? with
 | none => rfl
 | some o => exact depsO_eq _
def writer (s : Nat) : List Oper → Nat → Option Nat
 | [], _ => none
 | o :: r, n => match o.dst with
  | some d => match Nat.beq d s with | true => some n | false => writer s r (n + 1)
  | none => writer s r (n + 1)
theorem writer_some {s : Nat} : ∀ {l : List Oper} {n j : Nat}, writer s l n = some j → n ≤ j ∧ ∃ o, l[j - n]? = some o ∧ o.dst = some s
 | [], _, _, h => by cases h
 | o :: r, n, j, h => by
  unfold writer at h
  split at h
  ·rename_i d hd
   split at h
   ·rename_i hb
    cases h
    obtain rfl := Nat.eq_of_beq_eq_true hb
    exact ⟨Nat.le_refl _, o, by simp, hd⟩
   ·obtain ⟨h1, o', h2, h3⟩ := writer_some h
    exact ⟨by omega, o', by rw [show j - n = (j - (n + 1)) + 1 by omega]; simpa using h2, h3⟩
  ·obtain ⟨h1, o', h2, h3⟩ := writer_some h
   exact ⟨by omega, o', by rw [show j - n = (j - (n + 1)) + 1 by omega]; simpa using h2, h3⟩
theorem writer_none {s : Nat} : ∀ {l : List Oper} {n : Nat}, writer s l n = none → ∀ (j : Nat) (o : Oper), l[j]? = some o → o.dst ≠ some s
 | [], _, _, j, o, h => by simp at h
 | p :: r, n, h, j, o, hj => by
  unfold writer at h
  split at h
  ·rename_i d hd
   split at h
   ·cases h
   ·rename_i hb
    cases j with
    | zero =>
     simp at hj; subst hj
     intro e
     rw [hd] at e; cases e
     simp at hb
    | succ j => exact writer_none h j o (by simpa using hj)
  ·rename_i hd
   cases j with
   | zero => simp at hj; subst hj; rw [hd]; simp
   | succ j => exact writer_none h j o (by simpa using hj)
def lookV (ops : List Oper) (i : Nat) (V E0 : Env) : Look := fun s => match writer s ops 0 with
 | none => get E0 s
 | some j => match inN (depsL ops i) j with
  | true => get V s
  | false => match inN (depsL ops j) i with
   | true => get E0 s
   | false => none
theorem inN_iff {l : List Nat} {d : Nat} : inN l d = true ↔ d ∈ l := by
 induction l with
 | nil => simp [inN]
 | cons x r ih =>
  unfold inN
  cases hb : Nat.beq x d with
  | true => simp [Nat.eq_of_beq_eq_true hb]
  | false =>
   have hne : d ≠ x := fun e => by subst e; simp at hb
   simp [ih, hne]
def subN (td : List Nat) : List Nat → Bool
 | [] => true
 | x :: r => match inN td x with | true => subN td r | false => false
theorem subN_iff {td l : List Nat} (h : subN td l = true) : ∀ x ∈ l, x ∈ td := by
 induction l with
 | nil => simp
 | cons y r ih =>
  unfold subN at h
  cases hy : inN td y with
  | false => rw [hy] at h; cases h
  | true =>
   rw [hy] at h
   intro x hx
   rcases List.mem_cons.1 hx with rfl | hx
   ·exact inN_iff.1 hy
   ·exact ih h x hx
def onlyN (ops : List Oper) (td pe : List Nat) : Nat → Bool
 | 0 => true
 | i + 1 => match inN td i, inN pe i, subN td (depsL ops i) with
  | false, false, true => false
  | _, _, _ => onlyN ops td pe i
theorem subN_of {td : List Nat} : ∀ {l : List Nat}, (∀ x ∈ l, x ∈ td) → subN td l = true
 | [], _ => rfl
 | x :: r, h => by
  unfold subN
  rw [inN_iff.2 (h x List.mem_cons_self)]
  exact subN_of fun y hy => h y (List.mem_cons_of_mem _ hy)
def reachN (ops : List Oper) : Nat → List Nat → Nat → Bool
 | 0, l, j => inN l j
 | f + 1, l, j => match inN l j with | true => true | false => l.any fun k => reachN ops f (depsL ops k) j
def subT (ops : List Oper) (deps : List Nat) : List Nat → Bool
 | [] => true
 | j :: r => match reachN ops 4 deps j with | true => subT ops deps r | false => false
theorem reachN_in {ops : List Oper} {S : List Nat} (hS : ∀ k ∈ S, ∀ j ∈ depsL ops k, j ∈ S) : ∀ {f : Nat} {l : List Nat} {j : Nat}, reachN ops f l j = true → (∀ k ∈ l, k ∈ S) → j ∈ S
 | 0, l, j, h, hl => hl j (inN_iff.1 h)
 | f + 1, l, j, h, hl => by
  unfold reachN at h
  cases hk : inN l j with
  | true => exact hl j (inN_iff.1 hk)
  | false =>
   rw [hk] at h
   obtain ⟨k, h1, h2⟩ := List.any_eq_true.1 h
   exact reachN_in hS h2 (hS k (hl k h1))
theorem subT_in {ops : List Oper} {S deps : List Nat} (hS : ∀ k ∈ S, ∀ j ∈ depsL ops k, j ∈ S) (hd : ∀ k ∈ deps, k ∈ S) : ∀ {l : List Nat}, subT ops deps l = true → ∀ j ∈ l, j ∈ S
 | [], _, _, hj => by cases hj
 | x :: r, h, j, hj => by
  unfold subT at h
  cases hx : reachN ops 4 deps x with
  | true =>
   rw [hx] at h
   rcases List.mem_cons.1 hj with rfl | hj
   ·exact reachN_in hS hx hd
   ·exact subT_in hS hd h j hj
  | false => rw [hx] at h; cases h
theorem onlyN_ok {ops : List Oper} {td pe : List Nat} : ∀ {n : Nat}, onlyN ops td pe n = true → ∀ i, i < n → i ∉ td → (∀ j ∈ depsL ops i, j ∈ td) → i ∈ pe
 | 0, _, i, h, _, _ => by omega
 | n + 1, h, i, hi, ht, hd => by
  by_cases e : i = n
  ·subst e
   unfold onlyN at h
   have h1 : inN td i = false := by
    cases hx : inN td i with
    | false => rfl
    | true => exact absurd (inN_iff.1 hx) ht
   rw [h1, subN_of hd] at h
   cases hx : inN pe i with
   | true => exact inN_iff.1 hx
   | false => rw [hx] at h; cases h
  ·refine onlyN_ok (n := n) ?_ i (by omega) ht hd
   unfold onlyN at h
   split at h
   ·cases h
   ·exact h
def onlyP (ops : List Oper) (td : List Nat) (p : Nat) : Nat → Bool
 | 0 => true
 | i + 1 => match inN td i, inN (depsL ops i) p, subN td (depsL ops i) with
  | false, false, true => false
  | _, _, _ => onlyP ops td p i
theorem onlyP_ok {ops : List Oper} {td : List Nat} {p : Nat} : ∀ {n : Nat}, onlyP ops td p n = true → ∀ i, i < n → i ∉ td → (∀ j ∈ depsL ops i, j ∈ td) → p ∈ depsL ops i
 | 0, _, i, h, _, _ => by omega
 | n + 1, h, i, hi, ht, hd => by
  by_cases e : i = n
  ·subst e
   unfold onlyP at h
   have h1 : inN td i = false := by
    cases hx : inN td i with
    | false => rfl
    | true => exact absurd (inN_iff.1 hx) ht
   rw [h1, subN_of hd] at h
   cases hx : inN (depsL ops i) p with
   | true => exact inN_iff.1 hx
   | false => rw [hx] at h; cases h
  ·refine onlyP_ok (n := n) ?_ i (by omega) ht hd
   unfold onlyP at h
   split at h
   ·cases h
   ·exact h
def allN (td : List Nat) : Nat → Bool
 | 0 => true
 | i + 1 => match inN td i with | true => allN td i | false => false
theorem allN_ok {td : List Nat} : ∀ {n : Nat}, allN td n = true → ∀ i, i < n → i ∈ td
 | 0, _, i, h => by omega
 | n + 1, h, i, hi => by
  unfold allN at h
  cases hx : inN td n with
  | false => rw [hx] at h; cases h
  | true =>
   rw [hx] at h
   by_cases e : i = n
   ·subst e; exact inN_iff.1 hx
   ·exact allN_ok h i (by omega)
def addV : Option Nat → SV → Env → Env
 | some d, sv, V => (d, sv) :: V
 | none, _, V => V
mutual
def pubS (k b : Nat) : SV → SV
 | .v x => .v x
 | .p k' off => match Nat.beq k' k with | true => .v (.pointer (some ⟨b, off, none⟩)) | false => .p k' off
 | .a l => .a (pubL k b l)
 | .f fn x y => .f fn (pubL k b x) (pubL k b y)
 | .i t x => .i t (pubS k b x)
 | .lit c => .lit c
 | .sl k' off len cap => match Nat.beq k' k with | true => .v (.slice (some ⟨b, off, none⟩) len cap) | false => .sl k' off len cap
def pubL (k b : Nat) : List SV → List SV
 | [] => []
 | x :: l => pubS k b x :: pubL k b l
end
mutual
theorem pubS_den {β : Nm} {k b : Nat} (hk : β k = some b) : ∀ (x : SV), den β (pubS k b x) = den β x
 | .v x => rfl
 | .p k' off => by
  unfold pubS
  cases hb : Nat.beq k' k with
  | true => obtain rfl := Nat.eq_of_beq_eq_true hb; simp only [den, hk]
  | false => rfl
 | .a l => by unfold pubS den; rw [pubL_den hk l]
 | .f fn x y => by unfold pubS den; rw [pubL_den hk x, pubL_den hk y]
 | .i t x => by unfold pubS den; rw [pubS_den hk x]
 | .lit c => rfl
 | .sl k' off len cap => by
  unfold pubS
  cases hb : Nat.beq k' k with
  | true => obtain rfl := Nat.eq_of_beq_eq_true hb; simp only [den, hk]
  | false => rfl
theorem pubL_den {β : Nm} {k b : Nat} (hk : β k = some b) : ∀ (x : List SV), denL β (pubL k b x) = denL β x
 | [] => rfl
 | x :: l => by unfold pubL denL; rw [pubS_den hk x, pubL_den hk l]
end
mutual
theorem pubS_id {γ : Nm} {k b : Nat} (hk : γ k = none) : ∀ {x : SV} {v : Value}, den γ x = some v → pubS k b x = x
 | .v x, _, _ => rfl
 | .p k' off, v, h => by
  unfold pubS
  cases hb : Nat.beq k' k with
  | true =>
   obtain rfl := Nat.eq_of_beq_eq_true hb
   unfold den at h; rw [hk] at h; cases h
  | false => rfl
 | .a l, v, h => by
  unfold den at h
  cases hl : denL γ l with
  | none => rw [hl] at h; cases h
  | some vs => unfold pubS; rw [pubL_id hk hl]
 | .f fn x y, v, h => by
  unfold den at h
  cases h1 : denL γ x with
  | none => rw [h1] at h; cases h
  | some a =>
   cases h2 : denL γ y with
   | none => rw [h1, h2] at h; cases h
   | some c => unfold pubS; rw [pubL_id hk h1, pubL_id hk h2]
 | .i t x, v, h => by
  unfold den at h
  cases hx : den γ x with
  | none => rw [hx] at h; cases h
  | some u => unfold pubS; rw [pubS_id hk hx]
 | .lit c, _, _ => rfl
 | .sl k' off len cap, v, h => by
  unfold pubS
  cases hb : Nat.beq k' k with
  | true =>
   obtain rfl := Nat.eq_of_beq_eq_true hb
   unfold den at h; rw [hk] at h; cases h
  | false => rfl
theorem pubL_id {γ : Nm} {k b : Nat} (hk : γ k = none) : ∀ {x : List SV} {v : List Value}, denL γ x = some v → pubL k b x = x
 | [], _, _ => rfl
 | x :: l, v, h => by
  obtain ⟨u, us, h1, h2, _⟩ := denL_cons h
  unfold pubL; rw [pubS_id hk h1, pubL_id hk h2]
end
def pubE (k b : Nat) : Env → Env
 | [] => []
 | (s, x) :: r => (s, pubS k b x) :: pubE k b r
theorem pubE_get (k b : Nat) : ∀ (E : Env) (s : Nat), get (pubE k b E) s = (get E s).map (pubS k b)
 | [], s => rfl
 | (s', x) :: r, s => by
  unfold pubE
  rw [get_cons, get_cons]
  by_cases e : s' = s
  ·rw [if_pos e, if_pos e]; rfl
  ·rw [if_neg e, if_neg e]; exact pubE_get k b r s
theorem pubE_ok {β : Nm} {k b : Nat} {E : Env} {T : Array Value} (hk : β k = some b) (h : EnvOk β (get E) T) : EnvOk β (get (pubE k b E)) T := fun s x hx => by
 rw [pubE_get, Option.map_eq_some_iff] at hx
 obtain ⟨y, h1, rfl⟩ := hx
 rw [pubS_den hk]; exact h s y h1
section
variable {P : Program} {C : Cx P} {τ : TT} {n : Nat} {ds : List Deferred} {k : List Item} {E : Env} {B : List (Option Bx)} {L : LH}
theorem W.pub (s : Nat) {kk : Nat} {x : Bx} {cs : List Value} (hs : (∃ off, get E s = some (.p kk off)) ∨ (∃ off len cap, get E s = some (.sl kk off len cap))) (hx : nth B kk = some (some x)) (hc : denL nm0 x.cells = some cs)
  (w : ∀ b, L b = none → C.R0 b = none → W C n ds k (pubE kk b E) (B.set kk none) (L.put b (.cells cs.toArray x.ty))) : W C n ds k E B L := by
 intro T R β hT hE hH
 have hb : ∃ b, β kk = some b := by
  rcases hs with ⟨off, hs⟩ | ⟨off, len, cap, hs⟩
  ·obtain ⟨b, hb, _⟩ := den_p (hE s _ hs); exact ⟨b, hb⟩
  ·have := hE s _ hs
   unfold den at this
   cases hk : β kk with
   | none => rw [hk] at this; cases this
   | some b => exact ⟨b, rfl⟩
 obtain ⟨b, hb⟩ := hb
 have hx' : B[kk]? = some (some x) := by rw [← nth_eq]; exact hx
 obtain ⟨h1, h2⟩ := hH.pub hb hx' hc
 exact w b h1 (hH.box kk b x hb hx').2.1 T R β hT (pubE_ok hb hE) h2
end
section
variable {P : Program} (C : Cx P) (τ : TT) (n : Nat) (ds : List Deferred) (ops : Array Oper) (k : List Item) (m : Nat) (Lf : LH)
inductive DD : List Nat → Env → Env → List (Option Bx) → LH → Prop
 | reg {td : List Nat} {V E0 : Env} {B : List (Option Bx)} {L : LH} (i : Nat) {o : Oper} {d : Nat} {sv : SV} (ho : nth ops.toList i = some o) (hn : inN td i = false) (hdp : subN td (depsL ops.toList i) = true) (hd : o.dst = some d) (hdf : isDefer o.op = false)
   (hg : guardOk (lookV ops.toList i V E0) ops.toList o.guard = some true) (hv : ∀ (T : Array Value) (R : LH) (β : Nm), EnvOk β (lookV ops.toList i V E0) T → Boxes β (B.take m) R → Le Lf R → Vld P β o.op T R sv) (w : DD (i :: td) ((d, sv) :: V) E0 B L) : DD td V E0 B L
 | no {td : List Nat} {V E0 : Env} {B : List (Option Bx)} {L : LH} (i : Nat) {o : Oper} {d : Nat} (ho : nth ops.toList i = some o) (hn : inN td i = false) (hdp : subN td (depsL ops.toList i) = true) (hd : o.dst = some d)
   (hg : guardOk (lookV ops.toList i V E0) ops.toList o.guard = some false) (w : DD (i :: td) ((d, .v undef) :: V) E0 B L) : DD td V E0 B L
 | alc {td : List Nat} {V E0 : Env} {B : List (Option Bx)} {L : LH} (i : Nat) {o : Oper} {d : Nat} {x : Bx} {sh : Nat → SV} (ho : nth ops.toList i = some o) (hn : inN td i = false) (hdp : subN td (depsL ops.toList i) = true) (hd : o.dst = some d)
   (hg : guardOk (lookV ops.toList i V E0) ops.toList o.guard = some true) (hs : semA τ (lookV ops.toList i V E0) o.op = some (x, sh)) (w : DD (i :: td) ((d, sh B.length) :: V) E0 (B ++ [some x]) L) : DD td V E0 B L
 | eff {td : List Nat} {V E0 : Env} {B : List (Option Bx)} {L : LH} (pe : List Nat) (Q : Nat → SV → List (Option Bx) → LH → Prop) (e0 : Nat) (h0 : Nat.blt e0 ops.size = true) (hn0 : inN td e0 = false) (hall : onlyN ops.toList td pe ops.size = true)
   (he : ∀ e ∈ pe, subN td (depsL ops.toList e) = true → ∃ o, nth ops.toList e = some o ∧ guardOk (lookV ops.toList e V E0) ops.toList o.guard = some true ∧
    ∀ (T : Array Value) (R : LH) (β : Nm), EnvOk β (lookV ops.toList e V E0) T → HeapOk C.L0 C.R0 β B L R → EffW C.X o T R (fun v R' => ∃ sv B' L', Q e sv B' L' ∧ den β sv = some v ∧ HeapOk C.L0 C.R0 β B' L' R' ∧ ∀ kk, β kk = none → B'[kk]? = B[kk]?))
   (hq : ∀ e ∈ pe, subN td (depsL ops.toList e) = true → ∀ sv B' L', Q e sv B' L' → Le Lf L' ∧ B'.length = B.length ∧ (B'.take m = B.take m ∨ subT ops.toList (depsL ops.toList e) td = true))
   (w : ∀ e ∈ pe, subN td (depsL ops.toList e) = true → ∀ sv B' L', Q e sv B' L' → DD (e :: td) (addV (dstOf ops e) sv V) E0 B' L') : DD td V E0 B L
 | pub {td : List Nat} {V E0 : Env} {B : List (Option Bx)} {L : LH} (p : Nat) {d kk : Nat} {x : Bx} {cs : List Value} (hp : inN td p = true) (hd : dstOf ops p = some d) (hs : (∃ off, get V d = some (.p kk off)) ∨ (∃ off len cap, get V d = some (.sl kk off len cap))) (hm : Nat.ble m kk = true)
   (e0 : Nat) (h0 : Nat.blt e0 ops.size = true) (hn0 : inN td e0 = false) (hall : onlyP ops.toList td p ops.size = true) (hx : nth B kk = some (some x)) (hc : denL nm0 x.cells = some cs)
   (w : ∀ b, L b = none → C.R0 b = none → DD td (pubE kk b V) E0 (B.set kk none) (L.put b (.cells cs.toArray x.ty))) : DD td V E0 B L
 | pan {td : List Nat} {V E0 : Env} {B : List (Option Bx)} {L : LH} (e0 : Nat) {o : Oper} (h0 : Nat.blt e0 ops.size = true) (hn0 : inN td e0 = false) (hall : onlyN ops.toList td [e0] ops.size = true) (ho : nth ops.toList e0 = some o) (hg : guardOk (lookV ops.toList e0 V E0) ops.toList o.guard = some true)
   (he : ∀ (T : Array Value) (R : LH) (β : Nm) (k' : List Item), T.size = n → EnvOk β (lookV ops.toList e0 V E0) T → HeapOk C.L0 C.R0 β B L R → isDefer o.op = false ∧
    wpS P (nextOut P C.X.Go (Fr C.f T k' ds .run C.kd C.ro) C.cs .normal) (panicOut C.X.Go (Fr C.f T k' ds .run C.kd C.ro) C.cs) (execOp (ev T) o) R) : DD td V E0 B L
 | rest {td : List Nat} {V E0 : Env} {B : List (Option Bx)} {L : LH} (e0 : Nat) (h0 : Nat.blt e0 ops.size = true) (hn0 : inN td e0 = false) (hall : allN (e0 :: td) ops.size = true) (hsub : subT ops.toList (depsL ops.toList e0) td = true)
   (w : W C n ds (.inRegion ops [e0] :: k) (V ++ E0) B L) : DD td V E0 B L
 | lit {td : List Nat} {V E0 : Env} {B : List (Option Bx)} {L : LH} (s : Nat) {p : Bool} (hs : get V s = some (.v (.bool p))) (w : DD td ((s, .lit p) :: V) E0 B L) : DD td V E0 B L
 | fin {td : List Nat} {V E0 : Env} {B : List (Option Bx)} {L : LH} (hall : allN td ops.size = true) (w : W C n ds k (V ++ E0) B L) : DD td V E0 B L
end
section
variable {P : Program} {C : Cx P} {τ : TT} {n : Nat} {ds : List Deferred} {ops : Array Oper} {k : List Item} {m : Nat} {Lf : LH}
theorem get_append (V E0 : Env) (s : Nat) : get (V ++ E0) s = match get V s with | some y => some y | none => get E0 s := by
 induction V with
 | nil => rfl
 | cons y V ihV =>
  obtain ⟨s', y⟩ := y
  rw [List.cons_append, get_cons, get_cons]
  by_cases e : s' = s
  ·rw [if_pos e, if_pos e]
  ·rw [if_neg e, if_neg e]; exact ihV
theorem dst_uniq (hdd : distinctDst ops = true) {i j s : Nat} (hi : dstOf ops i = some s) (hj : dstOf ops j = some s) : i = j := by
 have lt : ∀ {i : Nat}, dstOf ops i = some s → i < ops.size := fun {i} h => by
  unfold dstOf at h
  cases hx : ops[i]? with
  | none => rw [hx] at h; cases h
  | some o => exact (Array.getElem?_eq_some_iff.1 hx).1
 have h1 := List.all_eq_true.1 (List.all_eq_true.1 hdd i (List.mem_range.2 (lt hi))) j (List.mem_range.2 (lt hj))
 rw [hi, hj] at h1
 simpa using h1
theorem writer_dst {s j : Nat} (h : writer s ops.toList 0 = some j) : dstOf ops j = some s := by
 obtain ⟨_, o, h1, h2⟩ := writer_some h
 unfold dstOf
 rw [Nat.sub_zero, Array.getElem?_toList] at h1
 rw [h1]; exact h2
theorem writer_no {s : Nat} (h : writer s ops.toList 0 = none) (j : Nat) : dstOf ops j ≠ some s := by
 unfold dstOf
 cases hx : ops[j]? with
 | none => simp
 | some o => exact writer_none h j o (by rw [Array.getElem?_toList]; exact hx)
def Told (P : Program) (C : Cx P) (n : Nat) (ops : Array Oper) (m : Nat) (Lf : LH) (V E0 : Env) (B : List (Option Bx)) (β : Nm) (pend : Nat → Option Nat) (i : Nat) : Prop :=
  ∃ o d sv, ops[i]? = some o ∧ o.dst = some d ∧ get V d = some sv ∧
    ((pend i = none ∧ ∀ (T : Array Value) (R : LH) (γ : Nm), NmLe β γ → EnvOk γ (lookV ops.toList i V E0) T → Boxes γ (B.take m) R → Le Lf R → ∃ v, den γ sv = some v ∧ Yld P ops T R o v) ∨
     (∃ kk x, pend i = some kk ∧ B[kk]? = some (some x) ∧ β kk = none ∧ ∀ (T : Array Value) (γ : Nm), NmLe β γ → EnvOk γ (lookV ops.toList i V E0) T → Region.wanted o (yielded ops T) = true ∧ isDefer o.op = false ∧
        ∃ cs mk, denL γ x.cells = some cs ∧ (∀ (γ' : Nm) (b : Nat), γ' kk = some b → den γ' sv = some (mk b)) ∧ ∀ ty R, Alc P o.op ty T R mk (.cells cs.toArray x.ty)))
structure Inv (C : Cx P) (n : Nat) (ops : Array Oper) (m : Nat) (Lf : LH) (td : List Nat) (V E0 : Env) (B : List (Option Bx)) (L : LH) (S : List Nat) (T : Array Value) (R : LH) (β : Nm) (pend : Nat → Option Nat) : Prop where
 hT : T.size = n
 hS : ∀ i ∈ S, i ∈ td ∧ i < ops.size ∧ ∀ j ∈ depsOf ops i, j ∈ S
 hC : ∀ i ∈ td, ∀ j ∈ depsOf ops i, j ∈ td
 hE : ∀ s x, get E0 s = some x → (∀ j ∈ S, dstOf ops j ≠ some s) → den β x = some (T.getD s undef)
 hV : ∀ j ∈ S, ∀ s x, dstOf ops j = some s → get V s = some x → den β x = some (T.getD s undef)
 hK : ∀ s x, get V s = some x → ∃ j, j ∈ td ∧ dstOf ops j = some s
 hN : ∀ j ∈ td, ∀ s, dstOf ops j = some s → get V s ≠ none
 hH : HeapOk C.L0 C.R0 β B L R
 hL : Le Lf L
 hm : m ≤ B.length
 hI : ∀ i i' kk, pend i = some kk → pend i' = some kk → i = i'
 hP : ∀ i kk, pend i = some kk → kk < B.length
 hD : ∀ i ∈ td, i ∉ S → Told P C n ops m Lf V E0 B β pend i
theorem Inv.env {td : List Nat} {V E0 : Env} {B : List (Option Bx)} {L : LH} {S : List Nat} {T : Array Value} {R : LH} {β : Nm} {pend : Nat → Option Nat} (h : Inv C n ops m Lf td V E0 B L S T R β pend) (hdd : distinctDst ops = true) {i : Nat} (hi : i ∉ S) (hd : ∀ j ∈ depsOf ops i, j ∈ S) : EnvOk β (lookV ops.toList i V E0) T := by
 intro s x hx
 unfold lookV at hx
 split at hx
 ·rename_i hw
  exact h.hE s x hx fun j _ => writer_no hw j
 ·rename_i j hw
  have hj := writer_dst hw
  split at hx
  ·rename_i h1
   rw [depsL_eq] at h1
   exact h.hV j (hd j (inN_iff.1 h1)) s x hj hx
  ·split at hx
   ·rename_i h1
    rw [depsL_eq] at h1
    refine h.hE s x hx fun j' hj' e => ?_
    obtain rfl := dst_uniq hdd e hj
    exact hi ((h.hS j' hj').2.2 i (inN_iff.1 h1))
   ·cases hx
theorem Inv.low {td : List Nat} {V E0 : Env} {B : List (Option Bx)} {L : LH} {S : List Nat} {T : Array Value} {R : LH} {β : Nm} {pend : Nat → Option Nat} (h : Inv C n ops m Lf td V E0 B L S T R β pend) : Boxes β (B.take m) R := fun k b x hk hx => by
 by_cases hlt : k < m
 ·rw [List.getElem?_take_of_lt hlt] at hx
  exact h.hH.boxes k b x hk hx
 ·rw [List.getElem?_eq_none (by rw [List.length_take]; omega)] at hx; cases hx
theorem Inv.exec {td : List Nat} {V E0 : Env} {B : List (Option Bx)} {L : LH} {S : List Nat} {T : Array Value} {R : LH} {β : Nm} {pend : Nat → Option Nat} (h : Inv C n ops m Lf td V E0 B L S T R β pend) (hdd : distinctDst ops = true) (hz : dstBelow ops n = true) {i : Nat} {l : List Nat} (ht : i ∈ td) (hi : i ∉ S) (hlt : i < ops.size) (hd : ∀ j ∈ depsOf ops i, j ∈ S)
  (w : ∀ T' R' β' pend', Inv C n ops m Lf td V E0 B L (i :: S) T' R' β' pend' → C.X.Go (G (Fr C.f T' (.inRegion ops l :: k) ds .run C.kd C.ro) C.cs) R') : C.X.Go (G (Fr C.f T (.inRegion ops (i :: l) :: k) ds .run C.kd C.ro) C.cs) R := by
 have hen := h.env hdd hi hd
 obtain ⟨o, d, sv, ho, hdst, hsv, hcase⟩ := h.hD i ht hi
 have hdo : dstOf ops i = some d := by unfold dstOf; rw [ho]; exact hdst
 have hdn : d < n := by
  have := List.all_eq_true.1 hz i (List.mem_range.2 hlt)
  rw [hdo] at this
  simpa using this
 have hSd : ∀ j ∈ i :: S, j ∈ td ∧ j < ops.size ∧ ∀ j' ∈ depsOf ops j, j' ∈ i :: S := fun j hj => by
  rcases List.mem_cons.1 hj with rfl | hj
  ·exact ⟨ht, hlt, fun j' hj' => List.mem_cons_of_mem _ (hd j' hj')⟩
  ·exact ⟨(h.hS j hj).1, (h.hS j hj).2.1, fun j' hj' => List.mem_cons_of_mem _ ((h.hS j hj).2.2 j' hj')⟩
 -- the slots behind it
 have slots : ∀ (γ : Nm) (v : Value) (T' : Array Value), NmLe β γ → den γ sv = some v → Upd T T' d v → (∀ s x, get E0 s = some x → (∀ j ∈ i :: S, dstOf ops j ≠ some s) → den γ x = some (T'.getD s undef)) ∧ (∀ j ∈ i :: S, ∀ s x, dstOf ops j = some s → get V s = some x → den γ x = some (T'.getD s undef)) := by
  intro γ v T' hγ hv u
  refine ⟨fun s x hx hj => ?_, fun j hj s x hs hx => ?_⟩
  ·have hne : s ≠ d := fun e => hj i List.mem_cons_self (by rw [e]; exact hdo)
   rw [u.other s (by simpa using hne)]
   exact den_mono hγ (h.hE s x hx fun j hj' => hj j (List.mem_cons_of_mem _ hj'))
  ·by_cases e : s = d
   ·subst e
    rw [hsv] at hx; cases hx
    rw [u.same]; exact hv
   ·rw [u.other s (by simpa using e)]
    rcases List.mem_cons.1 hj with rfl | hj
    ·rw [hdo] at hs; cases hs; exact absurd rfl e
    ·exact den_mono hγ (h.hV j hj s x hs hx)
 rcases hcase with ⟨hp, hY⟩ | ⟨kk, x, hp, hB, hk, hA⟩
 ·obtain ⟨v, hv, hy⟩ := hY T R β (fun _ _ e => e) hen h.low (h.hL.trans h.hH.le)
  refine exec_yld ho hy fun T' hT' => ?_
  rw [hdst] at hT'
  have u := hT' (by rw [h.hT]; exact hdn)
  obtain ⟨s1, s2⟩ := slots β v T' (fun _ _ e => e) hv u
  refine w T' R β pend ⟨u.size.trans h.hT, hSd, h.hC, s1, s2, h.hK, h.hN, h.hH, h.hL, h.hm, h.hI, h.hP, fun j hj hj' => h.hD j hj fun e => hj' (List.mem_cons_of_mem _ e)⟩
 ·obtain ⟨hw, hdf, cs, mk, h1, h2, h3⟩ := hA T β (fun _ _ e => e) hen
  refine C.X.op ho hw (.inr fun c hc => by rw [hc] at hdf; cases hdf) ?_
  obtain ⟨dst, op, ty, pos, af, gd⟩ := o
  refine h3 ty R dst pos af gd _ _ fun b hb => ?_
  show C.X.Go (G ((Fr C.f T (.inRegion ops (i :: l) :: k) ds .run C.kd C.ro).finish (mk b)) C.cs) _
  rw [finish_some ho hdst]
  have u := upd_set (mk b) (show d < T.size by rw [h.hT]; exact hdn)
  have hγ := Nm.set_le hk b
  obtain ⟨s1, s2⟩ := slots (β.set kk b) (mk b) _ hγ (h2 _ b (Nm.set_same _ _ _)) u
  refine w _ _ (β.set kk b) (fun j => if j = i then none else pend j) ⟨u.size.trans h.hT, hSd, h.hC, s1, s2, h.hK, h.hN, h.hH.name hb hk hB h1, h.hL, h.hm, fun a a' c e1 e2 => ?_, fun a c e1 => ?_, fun j hj hj' => ?_⟩
  ·try simp only at e1 e2
   split at e1
   ·cases e1
   ·split at e2
    ·cases e2
    ·exact h.hI a a' c e1 e2
  ·try simp only at e1
   split at e1
   ·cases e1
   ·exact h.hP a c e1
  ·have hji : j ≠ i := fun e => hj' (by rw [e]; exact List.mem_cons_self)
   obtain ⟨o', d', sv', g1, g2, g3, g4⟩ := h.hD j hj fun e => hj' (List.mem_cons_of_mem _ e)
   refine ⟨o', d', sv', g1, g2, g3, ?_⟩
   rcases g4 with ⟨g5, g6⟩ | ⟨kk', x', g5, g6, g7, g8⟩
   ·exact .inl ⟨by simp [hji, g5], fun T' R' γ hγ' => g6 T' R' γ (fun a c e => hγ' a c (hγ a c e))⟩
   ·refine .inr ⟨kk', x', by simp [hji, g5], g6, ?_, fun T' γ hγ' => g8 T' γ (fun a c e => hγ' a c (hγ a c e))⟩
    rw [Nm.set_ne _ _ (fun e => by subst e; exact hji (h.hI _ _ _ g5 hp))]; exact g7
theorem lookV_grow (hdd : distinctDst ops = true) {td : List Nat} (hC : ∀ i ∈ td, ∀ j ∈ depsOf ops i, j ∈ td) {V E0 : Env} {j i d : Nat} {sv : SV} (hj : j ∈ td) (hi : i ∉ td) (hd : dstOf ops i = some d) {γ : Nm} {T : Array Value} (h : EnvOk γ (lookV ops.toList j ((d, sv) :: V) E0) T) : EnvOk γ (lookV ops.toList j V E0) T := by
 intro s x hx
 refine h s x ?_
 unfold lookV at hx ⊢
 cases hw : writer s ops.toList 0 with
 | none => rw [hw] at hx; exact hx
 | some p =>
  rw [hw] at hx
  simp only at hx ⊢
  cases h1 : inN (depsL ops.toList j) p with
  | true =>
   rw [h1] at hx
   simp only at hx ⊢
   rw [get_cons, if_neg (fun e => ?_)]
   ·exact hx
   ·subst e
    have := dst_uniq hdd hd (writer_dst hw)
    subst this
    rw [depsL_eq] at h1
    exact hi (hC j hj _ (inN_iff.1 h1))
  | false => rw [h1] at hx; exact hx
theorem Inv.tell {td : List Nat} {V E0 : Env} {B B' : List (Option Bx)} {L : LH} {S : List Nat} {T : Array Value} {R : LH} {β : Nm} {pend pend' : Nat → Option Nat} (h : Inv C n ops m Lf td V E0 B L S T R β pend) (hdd : distinctDst ops = true) {i d : Nat} {sv : SV} {o : Oper} (ho : ops[i]? = some o) (hd : o.dst = some d) (hi : i ∉ td) (hdp : ∀ j ∈ depsOf ops i, j ∈ td)
  (hB : B'.take m = B.take m) (hB2 : ∀ (kk : Nat) (x : Bx), B[kk]? = some (some x) → B'[kk]? = some (some x)) (hm' : m ≤ B'.length) (hH : HeapOk C.L0 C.R0 β B' L R) (hp : ∀ j, j ≠ i → pend' j = pend j) (hI : ∀ i i' kk, pend' i = some kk → pend' i' = some kk → i = i') (hP : ∀ i kk, pend' i = some kk → kk < B'.length)
  (hnew : Told P C n ops m Lf ((d, sv) :: V) E0 B' β pend' i) : Inv C n ops m Lf (i :: td) ((d, sv) :: V) E0 B' L S T R β pend' := by
 have hdo : dstOf ops i = some d := by unfold dstOf; rw [ho]; exact hd
 refine ⟨h.hT, fun j hj => ⟨List.mem_cons_of_mem _ (h.hS j hj).1, (h.hS j hj).2⟩, fun j hj j' hj' => ?_, h.hE, fun j hj s x hs hx => ?_, fun s x hx => ?_, fun j hj s hs => ?_, hH, h.hL, hm', hI, hP, fun j hj hj' => ?_⟩
 ·rcases List.mem_cons.1 hj with rfl | hj
  ·exact List.mem_cons_of_mem _ (hdp j' hj')
  ·exact List.mem_cons_of_mem _ (h.hC j hj j' hj')
 ·have hne : d ≠ s := fun e => by
   subst e
   obtain rfl := dst_uniq hdd hdo hs
   exact hi (h.hS _ hj).1
  rw [get_cons, if_neg hne] at hx
  exact h.hV j hj s x hs hx
 ·rw [get_cons] at hx
  by_cases e : d = s
  ·exact ⟨i, List.mem_cons_self, by rw [hdo, e]⟩
  ·rw [if_neg e] at hx
   obtain ⟨j, h1, h2⟩ := h.hK s x hx
   exact ⟨j, List.mem_cons_of_mem _ h1, h2⟩
 ·rw [get_cons]
  by_cases e : d = s
  ·rw [if_pos e]; simp
  ·rw [if_neg e]
   rcases List.mem_cons.1 hj with rfl | hj
   ·rw [hdo] at hs; cases hs; exact absurd rfl e
   ·exact h.hN j hj s hs
 ·rcases List.mem_cons.1 hj with rfl | hj
  ·exact hnew
  ·have hji : j ≠ i := fun e => hi (e ▸ hj)
   obtain ⟨o', d', sv', g1, g2, g3, g4⟩ := h.hD j hj hj'
   have hd' : d ≠ d' := fun e => by
    subst e
    exact hji (dst_uniq hdd (by unfold dstOf; rw [g1]; exact g2) hdo)
   refine ⟨o', d', sv', g1, g2, by rw [get_cons, if_neg hd']; exact g3, ?_⟩
   rcases g4 with ⟨g5, g6⟩ | ⟨kk', x', g5, g6, g7, g8⟩
   ·exact .inl ⟨by rw [hp j hji]; exact g5, fun T' R' γ hγ hE hBx => g6 T' R' γ hγ (lookV_grow hdd h.hC hj hi hdo hE) (by rw [← hB]; exact hBx)⟩
   ·exact .inr ⟨kk', x', by rw [hp j hji]; exact g5, hB2 _ _ g6, g7, fun T' γ hγ hE => g8 T' γ hγ (lookV_grow hdd h.hC hj hi hdo hE)⟩
theorem DD.run (hτ : τ.Ok P) (hdd : distinctDst ops = true) (hz : dstBelow ops n = true) {td : List Nat} {V E0 : Env} {B : List (Option Bx)} {L : LH} (h : DD C τ n ds ops k m Lf td V E0 B L) : ∀ (l S : List Nat) (T : Array Value) (R : LH) (β : Nm) (pend : Nat → Option Nat), Lin ops S l → Inv C n ops m Lf td V E0 B L S T R β pend →
  C.X.Go (G (Fr C.f T (.inRegion ops l :: k) ds .run C.kd C.ro) C.cs) R := by
 have opsOf : ∀ {i : Nat} {o : Oper}, nth ops.toList i = some o → ops[i]? = some o := fun h => by rw [nth_eq, Array.getElem?_toList] at h; exact h
 have nin : ∀ {td : List Nat} {i : Nat}, inN td i = false → i ∉ td := fun h e => by rw [inN_iff.2 e] at h; cases h
 induction h with
 | @reg td V E0 B L i o d sv ho hn hdp hd hdf hg hv w ih =>
  intro l S T R β pend hl hI
  have hni := nin hn
  have hpi : pend i = none ∨ True := .inr trivial
  have hdp' : ∀ j ∈ depsOf ops i, j ∈ td := fun j hj => subN_iff hdp j (by rw [depsL_eq]; exact hj)
  refine ih l S T R β (fun j => if j = i then none else pend j) hl (hI.tell hdd (opsOf ho) hd hni hdp' rfl (fun _ _ e => e) hI.hm hI.hH (fun j hj => by simp [hj]) (fun a a' c e1 e2 => ?_) (fun a c e1 => ?_) ?_)
  ·try simp only at e1 e2
   split at e1
   ·cases e1
   ·split at e2
    ·cases e2
    ·exact hI.hI a a' c e1 e2
  ·try simp only at e1
   split at e1
   ·cases e1
   ·exact hI.hP a c e1
  ·refine ⟨o, d, sv, opsOf ho, hd, by rw [get_cons, if_pos rfl], .inl ⟨by simp, fun T' R' γ _ hE hB hR => ?_⟩⟩
   have hE' : EnvOk γ (lookV ops.toList i V E0) T' := fun s x hx => by
    refine hE s x ?_
    unfold lookV at hx ⊢
    cases hw : writer s ops.toList 0 with
    | none => rw [hw] at hx; exact hx
    | some p =>
     rw [hw] at hx
     simp only at hx ⊢
     cases h1 : inN (depsL ops.toList i) p with
     | true =>
      rw [h1] at hx
      simp only at hx ⊢
      rw [get_cons, if_neg (fun e => ?_)]
      ·exact hx
      ·subst e
       have := dst_uniq hdd (show dstOf ops i = some d by unfold dstOf; rw [opsOf ho]; exact hd) (writer_dst hw)
       subst this
       rw [depsL_eq] at h1
       exact hni (hdp' _ (inN_iff.1 h1))
     | false => rw [h1] at hx; exact hx
   obtain ⟨v, h1, h2⟩ := hv T' R' γ hE' hB hR
   exact ⟨v, h1, .inl ⟨guardOk_wanted hE' hg, hdf, h2 _⟩⟩
 | @no td V E0 B L i o d ho hn hdp hd hg w ih =>
  intro l S T R β pend hl hI
  have hni := nin hn
  have hdp' : ∀ j ∈ depsOf ops i, j ∈ td := fun j hj => subN_iff hdp j (by rw [depsL_eq]; exact hj)
  refine ih l S T R β (fun j => if j = i then none else pend j) hl (hI.tell hdd (opsOf ho) hd hni hdp' rfl (fun _ _ e => e) hI.hm hI.hH (fun j hj => by simp [hj]) (fun a a' c e1 e2 => ?_) (fun a c e1 => ?_) ?_)
  ·try simp only at e1 e2
   split at e1
   ·cases e1
   ·split at e2
    ·cases e2
    ·exact hI.hI a a' c e1 e2
  ·try simp only at e1
   split at e1
   ·cases e1
   ·exact hI.hP a c e1
  ·refine ⟨o, d, _, opsOf ho, hd, by rw [get_cons, if_pos rfl], .inl ⟨by simp, fun T' R' γ _ hE hB hR => ?_⟩⟩
   have hE' : EnvOk γ (lookV ops.toList i V E0) T' := fun s x hx => by
    refine hE s x ?_
    unfold lookV at hx ⊢
    cases hw : writer s ops.toList 0 with
    | none => rw [hw] at hx; exact hx
    | some p =>
     rw [hw] at hx
     simp only at hx ⊢
     cases h1 : inN (depsL ops.toList i) p with
     | true =>
      rw [h1] at hx
      simp only at hx ⊢
      rw [get_cons, if_neg (fun e => ?_)]
      ·exact hx
      ·subst e
       have := dst_uniq hdd (show dstOf ops i = some d by unfold dstOf; rw [opsOf ho]; exact hd) (writer_dst hw)
       subst this
       rw [depsL_eq] at h1
       exact hni (hdp' _ (inN_iff.1 h1))
     | false => rw [h1] at hx; exact hx
   exact ⟨undef, rfl, .inr ⟨guardOk_wanted hE' hg, rfl⟩⟩
 | @alc td V E0 B L i o d x sh ho hn hdp hd hg hs w ih =>
  intro l S T R β pend hl hI
  have hni := nin hn
  have hdp' : ∀ j ∈ depsOf ops i, j ∈ td := fun j hj => subN_iff hdp j (by rw [depsL_eq]; exact hj)
  obtain ⟨hH', hfree⟩ := hI.hH.more x
  refine ih l S T R β (fun j => if j = i then some B.length else pend j) hl (hI.tell hdd (opsOf ho) hd hni hdp' (by rw [List.take_append_of_le_length hI.hm]) (fun kk y hy => by rw [List.getElem?_append_left (List.getElem?_eq_some_iff.1 hy).1]; exact hy) (by simp; have := hI.hm; omega) hH' (fun j hj => by simp [hj]) (fun a a' c e1 e2 => ?_) (fun a c e1 => ?_) ?_)
  ·try simp only at e1 e2
   split at e1
   ·rename_i ea
    cases e1
    split at e2
    ·rename_i eb; rw [ea, eb]
    ·exact absurd (hI.hP _ _ e2) (Nat.lt_irrefl _)
   ·split at e2
    ·cases e2
     exact absurd (hI.hP _ _ e1) (Nat.lt_irrefl _)
    ·exact hI.hI a a' c e1 e2
  ·try simp only at e1
   split at e1
   ·cases e1; simp
   ·have := hI.hP a c e1; simp; omega
  ·refine ⟨o, d, _, opsOf ho, hd, by rw [get_cons, if_pos rfl], .inr ⟨B.length, x, by simp, by simp, hfree, fun T' γ _ hE => ?_⟩⟩
   have hE' : EnvOk γ (lookV ops.toList i V E0) T' := fun s y hx => by
    refine hE s y ?_
    unfold lookV at hx ⊢
    cases hw : writer s ops.toList 0 with
    | none => rw [hw] at hx; exact hx
    | some p =>
     rw [hw] at hx
     simp only at hx ⊢
     cases h1 : inN (depsL ops.toList i) p with
     | true =>
      rw [h1] at hx
      simp only at hx ⊢
      rw [get_cons, if_neg (fun e => ?_)]
      ·exact hx
      ·subst e
       have := dst_uniq hdd (show dstOf ops i = some d by unfold dstOf; rw [opsOf ho]; exact hd) (writer_dst hw)
       subst this
       rw [depsL_eq] at h1
       exact hni (hdp' _ (inN_iff.1 h1))
     | false => rw [h1] at hx; exact hx
   obtain ⟨cs, mk, e1, e2, e3⟩ := semA_ok hτ hE' hs
   exact ⟨guardOk_wanted hE' hg, semA_defer hs, cs, mk, e1, fun γ' b hb => e2 γ' _ b hb, e3⟩
 | @eff td V E0 B L pe Q e0 h0 hn0 hall he hq w ih =>
  intro l
  induction l with
  | nil =>
   intro S T R β pend hl hI
   cases hl with
   | nil hfull => exact absurd (hI.hS e0 (hfull e0 (lt_of_blt h0))).1 (nin hn0)
  | cons i l ihl =>
   intro S T R β pend hl hI
   cases hl with
   | cons hi hni hd hrest =>
    by_cases ht : i ∈ td
    ·exact hI.exec hdd hz ht hni hi hd fun T' R' β' pend' hI' => ihl _ T' R' β' pend' hrest hI'
    ·have hdt : ∀ j ∈ depsOf ops i, j ∈ td := fun j hj => (hI.hS j (hd j hj)).1
     have hpe := onlyN_ok hall i hi ht (fun j hj => hdt j (by rw [← depsL_eq]; exact hj))
     have hsub : subN td (depsL ops.toList i) = true := subN_of fun j hj => hdt j (by rw [← depsL_eq]; exact hj)
     obtain ⟨o, ho, hg, hstep⟩ := he i hpe hsub
     have hen := hI.env hdd hni hd
     obtain ⟨hdf, hE⟩ := hstep T R β hen hI.hH
     refine C.X.op (opsOf ho) (guardOk_wanted hen hg) (.inr fun c hc => by rw [hc] at hdf; cases hdf) (wpS_mono ?_ (fun _ _ h => h.elim) _ _ hE)
     have go : ∀ v R', (∃ sv B' L', Q i sv B' L' ∧ den β sv = some v ∧ HeapOk C.L0 C.R0 β B' L' R' ∧ ∀ kk, β kk = none → B'[kk]? = B[kk]?) → C.X.Go (G ((Fr C.f T (.inRegion ops (i :: l) :: k) ds .run C.kd C.ro).finish v) C.cs) R' := by
      rintro v R' ⟨sv, B', L', hQ, hv, hH', hBk⟩
      obtain ⟨q1, q2, q3⟩ := hq i hpe hsub sv B' L' hQ
      have hSd : ∀ j ∈ i :: S, j ∈ i :: td ∧ j < ops.size ∧ ∀ j' ∈ depsOf ops j, j' ∈ i :: S := fun j hj => by
       rcases List.mem_cons.1 hj with rfl | hj
       ·exact ⟨List.mem_cons_self, hi, fun j' hj' => List.mem_cons_of_mem _ (hd j' hj')⟩
       ·exact ⟨List.mem_cons_of_mem _ (hI.hS j hj).1, (hI.hS j hj).2.1, fun j' hj' => List.mem_cons_of_mem _ ((hI.hS j hj).2.2 j' hj')⟩
      have hC' : ∀ j ∈ i :: td, ∀ j' ∈ depsOf ops j, j' ∈ i :: td := fun j hj j' hj' => by
       rcases List.mem_cons.1 hj with rfl | hj
       ·exact List.mem_cons_of_mem _ (hdt j' hj')
       ·exact List.mem_cons_of_mem _ (hI.hC j hj j' hj')
      have hlow : ∀ {j : Nat}, j ∈ td → j ∉ S → B'.take m = B.take m := fun {j} hj hj' => by
       rcases q3 with q3 | q3
       ·exact q3
       ·exact absurd (subT_in (S := S) (fun k hk j hj => (hI.hS k hk).2.2 j (by rw [← depsL_eq]; exact hj)) (fun k hk => hd k (by rw [← depsL_eq]; exact hk)) q3 j hj) hj'
      have hdo : dstOf ops i = o.dst := by unfold dstOf; rw [opsOf ho]; rfl
      cases hdd' : o.dst with
      | none =>
       rw [finish_none (opsOf ho) hdd']
       have ihw := ih i hpe hsub sv B' L' hQ l (i :: S) T R' β pend hrest
       rw [hdo, hdd'] at ihw
       refine ihw ⟨hI.hT, hSd, hC', fun s x hx hj => hI.hE s x hx fun j hj' => hj j (List.mem_cons_of_mem _ hj'), fun j hj s x hs hx => ?_, fun s x hx => ?_, fun j hj s hs => ?_, hH', q1, by rw [q2]; exact hI.hm, hI.hI, fun a c e => by rw [q2]; exact hI.hP a c e, fun j hj hj' => ?_⟩
       ·rcases List.mem_cons.1 hj with rfl | hj
        ·rw [hdo, hdd'] at hs; cases hs
        ·exact hI.hV j hj s x hs hx
       ·obtain ⟨j, h1, h2⟩ := hI.hK s x hx
        exact ⟨j, List.mem_cons_of_mem _ h1, h2⟩
       ·rcases List.mem_cons.1 hj with rfl | hj
        ·rw [hdo, hdd'] at hs; cases hs
        ·exact hI.hN j hj s hs
       ·have hjS : j ∉ S := fun e => hj' (List.mem_cons_of_mem _ e)
        have hjt : j ∈ td := by
         rcases List.mem_cons.1 hj with rfl | hj
         ·exact absurd List.mem_cons_self hj'
         ·exact hj
        obtain ⟨o', d', sv', g1, g2, g3, g4⟩ := hI.hD j hjt hjS
        refine ⟨o', d', sv', g1, g2, g3, ?_⟩
        rcases g4 with ⟨g5, g6⟩ | ⟨kk', x', g5, g6, g7, g8⟩
        ·exact .inl ⟨g5, fun T' R'' γ hγ hE hBx => g6 T' R'' γ hγ hE (by rw [← hlow hjt hjS]; exact hBx)⟩
        ·exact .inr ⟨kk', x', g5, by rw [hBk kk' g7]; exact g6, g7, g8⟩
      | some d =>
       rw [finish_some (opsOf ho) hdd']
       have hdn : d < T.size := by
        have := List.all_eq_true.1 hz i (List.mem_range.2 hi)
        rw [hdo, hdd'] at this
        rw [hI.hT]; simpa using this
       have u := upd_set v hdn
       have ihw := ih i hpe hsub sv B' L' hQ l (i :: S) (T.setIfInBounds d v) R' β pend hrest
       rw [hdo, hdd'] at ihw
       refine ihw ⟨u.size.trans hI.hT, hSd, hC', fun s x hx hj => ?_, fun j hj s x hs hx => ?_, fun s x hx => ?_, fun j hj s hs => ?_, hH', q1, by rw [q2]; exact hI.hm, hI.hI, fun a c e => by rw [q2]; exact hI.hP a c e, fun j hj hj' => ?_⟩
       ·have hne : s ≠ d := fun e => hj i List.mem_cons_self (by rw [e, hdo]; exact hdd')
        rw [u.other s (by simpa using hne)]
        exact hI.hE s x hx fun j hj' => hj j (List.mem_cons_of_mem _ hj')
       ·simp only [addV] at hx
        rw [get_cons] at hx
        by_cases e : d = s
        ·subst e
         rw [if_pos rfl] at hx; cases hx
         rw [u.same]; exact hv
        ·rw [if_neg e] at hx
         rw [u.other s (by simpa using Ne.symm e)]
         rcases List.mem_cons.1 hj with rfl | hj
         ·rw [hdo, hdd'] at hs; cases hs; exact absurd rfl e
         ·exact hI.hV j hj s x hs hx
       ·simp only [addV] at hx
        rw [get_cons] at hx
        by_cases e : d = s
        ·exact ⟨i, List.mem_cons_self, by rw [hdo, hdd', e]⟩
        ·rw [if_neg e] at hx
         obtain ⟨j, h1, h2⟩ := hI.hK s x hx
         exact ⟨j, List.mem_cons_of_mem _ h1, h2⟩
       ·simp only [addV]
        rw [get_cons]
        by_cases e : d = s
        ·rw [if_pos e]; simp
        ·rw [if_neg e]
         rcases List.mem_cons.1 hj with rfl | hj
         ·rw [hdo, hdd'] at hs; cases hs; exact absurd rfl e
         ·exact hI.hN j hj s hs
       ·have hjS : j ∉ S := fun e => hj' (List.mem_cons_of_mem _ e)
        have hjt : j ∈ td := by
         rcases List.mem_cons.1 hj with rfl | hj
         ·exact absurd List.mem_cons_self hj'
         ·exact hj
        have hji : j ≠ i := fun e => hj' (by rw [e]; exact List.mem_cons_self)
        obtain ⟨o', d', sv', g1, g2, g3, g4⟩ := hI.hD j hjt hjS
        have hdi : dstOf ops i = some d := by rw [hdo]; exact hdd'
        have hd' : d ≠ d' := fun e => by
         subst e
         exact hji (dst_uniq hdd (by unfold dstOf; rw [g1]; exact g2) hdi)
        refine ⟨o', d', sv', g1, g2, by simp only [addV]; rw [get_cons, if_neg hd']; exact g3, ?_⟩
        rcases g4 with ⟨g5, g6⟩ | ⟨kk', x', g5, g6, g7, g8⟩
        ·exact .inl ⟨g5, fun T' R'' γ hγ hE hBx => g6 T' R'' γ hγ (lookV_grow hdd hI.hC hjt ht hdi hE) (by rw [← hlow hjt hjS]; exact hBx)⟩
        ·exact .inr ⟨kk', x', g5, by rw [hBk kk' g7]; exact g6, g7, fun T' γ hγ hE => g8 T' γ hγ (lookV_grow hdd hI.hC hjt ht hdi hE)⟩
     intro nx L1 hnx
     cases nx <;> first | exact hnx.elim | skip
     ·exact go _ _ hnx
     ·exact go _ _ hnx
     ·obtain ⟨Q', hfn, hq'⟩ := hnx
      exact hfn .normal _ _ (.inl rfl) (fun v L' hv => go v L' (hq' v L' hv)) (fun _ _ h => h.elim)
     ·obtain ⟨Q', hfn, hq'⟩ := hnx
      exact hfn _ _ (fun v L' hv => go v L' (hq' v L' hv))
 | @pub td V E0 B L p d kk x cs hp hd hs hm e0 h0 hn0 hall hx hc w ih =>
  intro l
  induction l with
  | nil =>
   intro S T R β pend hl hI
   cases hl with
   | nil hfull => exact absurd (hI.hS e0 (hfull e0 (lt_of_blt h0))).1 (nin hn0)
  | cons i l ihl =>
   intro S T R β pend hl hI
   by_cases hpS : p ∈ S
   ·have hb : ∃ b, β kk = some b := by
     rcases hs with ⟨off, hs⟩ | ⟨off, len, cap, hs⟩
     ·obtain ⟨b, hb, _⟩ := den_p (hI.hV p hpS d _ hd hs); exact ⟨b, hb⟩
     ·have := hI.hV p hpS d _ hd hs
      unfold den at this
      cases hk : β kk with
      | none => rw [hk] at this; cases this
      | some b => exact ⟨b, rfl⟩
    obtain ⟨b, hb⟩ := hb
    have hx' : B[kk]? = some (some x) := by rw [← nth_eq]; exact hx
    obtain ⟨g1, g2⟩ := hI.hH.pub hb hx' hc
    have hmk := Nat.le_of_ble_eq_true hm
    have htk : (B.set kk none).take m = B.take m := by rw [List.take_set_of_le hmk]
    have conv : ∀ {γ : Nm} {j : Nat} {T' : Array Value}, NmLe β γ → EnvOk γ (lookV ops.toList j (pubE kk b V) E0) T' → EnvOk γ (lookV ops.toList j V E0) T' := fun {γ j T'} hγ hE s y hy => by
     unfold lookV at hy
     cases hw : writer s ops.toList 0 with
     | none =>
      rw [hw] at hy
      exact hE s y (by unfold lookV; rw [hw]; exact hy)
     | some q =>
      rw [hw] at hy
      simp only at hy
      cases h1 : inN (depsL ops.toList j) q with
      | true =>
       rw [h1] at hy
       simp only at hy
       have := hE s (pubS kk b y) (by unfold lookV; rw [hw]; simp only; rw [h1]; simp only; rw [pubE_get, hy]; rfl)
       rw [pubS_den (hγ _ _ hb)] at this
       exact this
      | false =>
       rw [h1] at hy
       exact hE s y (by unfold lookV; rw [hw]; simp only; rw [h1]; exact hy)
    refine ih b g1 (hI.hH.box kk b x hb hx').2.1 (i :: l) S T R β pend hl ⟨hI.hT, hI.hS, hI.hC, hI.hE, fun j hj s y hs' hy => ?_, fun s y hy => ?_, fun j hj s hs' => ?_, g2, hI.hL.trans (Le.put g1 _), by simpa using hI.hm, hI.hI, fun a c e => by simpa using hI.hP a c e, fun j hj hj' => ?_⟩
    ·rw [pubE_get, Option.map_eq_some_iff] at hy
     obtain ⟨z, h1, rfl⟩ := hy
     rw [pubS_den hb]; exact hI.hV j hj s z hs' h1
    ·rw [pubE_get, Option.map_eq_some_iff] at hy
     obtain ⟨z, h1, rfl⟩ := hy
     exact hI.hK s z h1
    ·rw [pubE_get]
     have := hI.hN j hj s hs'
     cases hg : get V s with
     | none => exact absurd hg this
     | some y => simp
    ·obtain ⟨o', d', sv', q1, q2, q3, q4⟩ := hI.hD j hj hj'
     refine ⟨o', d', pubS kk b sv', q1, q2, by rw [pubE_get, q3]; rfl, ?_⟩
     rcases q4 with ⟨q5, q6⟩ | ⟨kk', x', q5, q6, q7, q8⟩
     ·refine .inl ⟨q5, fun T' R' γ hγ hE hBx hLf => ?_⟩
      obtain ⟨v, e1, e2⟩ := q6 T' R' γ hγ (conv hγ hE) (by rw [← htk]; exact hBx) hLf
      exact ⟨v, by rw [pubS_den (hγ _ _ hb)]; exact e1, e2⟩
     ·have hne : kk ≠ kk' := fun e => by subst e; rw [hb] at q7; cases q7
      refine .inr ⟨kk', x', q5, by rw [List.getElem?_set_ne hne]; exact q6, q7, fun T' γ hγ hE => ?_⟩
      obtain ⟨f1, f2, cs', mk, f3, f4, f5⟩ := q8 T' γ hγ (conv hγ hE)
      refine ⟨f1, f2, cs', mk, f3, fun γ' c hc' => ?_, f5⟩
      have hden := f4 γ' c hc'
      -- the shape names box kk' alone
      have h4 := f4 (nm0.set kk' c) c (Nm.set_same _ _ _)
      have : pubS kk b sv' = sv' := pubS_id (by rw [Nm.set_ne _ _ hne]; rfl) h4
      rw [this]; exact hden
   ·cases hl with
    | cons hi hni hd' hrest =>
     by_cases ht : i ∈ td
     ·exact hI.exec hdd hz ht hni hi hd' fun T' R' β' pend' hI' => ihl _ T' R' β' pend' hrest hI'
     ·have hdt : ∀ j ∈ depsOf ops i, j ∈ td := fun j hj => (hI.hS j (hd' j hj)).1
      have := onlyP_ok hall i hi ht (fun j hj => hdt j (by rw [← depsL_eq]; exact hj))
      rw [depsL_eq] at this
      exact absurd (hd' p this) hpS
 | @pan td V E0 B L e0 o h0 hn0 hall ho hg he =>
  intro l
  induction l with
  | nil =>
   intro S T R β pend hl hI
   cases hl with
   | nil hfull => exact absurd (hI.hS e0 (hfull e0 (lt_of_blt h0))).1 (nin hn0)
  | cons i l ihl =>
   intro S T R β pend hl hI
   cases hl with
   | cons hi hni hd hrest =>
    by_cases ht : i ∈ td
    ·exact hI.exec hdd hz ht hni hi hd fun T' R' β' pend' hI' => ihl _ T' R' β' pend' hrest hI'
    ·have hdt : ∀ j ∈ depsOf ops i, j ∈ td := fun j hj => (hI.hS j (hd j hj)).1
     have hpe := onlyN_ok hall i hi ht (fun j hj => hdt j (by rw [← depsL_eq]; exact hj))
     obtain rfl := List.mem_singleton.1 hpe
     have hen := hI.env hdd hni hd
     obtain ⟨hdf, hE⟩ := he T R β (.inRegion ops (i :: l) :: k) hI.hT hen hI.hH
     exact C.X.op (opsOf ho) (guardOk_wanted hen hg) (.inr fun c hc => by rw [hc] at hdf; cases hdf) hE
 | @rest td V E0 B L e0 h0 hn0 hall hsub w =>
  intro l
  induction l with
  | nil =>
   intro S T R β pend hl hI
   cases hl with
   | nil hfull => exact absurd (hI.hS e0 (hfull e0 (lt_of_blt h0))).1 (nin hn0)
  | cons i l ihl =>
   intro S T R β pend hl hI
   cases hl with
   | cons hi hni hd hrest =>
    by_cases ht : i ∈ td
    ·exact hI.exec hdd hz ht hni hi hd fun T' R' β' pend' hI' => ihl _ T' R' β' pend' hrest hI'
    ·have hie : i = e0 := (List.mem_cons.1 (allN_ok hall i hi)).resolve_right ht
     subst hie
     have hin : ∀ j ∈ td, j ∈ S := subT_in (fun a ha j hj => (hI.hS a ha).2.2 j (by rw [← depsL_eq]; exact hj)) (fun a ha => hd a (by rw [← depsL_eq]; exact ha)) hsub
     have hall' : ∀ j, j < ops.size → j ∈ i :: S := fun j hj => by
      rcases List.mem_cons.1 (allN_ok hall j hj) with e | e
      ·exact e ▸ List.mem_cons_self
      ·exact List.mem_cons_of_mem _ (hin j e)
     have hl0 : l = [] := by
      cases hrest with
      | nil _ => rfl
      | cons hi2 hni2 _ _ => exact absurd (hall' _ hi2) hni2
     subst hl0
     refine w T R β hI.hT (fun s x hx => ?_) hI.hH
     rw [get_append] at hx
     cases hv : get V s with
     | some y =>
      rw [hv] at hx; cases hx
      obtain ⟨j, h1, h2⟩ := hI.hK s x hv
      exact hI.hV j (hin j h1) s x h2 hv
     | none =>
      rw [hv] at hx
      exact hI.hE s x hx fun j hj e => hI.hN j (hI.hS j hj).1 s e hv
 | @lit td V E0 B L s p hs w ih =>
  intro l S T R β pend hl hI
  have hget : ∀ t x, get V t = some x → ∃ y, get ((s, SV.lit p) :: V) t = some y ∧ ∀ γ, den γ y = den γ x := fun t x hx => by
   rw [get_cons]
   by_cases e : s = t
   ·subst e
    rw [hs] at hx; cases hx
    exact ⟨.lit p, by rw [if_pos rfl], fun _ => rfl⟩
   ·exact ⟨x, by rw [if_neg e]; exact hx, fun _ => rfl⟩
  have hget' : ∀ t y, get ((s, SV.lit p) :: V) t = some y → ∃ x, get V t = some x ∧ ∀ γ, den γ y = den γ x := fun t y hy => by
   rw [get_cons] at hy
   by_cases e : s = t
   ·subst e
    rw [if_pos rfl] at hy; cases hy
    exact ⟨_, hs, fun _ => rfl⟩
   ·rw [if_neg e] at hy; exact ⟨y, hy, fun _ => rfl⟩
  have conv : ∀ {γ : Nm} {j : Nat} {T' : Array Value}, EnvOk γ (lookV ops.toList j ((s, SV.lit p) :: V) E0) T' → EnvOk γ (lookV ops.toList j V E0) T' := fun {γ j T'} hE t y hy => by
   unfold lookV at hy
   cases hw : writer t ops.toList 0 with
   | none =>
    rw [hw] at hy
    exact hE t y (by unfold lookV; rw [hw]; exact hy)
   | some q =>
    rw [hw] at hy
    simp only at hy
    cases h1 : inN (depsL ops.toList j) q with
    | true =>
     rw [h1] at hy
     obtain ⟨z, h2, h3⟩ := hget t y hy
     have := hE t z (by unfold lookV; rw [hw]; simp only; rw [h1]; exact h2)
     rw [h3] at this; exact this
    | false =>
     rw [h1] at hy
     exact hE t y (by unfold lookV; rw [hw]; simp only; rw [h1]; exact hy)
  refine ih l S T R β pend hl ⟨hI.hT, hI.hS, hI.hC, hI.hE, fun j hj t y ht hy => ?_, fun t y hy => ?_, fun j hj t ht => ?_, hI.hH, hI.hL, hI.hm, hI.hI, hI.hP, fun j hj hj' => ?_⟩
  ·obtain ⟨x, h1, h2⟩ := hget' t y hy
   rw [h2]; exact hI.hV j hj t x ht h1
  ·obtain ⟨x, h1, _⟩ := hget' t y hy
   exact hI.hK t x h1
  ·have := hI.hN j hj t ht
   cases hg : get V t with
   | none => exact absurd hg this
   | some x => obtain ⟨y, h1, _⟩ := hget t x hg; rw [h1]; simp
  ·obtain ⟨o', d', sv', q1, q2, q3, q4⟩ := hI.hD j hj hj'
   obtain ⟨y, h1, h2⟩ := hget d' sv' q3
   refine ⟨o', d', y, q1, q2, h1, ?_⟩
   rcases q4 with ⟨q5, q6⟩ | ⟨kk', x', q5, q6, q7, q8⟩
   ·refine .inl ⟨q5, fun T' R' γ hγ hE hBx hLf => ?_⟩
    obtain ⟨v, e1, e2⟩ := q6 T' R' γ hγ (conv hE) hBx hLf
    exact ⟨v, by rw [h2]; exact e1, e2⟩
   ·refine .inr ⟨kk', x', q5, q6, q7, fun T' γ hγ hE => ?_⟩
    obtain ⟨f1, f2, cs', mk, f3, f4, f5⟩ := q8 T' γ hγ (conv hE)
    exact ⟨f1, f2, cs', mk, f3, fun γ' c hc' => by rw [h2]; exact f4 γ' c hc', f5⟩
 | @fin td V E0 B L hall w =>
  intro l
  induction l with
  | nil =>
   intro S T R β pend hl hI
   cases hl with
   | nil hfull =>
    refine C.X.regionEnd (w T R β hI.hT (fun s x hx => ?_) hI.hH)
    rw [get_append] at hx
    cases hv : get V s with
    | some y =>
     rw [hv] at hx; cases hx
     obtain ⟨j, h1, h2⟩ := hI.hK s x hv
     have hlt : j < ops.size := by
      unfold dstOf at h2
      cases hy : ops[j]? with
      | none => rw [hy] at h2; cases h2
      | some o => exact (Array.getElem?_eq_some_iff.1 hy).1
     exact hI.hV j (hfull j hlt) s x h2 hv
    | none =>
     rw [hv] at hx
     exact hI.hE s x hx fun j hj e => hI.hN j (hI.hS j hj).1 s e hv
  | cons i l ihl =>
   intro S T R β pend hl hI
   cases hl with
   | cons hi hni hd hrest => exact hI.exec hdd hz (allN_ok hall i hi) hni hi hd fun T' R' β' pend' hI' => ihl _ T' R' β' pend' hrest hI'
theorem W.draw (hτ : τ.Ok P) {id : Nat} {E : Env} {B : List (Option Bx)} {L : LH} (hok : okQ ops n = true) (hle : Le Lf L) (h : DD C τ n ds ops k B.length Lf [] [] E B L) : W C n ds (.code (.region id ops true) :: k) E B L := by
 intro T R β hT hE hH
 obtain ⟨⟨_, h1⟩, ⟨_, h2⟩, ⟨_, h3⟩, hdd, hz⟩ := okQ_ok hok
 refine C.X.regionDraw fun t => ?_
 refine h.run hτ hdd hz _ [] T R β (fun _ => none) (lin_schedule h1 h2 h3 t) ⟨hT, (fun i hi => by cases hi), (fun i hi => by cases hi), (fun s x hx _ => hE s x hx), (fun j hj => by cases hj), (fun s x hx => by cases hx), (fun j hj => by cases hj), hH, hle, Nat.le_refl _, (fun _ _ _ h => by cases h), (fun _ _ h => by cases h), (fun i hi => by cases hi)⟩
def runD (τ : TT) (ops : List Oper) (E0 : Env) (m : Nat) : List Nat → List Nat → Env → List (Option Bx) → Option (List Nat × Env × List (Option Bx))
 | [], td, V, B => some (td, V, B)
 | i :: is, td, V, B => match nth ops i, inN td i, subN td (depsL ops i) with
  | some o, false, true => match o.dst with
   | some d => match guardOk (lookV ops i V E0) ops o.guard with
    | some true => match semV τ (lookV ops i V E0) (B.take m) o.op with
     | some sv => runD τ ops E0 m is (i :: td) ((d, sv) :: V) B
     | none => match semA τ (lookV ops i V E0) o.op with
      | some (x, sh) => runD τ ops E0 m is (i :: td) ((d, sh B.length) :: V) (B ++ [some x])
      | none => none
    | some false => runD τ ops E0 m is (i :: td) ((d, .v undef) :: V) B
    | none => none
   | none => none
  | _, _, _ => none
theorem DD.go (hτ : τ.Ok P) {E0 : Env} {L : LH} (is : List Nat) {td td' : List Nat} {V V' : Env} {B B' : List (Option Bx)} (h : runD τ ops.toList E0 m is td V B = some (td', V', B')) (w : DD C τ n ds ops k m Lf td' V' E0 B' L) : DD C τ n ds ops k m Lf td V E0 B L := by
 induction is generalizing td V B with
 | nil => cases h; exact w
 | cons i is ih =>
  unfold runD at h
  split at h
  ·rename_i o ho hn hdp
   split at h
   ·rename_i d hd
    split at h
    ·rename_i hg
     split at h
     ·rename_i sv hs
      exact .reg i ho hn hdp hd (semV_defer hs) hg (fun T R β hE hB _ => semV_ok hτ hE hB hs) (ih h)
     ·split at h
      ·rename_i x sh hs
       exact .alc i ho hn hdp hd hg hs (ih h)
      ·cases h
    ·rename_i hg
     exact .no i ho hn hdp hd hg (ih h)
    ·cases h
   ·cases h
  ·cases h
end
end Go.Mz


namespace Go.Mz
open Go.Conc
class Seat (P : Program) where
 τ : TT
 ok : τ.Ok P
def Vf (P : Program) (op : Op) (E : Look) (B : List (Option Bx)) (L : LH) (sv : SV) : Prop := ∀ (T : Array Value) (R : LH) (β : Nm), EnvOk β E T → Boxes β B R → Le L R → Vld P β op T R sv
def Ef {P : Program} (C : Cx P) (o : Oper) (E : Look) (B : List (Option Bx)) (L : LH) (Q : SV → List (Option Bx) → LH → Prop) : Prop :=
 ∀ (T : Array Value) (R : LH) (β : Nm), EnvOk β E T → HeapOk C.L0 C.R0 β B L R → EffW C.X o T R (fun v R' => ∃ sv B' L', Q sv B' L' ∧ den β sv = some v ∧ HeapOk C.L0 C.R0 β B' L' R' ∧ ∀ kk, β kk = none → B'[kk]? = B[kk]?)
section
variable {P : Program} [S : Seat P] {C : Cx P} {n : Nat} {ds : List Deferred} {k : List Item} {E : Env} {B : List (Option Bx)} {L : LH}
variable {ops : Array Oper} {i : Nat} {rest : List Nat} {d : Nat} {op : Op} {ty : TypeId} {pos : String} {af : Array Edge} {gd : Option (Nat × Bool)} {sv : SV}
theorem W.go (m : Nat) {k' : List Item} {E' : Env} {B' : List (Option Bx)} (h : runK S.τ n [] m k E B = (k', E', B')) (w : W C n ds k' E' B' L) : W C n ds k E B L := W.run S.ok m h w
theorem W.goP (pub : List Nat) (m : Nat) {k' : List Item} {E' : Env} {B' : List (Option Bx)} (h : runK S.τ n pub m k E B = (k', E', B')) (w : W C n ds k' E' B' L) : W C n ds k E B L := W.run S.ok m h w
theorem W.ret {fn : Func} {Q : Value → LH → Prop} {H : List PanicEntry → LH → Prop} {svs : List SV} {vs : List Value} (r : Rt C fn Q H) (hs : resS S.τ (get E) B fn.results.toList = some svs) (hv : denL nm0 svs = some vs) (hq : Q (retV vs) L) : W C n [] (.code .ret :: k) E B L := W.retT S.ok r (.inr ⟨k, rfl⟩) hs hv hq
theorem W.ret0 {fn : Func} {Q : Value → LH → Prop} {H : List PanicEntry → LH → Prop} {svs : List SV} {vs : List Value} (r : Rt C fn Q H) (hs : resS S.τ (get E) B fn.results.toList = some svs) (hv : denL nm0 svs = some vs) (hq : Q (retV vs) L) : W C n [] [] E B L := W.retT S.ok r (.inl rfl) hs hv hq
theorem W.drawn {id : Nat} (hok : okQ ops n = true) (Lf : LH) (hle : Le Lf L) (h : DD C S.τ n ds ops k B.length Lf [] [] E B L) : W C n ds (.code (.region id ops true) :: k) E B L := W.draw S.ok hok hle h
end
section
variable {P : Program} {C : Cx P} {n : Nat} {ds : List Deferred} {k : List Item} {E : Env} {B : List (Option Bx)} {L : LH}
variable {ops : Array Oper} {i : Nat} {rest : List Nat} {d : Nat} {op : Op} {ty : TypeId} {pos : String} {af : Array Edge} {gd : Option (Nat × Bool)} {sv : SV}
theorem W.vf (ho : nth ops.toList i = some ⟨some d, op, ty, pos, af, gd⟩) (hg : guardOk (get E) ops.toList gd = some true) (hz : Nat.blt d n = true) (hdf : isDefer op = false) (hv : Vf P op (get E) B L sv) (w : W C n ds (.inRegion ops rest :: k) ((d, sv) :: E) B L) : W C n ds (.inRegion ops (i :: rest) :: k) E B L :=
 W.val ho hg rfl hz hdf (fun T R β hE hH => hv T R β hE hH.boxes hH.le) w
theorem W.eff {Q : SV → List (Option Bx) → LH → Prop} (ho : nth ops.toList i = some ⟨some d, op, ty, pos, af, gd⟩) (hg : guardOk (get E) ops.toList gd = some true) (hz : Nat.blt d n = true) (he : Ef C ⟨some d, op, ty, pos, af, gd⟩ (get E) B L Q)
  (w : ∀ sv B' L', Q sv B' L' → W C n ds (.inRegion ops rest :: k) ((d, sv) :: E) B' L') : W C n ds (.inRegion ops (i :: rest) :: k) E B L := by
 intro T R β hT hE hH
 obtain ⟨hdf, hE'⟩ := he T R β hE hH
 refine W.oper (C := C) (L := L) ho hg hdf (fun T1 R1 β1 hT1 hE1 hH1 => ?_) T R β hT hE hH
 obtain ⟨_, hE2⟩ := he T1 R1 β1 hE1 hH1
 refine wpS_mono ?_ (fun _ _ h => h.elim) _ _ hE2
 have go : ∀ v R', (∃ sv B' L', Q sv B' L' ∧ den β1 sv = some v ∧ HeapOk C.L0 C.R0 β1 B' L' R' ∧ ∀ kk, β1 kk = none → B'[kk]? = B[kk]?) → C.X.Go (G ((Fr C.f T1 (.inRegion ops (i :: rest) :: k) ds .run C.kd C.ro).finish v) C.cs) R' := by
  rintro v R' ⟨sv, B', L', hq, hv, hH', _⟩
  exact W.fin_some ho rfl (lt_of_blt hz) hT1 hE1 hH' hv (w sv B' L' hq)
 intro nx L1 hnx
 cases nx <;> first | exact hnx.elim | skip
 ·exact go _ _ hnx
 ·exact go _ _ hnx
 ·obtain ⟨Q', hfn, hq'⟩ := hnx
  exact hfn .normal _ _ (.inl rfl) (fun v L' hv => go v L' (hq' v L' hv)) (fun _ _ h => h.elim)
 ·obtain ⟨Q', hfn, hq'⟩ := hnx
  exact hfn _ _ (fun v L' hv => go v L' (hq' v L' hv))
theorem W.eff0 {Q : SV → List (Option Bx) → LH → Prop} (ho : nth ops.toList i = some ⟨none, op, ty, pos, af, gd⟩) (hg : guardOk (get E) ops.toList gd = some true) (he : Ef C ⟨none, op, ty, pos, af, gd⟩ (get E) B L Q)
  (w : ∀ sv B' L', Q sv B' L' → W C n ds (.inRegion ops rest :: k) E B' L') : W C n ds (.inRegion ops (i :: rest) :: k) E B L := by
 intro T R β hT hE hH
 obtain ⟨hdf, hE'⟩ := he T R β hE hH
 refine W.oper (C := C) (L := L) ho hg hdf (fun T1 R1 β1 hT1 hE1 hH1 => ?_) T R β hT hE hH
 obtain ⟨_, hE2⟩ := he T1 R1 β1 hE1 hH1
 refine wpS_mono ?_ (fun _ _ h => h.elim) _ _ hE2
 have go : ∀ v R', (∃ sv B' L', Q sv B' L' ∧ den β1 sv = some v ∧ HeapOk C.L0 C.R0 β1 B' L' R' ∧ ∀ kk, β1 kk = none → B'[kk]? = B[kk]?) → C.X.Go (G ((Fr C.f T1 (.inRegion ops (i :: rest) :: k) ds .run C.kd C.ro).finish v) C.cs) R' := by
  rintro v R' ⟨sv, B', L', hq, hv, hH', _⟩
  exact W.fin_none ho rfl hT1 hE1 hH' (w sv B' L' hq)
 intro nx L1 hnx
 cases nx <;> first | exact hnx.elim | skip
 ·exact go _ _ hnx
 ·exact go _ _ hnx
 ·obtain ⟨Q', hfn, hq'⟩ := hnx
  exact hfn .normal _ _ (.inl rfl) (fun v L' hv => go v L' (hq' v L' hv)) (fun _ _ h => h.elim)
 ·obtain ⟨Q', hfn, hq'⟩ := hnx
  exact hfn _ _ (fun v L' hv => go v L' (hq' v L' hv))
end
section
variable {P : Program} [S : Seat P] {C : Cx P} {n : Nat} {ds : List Deferred} {k : List Item} {E : Env} {B : List (Option Bx)} {L : LH}
variable {ops : Array Oper} {i : Nat} {rest : List Nat} {d : Nat} {op : Op} {ty : TypeId} {pos : String} {af : Array Edge} {gd : Option (Nat × Bool)} {sv : SV}
variable {m : Nat} {Lf : LH} {td : List Nat} {V E0 : Env}
theorem DD.run' (is : List Nat) {td' : List Nat} {V' : Env} {B' : List (Option Bx)} (h : runD S.τ ops.toList E0 m is td V B = some (td', V', B')) (w : DD C S.τ n ds ops k m Lf td' V' E0 B' L) : DD C S.τ n ds ops k m Lf td V E0 B L := DD.go S.ok is h w
theorem DD.vf (i : Nat) (ho : nth ops.toList i = some ⟨some d, op, ty, pos, af, gd⟩) (hn : inN td i = false) (hdp : subN td (depsL ops.toList i) = true) (hg : guardOk (lookV ops.toList i V E0) ops.toList gd = some true) (hdf : isDefer op = false)
  (hv : Vf P op (lookV ops.toList i V E0) (B.take m) Lf sv) (w : DD C S.τ n ds ops k m Lf (i :: td) ((d, sv) :: V) E0 B L) : DD C S.τ n ds ops k m Lf td V E0 B L :=
 .reg i ho hn hdp rfl hdf hg hv w
theorem DD.split (s : Nat) {p : Bool} (hs : get V s = some (.v (.bool p))) (h1 : p = true → DD C S.τ n ds ops k m Lf td ((s, .lit true) :: V) E0 B L) (h2 : p = false → DD C S.τ n ds ops k m Lf td ((s, .lit false) :: V) E0 B L) : DD C S.τ n ds ops k m Lf td V E0 B L :=
 .lit s hs (by cases p; exact h2 rfl; exact h1 rfl)
theorem DD.act (i : Nat) {Q : SV → List (Option Bx) → LH → Prop} {o : Oper} (ho : nth ops.toList i = some o) (hlt : Nat.blt i ops.size = true) (hn : inN td i = false) (hall : onlyN ops.toList td [i] ops.size = true) (hg : guardOk (lookV ops.toList i V E0) ops.toList o.guard = some true)
  (he : Ef C o (lookV ops.toList i V E0) B L Q) (hq : ∀ sv B' L', Q sv B' L' → Le Lf L' ∧ B'.length = B.length ∧ (B'.take m = B.take m ∨ subT ops.toList (depsL ops.toList i) td = true))
  (w : ∀ sv B' L', Q sv B' L' → DD C S.τ n ds ops k m Lf (i :: td) (addV o.dst sv V) E0 B' L') : DD C S.τ n ds ops k m Lf td V E0 B L := by
 refine .eff [i] (fun _ => Q) i hlt hn hall (fun e he' _ => ?_) (fun e he' _ sv B' L' h => ?_) (fun e he' _ sv B' L' h => ?_)
 ·obtain rfl := List.mem_singleton.1 he'
  exact ⟨o, ho, hg, he⟩
 ·obtain rfl := List.mem_singleton.1 he'
  exact hq sv B' L' h
 ·obtain rfl := List.mem_singleton.1 he'
  have : dstOf ops e = o.dst := by
   unfold dstOf
   rw [nth_eq, Array.getElem?_toList] at ho
   rw [ho]; rfl
  rw [this]
  exact w sv B' L' h
theorem DD.act2 (i j : Nat) {Qi Qj : SV → List (Option Bx) → LH → Prop} {oi oj : Oper} (hij : Nat.beq i j = false) (hoi : nth ops.toList i = some oi) (hoj : nth ops.toList j = some oj) (hlt : Nat.blt i ops.size = true) (hn : inN td i = false) (hall : onlyN ops.toList td [i, j] ops.size = true)
  (hgi : guardOk (lookV ops.toList i V E0) ops.toList oi.guard = some true) (hgj : guardOk (lookV ops.toList j V E0) ops.toList oj.guard = some true) (hei : Ef C oi (lookV ops.toList i V E0) B L Qi) (hej : Ef C oj (lookV ops.toList j V E0) B L Qj)
  (hqi : ∀ sv B' L', Qi sv B' L' → Le Lf L' ∧ B'.length = B.length ∧ (B'.take m = B.take m ∨ subT ops.toList (depsL ops.toList i) td = true)) (hqj : ∀ sv B' L', Qj sv B' L' → Le Lf L' ∧ B'.length = B.length ∧ (B'.take m = B.take m ∨ subT ops.toList (depsL ops.toList j) td = true))
  (wi : ∀ sv B' L', Qi sv B' L' → DD C S.τ n ds ops k m Lf (i :: td) (addV oi.dst sv V) E0 B' L') (wj : ∀ sv B' L', Qj sv B' L' → DD C S.τ n ds ops k m Lf (j :: td) (addV oj.dst sv V) E0 B' L') : DD C S.τ n ds ops k m Lf td V E0 B L := by
 have hne : i ≠ j := fun e => by subst e; simp at hij
 have dst : ∀ {a : Nat} {o : Oper}, nth ops.toList a = some o → dstOf ops a = o.dst := fun {a o} h => by
  unfold dstOf
  rw [nth_eq, Array.getElem?_toList] at h
  rw [h]; rfl
 refine .eff [i, j] (fun e => if e = i then Qi else Qj) i hlt hn hall (fun e he' _ => ?_) (fun e he' _ sv B' L' h => ?_) (fun e he' _ sv B' L' h => ?_)
 ·simp only [List.mem_cons, List.not_mem_nil, or_false] at he'
  rcases he' with rfl | rfl
  ·exact ⟨oi, hoi, hgi, by simp only [if_true]; exact hei⟩
  ·exact ⟨oj, hoj, hgj, by simp only [Ne.symm hne, if_false]; exact hej⟩
 ·simp only [List.mem_cons, List.not_mem_nil, or_false] at he'
  rcases he' with rfl | rfl
  ·simp only [if_true] at h; exact hqi sv B' L' h
  ·simp only [Ne.symm hne, if_false] at h; exact hqj sv B' L' h
 ·simp only [List.mem_cons, List.not_mem_nil, or_false] at he'
  rcases he' with rfl | rfl
  ·simp only [if_true] at h; rw [dst hoi]; exact wi sv B' L' h
  ·simp only [Ne.symm hne, if_false] at h; rw [dst hoj]; exact wj sv B' L' h
end
section
variable {P : Program} [S : Seat P] {E : Look} {B : List (Option Bx)} {L : LH} {t t2 : TypeId} {x y : Operand} {ti te : TI} {ad : Addr} {v : Value}
theorem Vf.load (hx : evS E x = some (.v (.pointer (some ad)))) (ht : S.τ.find t = some ti) (ha : ti.agg = false) (hc : L.cell? ad = some v) : Vf P (.load t x) E B L (.v v) := fun T R β hE _ hL =>
 ⟨v, rfl, fun ty => Val.load1 (by rw [(TT.find_ok S.ok ht).agg, ha]) (Option.some.inj (hE.val hx)).symm (hL.cell hc)⟩
theorem Vf.loadN {vs : List Value} (hx : evS E x = some (.v (.pointer (some ad)))) (ht : S.τ.find t = some ti) (ha : ti.agg = true) (hc : cellsAt L ad ti.size vs) : Vf P (.load t x) E B L (.v (.agg vs.toArray)) := fun T R β hE _ hL =>
 ⟨_, rfl, fun ty => Val.loadN (by rw [(TT.find_ok S.ok ht).agg, ha]) (TT.find_ok S.ok ht).size (Option.some.inj (hE.val hx)).symm (hL.cellsAt hc)⟩
theorem Vf.idx {e : TypeId} {len cap i : Nat} {kk : IntKind} {j : Int} (hx : evS E x = some (.v (.slice (some ad) len cap))) (hy : evS E y = some (.v (.int kk j))) (ht : S.τ.find t = some ti) (hd : ti.d = .slice e) (he : S.τ.find e = some te) (hj : j = (i : Int)) (hi : i < len) :
  Vf P (.indexAddr t x y) E B L (.v (.pointer (some (ad.add (i * te.size))))) := fun T R β hE _ _ => by
 have h1 := (TT.find_ok S.ok ht).d
 rw [hd] at h1
 subst hj
 exact ⟨_, rfl, fun ty => Val.indexSlice h1 (TT.find_ok S.ok he).size (Option.some.inj (hE.val hx)).symm (Option.some.inj (hE.val hy)).symm hi⟩
theorem Vf.idx1 {e : TypeId} {len cap i : Nat} {kk : IntKind} {j : Int} (hx : evS E x = some (.v (.slice (some ad) len cap))) (hy : evS E y = some (.v (.int kk j))) (ht : S.τ.find t = some ti) (hd : ti.d = .slice e) (he : S.τ.find e = some te) (h1 : te.size = 1) (hj : j = (i : Int)) (hi : i < len) :
  Vf P (.indexAddr t x y) E B L (.v (.pointer (some (ad.add i)))) := by
 have := Vf.idx (B := B) (L := L) hx hy ht hd he hj hi
 rw [h1, Nat.mul_one] at this; exact this
theorem Vf.idxA {e : TypeId} {len kk off i : Nat} {ik : IntKind} {j : Int} (hx : evS E x = some (.p kk off)) (hy : evS E y = some (.v (.int ik j))) (ht : S.τ.find t = some ti) (hd : ti.d = .arr len e) (he : S.τ.find e = some te) (hj : j = (i : Int)) (hi : i < len) :
  Vf P (.indexAddr t x y) E B L (.p kk (off + i * te.size)) := fun T R β hE _ _ => by
 have h1 := (TT.find_ok S.ok ht).d
 rw [hd] at h1
 subst hj
 obtain ⟨b, hb, hv⟩ := den_p (hE.val hx)
 refine ⟨.pointer (some ⟨b, off + i * te.size, none⟩), by unfold den; rw [hb], fun ty => ?_⟩
 have := Val.indexArr (P := P) (L := R) (ty := ty) h1 (TT.find_ok S.ok he).size hv (Option.some.inj (hE.val hy)).symm hi
 rw [add_of] at this; exact this
theorem Vf.idxF {e : TypeId} {len i : Nat} {ik : IntKind} {j : Int} (hx : evS E x = some (.v (.pointer (some ad)))) (hy : evS E y = some (.v (.int ik j))) (ht : S.τ.find t = some ti) (hd : ti.d = .arr len e) (he : S.τ.find e = some te) (hj : j = (i : Int)) (hi : i < len) :
  Vf P (.indexAddr t x y) E B L (.v (.pointer (some (ad.add (i * te.size))))) := fun T R β hE _ _ => by
 have h1 := (TT.find_ok S.ok ht).d
 rw [hd] at h1
 subst hj
 exact ⟨_, rfl, fun ty => Val.indexArr h1 (TT.find_ok S.ok he).size (Option.some.inj (hE.val hx)).symm (Option.some.inj (hE.val hy)).symm hi⟩
theorem Vf.loadA {kk off : Nat} {bx : Bx} {s : SV} (hx : evS E x = some (.p kk off)) (hb : nth B kk = some (some bx)) (ht : S.τ.find t = some ti) (ha : ti.agg = false) (hc : nth bx.cells off = some s) : Vf P (.load t x) E B L s := fun T R β hE hB _ =>
 semLoad_ok S.ok hE hB (by unfold semLoad; rw [hx]; simp only [hb, ht, ha]; exact hc)
theorem Vf.loadAll {kk : Nat} {bx : Bx} {vs : List Value} (hx : evS E x = some (.p kk 0)) (hb : nth B kk = some (some bx)) (ht : S.τ.find t = some ti) (ha : ti.agg = true) (hc : bx.cells = vs.map .v) (hn : vs.length = ti.size) : Vf P (.load t x) E B L (.v (.agg vs.toArray)) := fun T R β hE hB _ => by
 obtain ⟨b, h1, h2⟩ := den_p (hE.val hx)
 obtain ⟨cs, h3, h4⟩ := hB kk b bx h1 (by rw [← nth_eq]; exact hb)
 rw [hc, denL_map_v] at h3
 cases h3
 refine ⟨_, rfl, fun ty => Val.loadN (by rw [(TT.find_ok S.ok ht).agg, ha]) (TT.find_ok S.ok ht).size h2 ⟨hn, fun i v hi => ?_⟩⟩
 rw [add_of, Nat.zero_add]
 exact cell_of h4 (by rw [List.getElem?_toArray]; exact hi)
end
section
variable {P : Program} {E : Look} {B : List (Option Bx)} {L : LH} {t t2 : TypeId} {x y : Operand} {ti te : TI} {ad : Addr} {v : Value}
theorem Vf.bin {bo : BinOp} {kk : IntKind} {a b : Int} (hx : evS E x = some (.v (.int kk a))) (hy : evS E y = some (.v (.int kk b))) (h : intRes bo kk a b = some v) : Vf P (.binOp bo t x y t2) E B L (.v v) := fun T R β hE _ _ =>
 ⟨v, rfl, fun ty => Val.bin (Option.some.inj (hE.val hx)).symm (Option.some.inj (hE.val hy)).symm h⟩
end
section
variable {P : Program} {C : Cx P} {E : Look} {B : List (Option Bx)} {L : LH} {dst : Option Tmp} {ty : TypeId} {pos : String} {af : Array Edge} {gd : Option (Nat × Bool)}
def denA (E : Look) (xs : List Operand) : Option (List Value) := match evSL E xs with
 | some l => denL nm0 l
 | none => none
theorem denA_ok {β : Nm} {T : Array Value} (hE : EnvOk β E T) {xs : List Operand} {vs : List Value} (h : denA E xs = some vs) : xs.map (ev T) = vs := by
 unfold denA at h
 split at h
 ·rename_i l hl
  exact Option.some.inj ((hE.vals hl).symm.trans (denL_nil h β))
 ·cases h
def CallQ (B : List (Option Bx)) (Q : Value → LH → Prop) (sv : SV) (B' : List (Option Bx)) (L' : LH) : Prop := ∃ v, sv = .v v ∧ B' = B ∧ Q v L'
theorem Ef.call {g : FuncId} {xs : Array Operand} {ts : Array TypeId} {args : List Value} {Q : Value → LH → Prop} (ha : denA E xs.toList = some args) (hs : Sp C.X g args L Q) : Ef C ⟨dst, .call { callee := .value (.func g), args := xs, argTypes := ts }, ty, pos, af, gd⟩ E B L (CallQ B Q) := by
 intro T R β hE hH
 obtain ⟨⟨fn, h1, h2, h3⟩, hf⟩ := hs
 have hx : xs.map (ev T) = args.toArray := by rw [← denA_ok hE ha, ← List.map_toArray]
 refine ⟨rfl, Cal.func h1 h2 h3 hx _ _ _ _ _ _ ⟨_, (hf R hH.le).mono (Q' := fun v R' => ∃ L', Q v L' ∧ Post L R L' R') (H' := fun _ _ => False) (fun _ _ h => h) ?_, ?_⟩⟩
 ·rintro ch R' ⟨L', h, _⟩; exact h
 ·rintro v R' ⟨L', hq, hp⟩
  exact ⟨.v v, B, L', ⟨v, rfl, rfl, hq⟩, rfl, hH.call hp, fun _ _ => rfl⟩
theorem Ef.callV {g : FuncId} {x : Operand} {f1 f2 : List SV} {v1 v2 : List Value} {xs : Array Operand} {ts : Array TypeId} {args : List Value} {Q : Value → LH → Prop} (hv : evS E x = some (.f (.func g) f1 f2)) (h1 : denL nm0 f1 = some v1) (h2 : denL nm0 f2 = some v2) (ha : denA E xs.toList = some args) (hs : Sp C.X g (v1 ++ args ++ v2) L Q) :
  Ef C ⟨dst, .call { callee := .value x, args := xs, argTypes := ts }, ty, pos, af, gd⟩ E B L (CallQ B Q) := by
 intro T R β hE hH
 obtain ⟨⟨fn, g1, g2, g3⟩, hf⟩ := hs
 have hx : xs.map (ev T) = args.toArray := by rw [← denA_ok hE ha, ← List.map_toArray]
 have hfv : ev T x = .func (.func g) v1.toArray v2.toArray := by
  have := hE.val hv
  unfold den at this
  rw [denL_nil h1 β, denL_nil h2 β] at this
  exact (Option.some.inj this).symm
 refine ⟨rfl, Cal.value g1 g2 g3 hfv hx (by simp) _ _ _ _ _ _ ⟨_, (hf R hH.le).mono (Q' := fun v R' => ∃ L', Q v L' ∧ Post L R L' R') (H' := fun _ _ => False) (fun _ _ h => h) ?_, ?_⟩⟩
 ·rintro ch R' ⟨L', h, _⟩; exact h
 ·rintro v R' ⟨L', hq, hp⟩
  exact ⟨.v v, B, L', ⟨v, rfl, rfl, hq⟩, rfl, hH.call hp, fun _ _ => rfl⟩
end
section
variable {P : Program} [S : Seat P] {C : Cx P} {E : Look} {B : List (Option Bx)} {L : LH} {dst : Option Tmp} {ty : TypeId} {pos : String} {af : Array Edge} {gd : Option (Nat × Bool)}
def StoQ (L : LH) (B1 : List (Option Bx)) (sv : SV) (B' : List (Option Bx)) (L' : LH) : Prop := sv = .v undef ∧ B' = B1 ∧ L' = L
theorem Ef.sto {op : Op} {kk : Nat} {x : Bx} (h : semS S.τ E B op = some (kk, x)) : Ef C ⟨dst, op, ty, pos, af, gd⟩ E B L (StoQ L (B.set kk (some x))) := by
 intro T R β hE hH
 refine ⟨semS_defer h, semS_ok S.ok hE hH h dst ty pos af gd _ _ fun R' hR' => ?_⟩
 refine ⟨.v undef, _, L, ⟨rfl, rfl, rfl⟩, rfl, hR', fun j hj => ?_⟩
 by_cases e : kk = j
 ·subst e
  have hlt : ∃ b, β kk = some b := by
   unfold semS at h
   split at h
   ·split at h
    ·rename_i hx hy ht
     split at h
     ·split at h
      ·cases h
       obtain ⟨b, hb, _⟩ := den_p (hE.val hx)
       exact ⟨b, hb⟩
      ·cases h
     ·cases h
    ·cases h
   ·cases h
  obtain ⟨b, hb⟩ := hlt
  rw [hb] at hj; cases hj
 ·rw [List.getElem?_set_ne e]
theorem Ef.stoA {t : TypeId} {x y : Operand} {ti : TI} {kk off : Nat} {bt : TypeId} {s : SV} {cells cs cells' : List SV} (hx : evS E x = some (.p kk off)) (hy : evS E y = some s) (ht : S.τ.find t = some ti) (hb : nth B kk = some (some ⟨cells, bt⟩)) (hcs : cellsS s = cs) (h1 : cs.length = ti.size) (h2 : off + ti.size ≤ cells.length) (h3 : sglL cs = true) (hc : putL cells off cs = cells') :
  Ef C ⟨dst, .store t x y, ty, pos, af, gd⟩ E B L (StoQ L (B.set kk (some ⟨cells', bt⟩))) := by
 refine Ef.sto ?_
 unfold semS
 simp only [hx, hy, ht, hb, hcs, h1, h3, hc]
 rw [Nat.beq_refl, Nat.ble_eq_true_of_le h2]
theorem Ef.stoF {t e : TypeId} {x y : Operand} {ti : TI} {b off : Nat} {c : Array Value} {v : Value} (hx : evS E x = some (.v (.pointer (some ⟨b, off, none⟩)))) (hy : ∃ s, evS E y = some s ∧ den nm0 s = some v) (ht : S.τ.find t = some ti) (hb : L b = some (.cells c e (0, 0), true)) (hn : v.cells.size = ti.size) (hl : off + ti.size ≤ c.size)
  (hs : ∀ u ∈ v.cells.toList, single u = true) : Ef C ⟨dst, .store t x y, ty, pos, af, gd⟩ E B L (StoQ (L.put b (.cells (putRow c off v.cells.toList) e)) B) := by
 intro T R β hE hH
 obtain ⟨s, hy1, hy2⟩ := hy
 have ex := (Option.some.inj (hE.val hx)).symm
 have ey : ev T y = v := Option.some.inj ((hE.val hy1).symm.trans (den_nil hy2 β))
 refine ⟨rfl, ?_⟩
 simp only [execOp, ex, ey]
 rw [wpS_bind]
 unfold Instr.storeAt
 rw [wpS_bind]
 simp only [Instr.sureAddr, wpS_pure]
 unfold storeVar
 rw [wpS_bind, wpS_sizeOf (TT.find_ok S.ok ht).size]
 simp only [hn, ne_eq, not_true_eq_false, if_false]
 refine wpS_storeCells (e := e) v.cells.toList 0 c R (hH.le _ _ hb) (by rw [Array.length_toList, hn]; omega) hs (fun R' h1 h2 => ?_)
 rw [Nat.add_zero] at h1
 exact ⟨.v undef, B, _, ⟨rfl, rfl, rfl⟩, rfl, hH.setF hb h1 h2, fun _ _ => rfl⟩
end
theorem inc64 {i : Nat} (h : i ≤ 140737488355328) : SV.v (.int .i64 (IntKind.i64.wrap ((i : Int) + 1))) = .v (.int .i64 ((i + 1 : Nat) : Int)) := by
 rw [wrap64_in _ (by omega) (by omega)]; rfl
theorem w64 {x y : Int} (h : x = y) (h1 : -9223372036854775808 ≤ y) (h2 : y ≤ 9223372036854775807) : SV.v (.int .i64 (IntKind.i64.wrap x)) = .v (.int .i64 y) := by
 rw [h, wrap64_in _ h1 h2]
end Go.Mz


namespace Go.Mz
open Go.Conc
section
variable {P : Program} (X : Logic P)
variable {f : FuncId} {T : Array Value} {k : List Item} {ds : List Deferred} {kd : CallKind} {ro : Option Nat} {cs : List Frame} {L : LH}
theorem sem_step {α : Type} {s : Sem α} {K : Goroutine → LH → Prop} {w : World} {fn : FuncId} {F : Result α → GStep} (hs : Sub L w)
  (h : wpS P (fun a L' => ∀ w', Sub L' w' → ∃ g' w'' es L'', F (.ok a w') = .go g' w'' es ∧ Tr L' L'' w' w'' es ∧ K g' L'') (fun _ _ => False) s L) :
  ∃ g' w' es L', GStep.after (seen P fn (s.runT P w #[]).2) (F (s.runT P w #[]).1) = .go g' w' es ∧ Tr L L' w w' es ∧ K g' L' := by
 have hout := wpS_sound s L h w #[] hs
 have he : ∃ r es₀, s.runT P w #[] = (r, es₀) := ⟨_, _, rfl⟩
 obtain ⟨r, es₀, he⟩ := he
 rw [he] at hout ⊢
 cases r with
 | halt hh w' => cases hh <;> first | exact hout.elim | (obtain ⟨_, _, _, _, h3⟩ := hout; exact h3.elim)
 | ok a w' =>
  obtain ⟨L', us, h1, h2, h3⟩ := hout
  rw [Array.empty_append] at h1
  subst h1
  obtain ⟨g', w'', es, L'', h4, h5, h6⟩ := h3 w' h2.sub
  refine ⟨g', w'', seen P fn es₀ ++ es, L'', ?_, (h2.fewer (seen_sub _ _ _)).trans h5, h6⟩
  simp only
  rw [h4, after_go]
theorem Logic.rangeFunc {fo : Operand} {ps : Array Tmp} {asg body : Code}
  (h : wpS P (fun x L1 => wpS P (nextOut P X.Go (Fr f T (.inRangeFunc x.1 :: k) (x.2 ++ ds) .run kd ro) cs .normal) (panicOut X.Go (Fr f T (.inRangeFunc x.1 :: k) (x.2 ++ ds) .run kd ro) cs)
   (do let d ← resolve (ev T) { callee := .value fo, args := #[.const (.func (.yield x.1) #[] #[])], argTypes := #[] } 0; invoke d.target d.args) L1) (fun _ _ => False) (Instr.enterLoop f T ps asg body ro) L) :
  X.Go (G (Fr f T (.code (.rangeFunc fo ps asg body) :: k) ds .run kd ro) cs) L :=
 X.step _ L rfl fun w hs => by
  have key := sem_step (P := P) (L := L) (K := X.Go) (w := w) (fn := f) (F := fun rr => match rr with
   | .ok (l, mark) w => stepG.apply P true (Fr f T (.inRangeFunc l :: k) (mark ++ ds) .run kd ro) cs none (do let d ← resolve (ev T) { callee := .value fo, args := #[.const (.func (.yield l) #[] #[])], argTypes := #[] } 0; invoke d.target d.args) w
   | .halt _ w => .ended (.stuck "range over a function: no such loop" ((Fr f T (.code (.rangeFunc fo ps asg body) :: k) ds .run kd ro).pos P)) w) hs (wpS_mono (fun x L1 hx w1 hw1 => ?_) (fun _ _ h => h) _ _ h)
  ·obtain ⟨g', w', es, L', h1, h2, h3⟩ := key
   refine ⟨g', w', es, L', ?_, h2, h3⟩
   rw [← h1]
   simp only [G, Fr, stepG, stepG.exec]
   have he : ∀ (l : Nat) (mark : List Deferred), Frame.eval { fn := f, tmps := T, todo := .inRangeFunc l :: k, defers := mark ++ ds, mode := .run, kind := kd, roundOf := ro } = ev T := fun l mark => eval_Fr f T (.inRangeFunc l :: k) (mark ++ ds) .run kd ro
   simp only [he]
   rfl
  ·obtain ⟨l, mark⟩ := x
   obtain ⟨g', w', es, L', h1, h2, h3⟩ := apply_sound (K := X.Go) (fr := Fr f T (.inRangeFunc l :: k) (mark ++ ds) .run kd ro) (cs := cs) hw1 hx
   exact ⟨g', w', es, L', h1, h2, h3⟩
theorem Logic.endRange {l : Nat} (h : wpS P (fun j L' => X.Go (G (Fr f T ((j.map Item.code).toList ++ k) ds .run kd ro) cs) L') (fun _ _ => False) (Instr.endLoop l) L) : X.Go (G (Fr f T (.endRangeFunc l :: k) ds .run kd ro) cs) L :=
 X.step _ L rfl fun w hs => by
  have key := sem_step (P := P) (L := L) (K := X.Go) (w := w) (fn := f) (F := fun rr => match rr with
   | .ok jump w => .go (G (Fr f T ((jump.map Item.code).toList ++ k) ds .run kd ro) cs) w
   | .halt (.panic v) w => .go (G ((Fr f T (.endRangeFunc l :: k) ds .run kd ro).raise [{ v, recovered := false }]) cs) w
   | .halt _ w => .ended (.stuck "range over a function: no such loop" ((Fr f T (.endRangeFunc l :: k) ds .run kd ro).pos P)) w) hs (wpS_mono (fun x L1 hx w1 hw1 => ⟨_, _, #[], L1, rfl, Tr.refl hw1, hx⟩) (fun _ _ h => h) _ _ h)
  obtain ⟨g', w', es, L', h1, h2, h3⟩ := key
  refine ⟨g', w', es, L', ?_, h2, h3⟩
  rw [← h1]
  simp only [G, Fr, stepG, stepG.exec]
  rfl
theorem Logic.beginRound {l : Nat} (h : wpS P (fun _ L' => X.Go (G (Fr f T k ds .run kd (some l)) cs) L') (fun _ _ => False) (Instr.beginRound l) L) : X.Go (G (Fr f T (.beginRound :: k) ds .run kd (some l)) cs) L :=
 X.step _ L rfl fun w hs => by
  have h' : wpS P (nextOut P X.Go (Fr f T (.beginRound :: k) ds .run kd (some l)) cs .normal) (panicOut X.Go (Fr f T (.beginRound :: k) ds .run kd (some l)) cs) (do Instr.beginRound l; pure .skip) L := by
   rw [wpS_bind]
   exact wpS_mono (fun _ L1 hx => hx) (fun _ _ h => h.elim) _ _ h
  obtain ⟨g', w', es, L', h1, h2, h3⟩ := apply_sound (K := X.Go) (fr := Fr f T (.beginRound :: k) ds .run kd (some l)) (cs := cs) hs h'
  exact ⟨g', w', es, L', h1, h2, h3⟩
inductive Leaves : List Item → Option Code → Prop
 | nil : Leaves [] none
 | ret {k : List Item} : Leaves (.code .ret :: k) (some .ret)
 | exit {id : Nat} {k : List Item} (h : exitTo id k = none) : Leaves (.code (.exit id) :: k) (some (.exit id))
 | goto {l : Nat} {k : List Item} (h : gotoIn l k = none) : Leaves (.code (.goto l) :: k) (some (.goto l))
theorem Logic.endRound {l : Nat} {jump : Option Code} {c : Frame} (hk : Leaves k jump) (hkd : kd = .normal) (h : wpS P (fun v L' => X.Go (G (c.finish v) cs) L') (fun _ _ => False) (Instr.endRound l jump) L) : X.Go (G (Fr f T k ds .run kd (some l)) (c :: cs)) L :=
 X.step _ L rfl fun w hs => by
  subst hkd
  have key := sem_step (P := P) (L := L) (K := X.Go) (w := w) (fn := f) (F := fun rr => match rr with
   | .ok v w => doReturn P X.main (Fr f T k ds .run .normal (some l)) (c :: cs) none v w
   | .halt _ w => .ended (.stuck "range over a function: no such loop" ((Fr f T k ds .run .normal (some l)).pos P)) w) hs (wpS_mono (fun x L1 hx w1 hw1 => ⟨G (c.finish x) cs, w1, #[], L1, rfl, Tr.refl hw1, hx⟩) (fun _ _ h => h) _ _ h)
  obtain ⟨g', w', es, L', h1, h2, h3⟩ := key
  refine ⟨g', w', es, L', ?_, h2, h3⟩
  rw [← h1]
  cases hk with
  | nil => simp only [G, Fr, stepG, stepG.exec]; rfl
  | ret => simp only [G, Fr, stepG, stepG.exec]; rfl
  | exit hx => simp only [G, Fr, stepG, stepG.exec, hx]; rfl
  | goto hx => simp only [G, Fr, stepG, stepG.exec, hx]; rfl
def leaving : FrameMode → Bool
 | .run => false
 | _ => true
theorem Logic.collected {r : Nat} {a : Array Value} {md : FrameMode} (hm : leaving md = true) (h : wpS P (fun calls L' => X.Go (G (Fr f T k (calls ++ ds) md kd ro) cs) L') (fun _ _ => False) (Instr.takeDeferred r) L) :
  X.Go (G (Fr f T k (⟨.collected r, a⟩ :: ds) md kd ro) cs) L :=
 X.step _ L rfl fun w hs => by
  have key := sem_step (P := P) (L := L) (K := X.Go) (w := w) (fn := f) (F := fun rr => match rr with
   | .ok calls w => .go (G (Fr f T k (calls ++ ds) md kd ro) cs) w
   | .halt _ w => .ended (.stuck "the deferred calls of a range-over-func loop have been taken" ((Fr f T k (({ target := .collected r, args := a } : Deferred) :: ds) md kd ro).pos P)) w) hs (wpS_mono (fun x L1 hx w1 hw1 => ⟨_, _, #[], L1, rfl, Tr.refl hw1, hx⟩) (fun _ _ h => h) _ _ h)
  obtain ⟨g', w', es, L', h1, h2, h3⟩ := key
  refine ⟨g', w', es, L', ?_, h2, h3⟩
  rw [← h1]
  cases md with
  | run => cases hm
  | returning => simp only [G, Fr, stepG, unwind]; rfl
  | panicking ch => simp only [G, Fr, stepG, unwind]; rfl
theorem Logic.raise {fn : Func} {c : Frame} {ch : List PanicEntry} (hf : P.funcs[f]? = some fn) (h : X.Go (G (c.raise ch) cs) L) : X.Go (G (Fr f T k [] (.panicking ch) kd ro) (c :: cs)) L :=
 X.quiet rfl (fun w => by simp [G, Fr, stepG, unwind, Frame.catches, hf]) h
end
def CallV {P : Program} (X : Logic P) (fv : Value) (args : List Value) (R : LH) (Q : Value → LH → Prop) : Prop :=
 match fv with
 | .func (.func g) f1 f2 => Callable P g ∧ Fn X g (f1 ++ args.toArray ++ f2) R Q
 | .func (.yield l) f1 _ => f1 = #[] ∧ ∃ r wr, R l = some (.loop r, wr) ∧ args.length = r.params.size ∧
   FnF X (Frame.round l r.fn ((r.params.zip args.toArray).foldl (fun tmps x => tmps.setIfInBounds x.1 x.2) r.tmps) r.assign r.body .normal) R Q
 | _ => False
def SpV {P : Program} (X : Logic P) (fv : Value) (args : List Value) (L : LH) (Q : Value → LH → Prop) : Prop := ∀ R, Le L R → CallV X fv args R (fun v R' => ∃ L', Q v L' ∧ Post L R L' R')
theorem CallV.mono {P : Program} {X : Logic P} {fv : Value} {args : List Value} {R : LH} {Q Q' : Value → LH → Prop} (h : CallV X fv args R Q) (hq : ∀ v L', Q v L' → Q' v L') : CallV X fv args R Q' := by
 unfold CallV at h ⊢
 split at h
 ·exact ⟨h.1, h.2.mono hq (fun _ _ h => h)⟩
 ·obtain ⟨h1, r, wr, h2, h3, h4⟩ := h
  exact ⟨h1, r, wr, h2, h3, h4.mono hq⟩
 ·exact h.elim
theorem SpV.mono {P : Program} {X : Logic P} {fv : Value} {args : List Value} {L : LH} {Q Q' : Value → LH → Prop} (h : SpV X fv args L Q) (hq : ∀ v L', Q v L' → Q' v L') : SpV X fv args L Q' :=
 fun R hR => (h R hR).mono fun _ _ ⟨L', h1, h2⟩ => ⟨L', hq _ _ h1, h2⟩
theorem Sp.toV {P : Program} {X : Logic P} {g : FuncId} {args f1 f2 : List Value} {L : LH} {Q : Value → LH → Prop} (h : Sp X g (f1 ++ args ++ f2) L Q) : SpV X (.func (.func g) f1.toArray f2.toArray) args L Q := fun R hR => by
 refine ⟨h.1, ?_⟩
 have := h.2 R hR
 have e : f1.toArray ++ args.toArray ++ f2.toArray = (f1 ++ args ++ f2).toArray := by simp
 rw [e]
 exact this.mono (fun _ _ h => h) fun ch R' ⟨L', h, _⟩ => h
theorem Post.of_le {L1 L R L1' R' : LH} (h : Post L1 R L1' R') (hL : Le L1 L) (hR : Le L R) : ∃ L', Post L R L' R' ∧ Post L1 L L1' L' := by
 refine ⟨fun b => if (L b).isSome ∨ (L1' b).isSome then R' b else none, ⟨fun b x hx => ?_, fun b x h1 h2 => ?_, fun b hb => ?_, fun b hb => ?_⟩, ⟨fun b x hx => ?_, fun b x h1 h2 => ?_, fun b hb => ?_, h.dom⟩⟩
 ·split at hx
  ·exact hx
  ·cases hx
 ·refine h.keep b x ?_ h2
  cases hh : L1 b with
  | none => rfl
  | some y => rw [hL b y hh] at h1; cases h1
 ·split at hb
  ·rename_i hc
   rcases hc with hc | hc
   ·exact .inl (by intro e; rw [e] at hc; cases hc)
   ·rcases h.fresh b (by intro e; rw [e] at hc; cases hc) with e | e
    ·cases hh : L1 b with
     | none => exact absurd hh e
     | some y => exact .inl (by rw [hL b y hh]; simp)
    ·exact .inr e
  ·exact absurd rfl hb
 ·cases hh : L b with
  | none => exact absurd hh hb
  | some y =>
   rw [if_pos (.inl rfl)]
   cases h1 : L1 b with
   | none => rw [h.keep b y h1 (hR b y hh)]; simp
   | some z =>
    cases h2 : L1' b with
    | none => exact absurd h2 (h.dom b (by rw [h1]; simp))
    | some u => rw [h.le b u h2]; simp
 ·rw [if_pos (.inr (by rw [hx]; rfl))]
  exact h.le b x hx
 ·rw [if_pos (.inl (by rw [h2]; rfl))]
  exact h.keep b x h1 (hR b x h2)
 ·rcases h.fresh b hb with e | e
  ·exact .inl e
  ·refine .inr ?_
   cases hh : L b with
   | none => rfl
   | some y => rw [hR b y hh] at e; cases e
theorem SpV.frame {P : Program} {X : Logic P} {fv : Value} {args : List Value} {L1 L : LH} {Q : Value → LH → Prop} (h : SpV X fv args L1 Q) (hL : Le L1 L) : SpV X fv args L (fun v L' => ∃ L1', Q v L1' ∧ Post L1 L L1' L') := fun R hR =>
 (h R (hL.trans hR)).mono fun v R' ⟨L1', h1, h2⟩ => let ⟨L', h3, h4⟩ := h2.of_le hL hR; ⟨L', ⟨L1', h1, h4⟩, h3⟩
theorem Sp.frame {P : Program} {X : Logic P} {g : FuncId} {args : List Value} {L1 L : LH} {Q : Value → LH → Prop} (h : Sp X g args L1 Q) (hL : Le L1 L) : Sp X g args L (fun v L' => ∃ L1', Q v L1' ∧ Post L1 L L1' L') :=
 ⟨h.1, fun R hR => (h.2 R (hL.trans hR)).mono (fun v R' ⟨L1', h1, h2⟩ => let ⟨L', h3, h4⟩ := h2.of_le hL hR; ⟨L', ⟨L1', h1, h4⟩, h3⟩) fun ch R' ⟨L', h, _⟩ => h.elim⟩
theorem wpS_yield {P : Program} {R : LH} {l : Nat} {r : Loop} {wr : Bool} {args : Array Value} {Q : Next → LH → Prop} {H : Value → LH → Prop} (hl : R l = some (.loop r, wr)) (hn : args.size = r.params.size)
  (hq : Q (.round l r.fn ((r.params.zip args).foldl (fun tmps x => tmps.setIfInBounds x.1 x.2) r.tmps) r.assign r.body) R) : wpS P Q H (Instr.yield l args) R := by
 unfold Instr.yield Instr.getLoop
 rw [wpS_bind, wpS_bind]
 show wpS P _ H (.getObj l .pure) R
 unfold wpS
 rw [hl]
 show wpS P Q H (if args.size ≠ r.params.size then _ else _) R
 rw [if_neg (by simpa using hn)]
 exact hq
theorem wpS_newObj {P : Program} {R : LH} {o : Obj} {Q : Nat → LH → Prop} {H : Value → LH → Prop} : wpS P Q H (newObj o) R = ∀ b, R b = none → Q b (R.put b o) := rfl
theorem wpS_getLoop {P : Program} {R : LH} {l : Nat} {r : Loop} {wr : Bool} {Q : Loop → LH → Prop} {H : Value → LH → Prop} (hl : R l = some (.loop r, wr)) : wpS P Q H (Instr.getLoop l) R = Q r R := by
 unfold Instr.getLoop
 rw [wpS_bind]
 show wpS P _ H (.getObj l .pure) R = _
 unfold wpS
 rw [hl]
 rfl
theorem wpS_setObj {P : Program} {R : LH} {l : Nat} {o o' : Obj} {Q : Unit → LH → Prop} {H : Value → LH → Prop} (hl : R l = some (o', true)) (h1 : special o' = false) (h2 : special o = false) : wpS P Q H (setObj l o) R = Q () (R.put l o) := by
 show wpS P Q H (.setObj l o (.pure ())) R = _
 unfold wpS
 rw [hl]
 simp only [h1, h2, Bool.or_self, Bool.false_eq_true, if_false]
 rfl
section
variable {P : Program} {C : Cx P} {E : Look} {B : List (Option Bx)} {L : LH} {dst : Option Tmp} {ty : TypeId} {pos : String} {af : Array Edge} {gd : Option (Nat × Bool)}
theorem Ef.callS {x : Operand} {sv : SV} {fv : Value} {xs : Array Operand} {ts : Array TypeId} {args : List Value} {Q : Value → LH → Prop} (hv : evS E x = some sv) (hd : den nm0 sv = some fv) (ha : denA E xs.toList = some args) (hs : SpV C.X fv args L Q) :
  Ef C ⟨dst, .call { callee := .value x, args := xs, argTypes := ts }, ty, pos, af, gd⟩ E B L (CallQ B Q) := by
 intro T R β hE hH
 have hc := hs R hH.le
 have hx : xs.map (ev T) = args.toArray := by rw [← denA_ok hE ha, ← List.map_toArray]
 have hfv : ev T x = fv := Option.some.inj ((hE.val hv).symm.trans (den_nil hd β))
 refine ⟨rfl, ?_⟩
 have fin : ∀ v R', (∃ L', Q v L' ∧ Post L R L' R') → ∃ sv B' L', CallQ B Q sv B' L' ∧ den β sv = some v ∧ HeapOk C.L0 C.R0 β B' L' R' ∧ ∀ kk, β kk = none → B'[kk]? = B[kk]? := fun v R' ⟨L', hq, hp⟩ => ⟨.v v, B, L', ⟨v, rfl, rfl, hq⟩, rfl, hH.call hp, fun _ _ => rfl⟩
 unfold CallV at hc
 split at hc
 ·rename_i g f1 f2
  obtain ⟨⟨fn, g1, g2, g3⟩, hf⟩ := hc
  exact Cal.value g1 g2 g3 hfv hx rfl _ _ _ _ _ _ ⟨_, hf, fin⟩
 ·rename_i l f1 f2
  obtain ⟨rfl, r, wr, h1, h2, h3⟩ := hc
  simp only [execOp, resolve, hfv, Deferred.ofValue, hx]
  rw [wpS_bind, wpS_pure]
  simp only [invoke, Array.empty_append]
  exact wpS_yield h1 (by simpa using h2) ⟨_, h3, fin⟩
 ·exact hc.elim
end
section
variable {P : Program} {C : Cx P} {n : Nat} {ds : List Deferred} {k : List Item} {E : Env} {B : List (Option Bx)} {L : LH}
theorem nm_upto0 (β : Nm) : β.upto 0 = nm0 := by funext k; simp [Nm.upto, nm0]
theorem EnvOk.closed {β : Nm} {E E' : Env} {T : Array Value} (h : EnvOk β (get E) T) (hs : SubE E E') (h0 : scE 0 E' = true) : EnvOk nm0 (get E') T := fun s x hx => by
 have := sc_den (scE_get h0 s x hx) (h s x (hs.get s x hx))
 rw [nm_upto0] at this; exact this
abbrev lpO (st : LoopState) (pd : Option Code) (f : FuncId) (T : Array Value) (ps : Array Tmp) (asg body : Code) (d : Nat) : Obj := .loop ⟨st, pd, f, T, ps, asg, body, d⟩
theorem HeapOk.two {L0 R0 : LH} {β : Nm} {B : List (Option Bx)} {L R : LH} (h : HeapOk L0 R0 β B L R) {d l : Nat} (hd : R d = none) (o o' : Obj) (hl : (R.put d o) l = none) : l ≠ d ∧ R l = none ∧ HeapOk L0 R0 β B ((L.put d o).put l o') ((R.put d o).put l o') := by
 have hne : l ≠ d := fun e => by subst e; rw [put_same] at hl; cases hl
 rw [put_ne _ _ hne] at hl
 refine ⟨hne, hl, ?_⟩
 have h1 := h.newF hd o
 exact h1.newF (by rw [put_ne _ _ hne]; exact hl) o'
theorem W.range {fo : Operand} {ps : Array Tmp} {asg body : Code} {sv : SV} {fv : Value} (hro : C.ro = none) (E' : Env) (hE' : SubE E E') (h0 : scE 0 E' = true) (hf : evS (get E) fo = some sv) (hv : den nm0 sv = some fv) (Qy : Array Value → Nat → Nat → LoopState → Option Code → LH → Prop)
  (h : ∀ (T : Array Value) (d l : Nat), T.size = n → EnvOk nm0 (get E') T → L d = none → L l = none → l ≠ d → C.R0 d = none → C.R0 l = none →
   SpV C.X fv [.func (.yield l) #[] #[]] ((L.put d (.deferred (some []))).put l (lpO .ready none C.f T ps asg body d)) (fun _ L' => ∃ st pd, st ≠ .busy ∧ L' l = some (lpO st pd C.f T ps asg body d, true) ∧ Qy T d l st pd L'))
  (w : ∀ T d l st pd L', Qy T d l st pd L' → W C n (⟨.collected d, #[]⟩ :: ds) ((pd.map Item.code).toList ++ k) E B (L'.put l (lpO .exhausted pd C.f T ps asg body d))) :
  W C n ds (.code (.rangeFunc fo ps asg body) :: k) E B L := by
 intro T R β hT hE hH
 refine C.X.rangeFunc ?_
 rw [hro]
 unfold Instr.enterLoop
 simp only
 rw [wpS_bind, wpS_newObj]
 intro d hd
 rw [wpS_bind, wpS_pure, wpS_bind, wpS_newObj]
 intro l hl
 rw [wpS_pure]
 obtain ⟨hne, hl', hH'⟩ := hH.two hd (.deferred (some [])) (lpO .ready none C.f T ps asg body d) hl
 obtain ⟨d1, d2⟩ := hH.free hd
 obtain ⟨l1, l2⟩ := hH.free hl'
 have hfv : ev T fo = fv := Option.some.inj ((hE.val hf).symm.trans (den_nil hv β))
 have hc := h T d l hT (hE.closed hE' h0) d1 l1 hne d2 l2 _ hH'.le
 have fin : ∀ (v : Value) R', (∃ L', (∃ st pd, st ≠ .busy ∧ L' l = some (lpO st pd C.f T ps asg body d, true) ∧ Qy T d l st pd L') ∧ Post ((L.put d (.deferred (some []))).put l (lpO .ready none C.f T ps asg body d)) ((R.put d (.deferred (some []))).put l (lpO .ready none C.f T ps asg body d)) L' R') →
   C.X.Go (G (Fr C.f T (.endRangeFunc l :: k) (⟨.collected d, #[]⟩ :: ds) .run C.kd none) C.cs) R' := by
  rintro v R' ⟨L', ⟨st, pd, hst, hL', hq⟩, hp⟩
  have hH2 := hH'.call hp
  have hR' := hp.le _ _ hL'
  refine C.X.endRange ?_
  unfold Instr.endLoop
  rw [wpS_bind, wpS_getLoop hR']
  have hb : (st == LoopState.busy) = false := by simpa using hst
  simp only [hb, Bool.false_eq_true, if_false]
  rw [wpS_bind, wpS_setObj hR' rfl rfl, wpS_pure]
  have := w T d l st pd L' hq T _ β hT hE (hH2.setF hL' (put_same _ _ _) (fun b' hb' => put_ne _ _ hb'))
  rw [hro] at this
  exact this
 unfold CallV at hc
 have hfin : ∀ v, (Fr C.f T (.inRangeFunc l :: k) ([⟨.collected d, #[]⟩] ++ ds) .run C.kd none).finish v = Fr C.f T (.endRangeFunc l :: k) (⟨.collected d, #[]⟩ :: ds) .run C.kd none := fun v => rfl
 simp only [resolve, hfv]
 split at hc
 ·rename_i g f1 f2
  obtain ⟨⟨fn, g1, g2, g3⟩, hF⟩ := hc
  simp only [Deferred.ofValue, wpS_bind, wpS_pure, invoke]
  rw [wpS_callFunc g1 g2 g3]
  have := hF .normal (Fr C.f T (.inRangeFunc l :: k) ([⟨.collected d, #[]⟩] ++ ds) .run C.kd none) C.cs (.inl rfl) (fun v R' hv => by rw [hfin]; exact fin v R' hv) (fun _ _ h => h.elim)
  simpa [nextOut, ev] using this
 ·rename_i l' f1 f2
  obtain ⟨rfl, r, wr, h1, h2, h3⟩ := hc
  simp only [Deferred.ofValue, wpS_bind, wpS_pure, invoke]
  have := h3 (Fr C.f T (.inRangeFunc l :: k) ([⟨.collected d, #[]⟩] ++ ds) .run C.kd none) C.cs (fun v R' hv => by rw [hfin]; exact fin v R' hv)
  refine wpS_yield h1 (by simpa using h2) ?_
  simpa [nextOut, ev] using this
 ·exact hc.elim
structure RtR (C : Cx P) (Q : Value → LH → Prop) : Prop where
 kd : C.kd = .normal
 cs : ∃ c cs, C.cs = c :: cs ∧ ∀ v R' L', Q v L' → Post C.L0 C.R0 L' R' → C.X.Go (G (c.finish v) cs) R'
def parEnv : List Tmp → List Value → Env → Env
 | p :: ps, a :: us, E => parEnv ps us ((p, .v a) :: E)
 | _, _, E => E
theorem parEnv_ok {n : Nat} : ∀ {ps : List Tmp} {us : List Value} {E : Env} {T : Array Value}, EnvOk nm0 (get E) T → T.size = n → (ps.all fun p => Nat.blt p n) = true →
  EnvOk nm0 (get (parEnv ps us E)) ((ps.zip us).foldl (fun tmps x => tmps.setIfInBounds x.1 x.2) T) ∧ ((ps.zip us).foldl (fun tmps x => tmps.setIfInBounds x.1 x.2) T).size = n
 | [], _, _, _, h, hT, _ => by simp [parEnv, h, hT]
 | _ :: _, [], _, _, h, hT, _ => by simp [parEnv, h, hT]
 | p :: ps, a :: us, E, T, h, hT, hp => by
  simp only [List.all_cons, Bool.and_eq_true] at hp
  simp only [parEnv, List.zip_cons_cons, List.foldl_cons]
  exact parEnv_ok (h.set (sv := .v a) rfl (upd_set a (by rw [hT]; exact lt_of_blt hp.1))) (by simp [hT]) hp.2
theorem SpV.round {X : Logic P} {f l d : Nat} {T : Array Value} {ps : Array Tmp} {asg body : Code} {args : List Value} {L1 : LH} {Q : Value → LH → Prop} {E' : Env} {pd : Option Code} (hl : L1 l = some (lpO .ready pd f T ps asg body d, true)) (hn : args.length = ps.size) (hT : T.size = n) (hE : EnvOk nm0 (get E') T)
  (hp : (ps.toList.all fun p => Nat.blt p n) = true) (h : ∀ C : Cx P, C.X = X → C.f = f → C.ro = some l → C.L0 = L1 → RtR C Q → W C n [] [.code asg, .beginRound, .code body] (parEnv ps.toList args E') [] L1) : SpV X (.func (.yield l) #[] #[]) args L1 Q := fun R hR => by
 refine ⟨rfl, _, true, hR _ _ hl, hn, fun c cs hc => ?_⟩
 obtain ⟨h1, h2⟩ := parEnv_ok (us := args) hE hT hp
 have e : (ps.zip args.toArray).foldl (fun tmps x => tmps.setIfInBounds x.1 x.2) T = (ps.toList.zip args).foldl (fun tmps x => tmps.setIfInBounds x.1 x.2) T := by
  rw [← Array.foldl_toList, Array.toList_zip]
 simp only
 rw [e]
 exact h ⟨X, f, .normal, some l, c :: cs, L1, R⟩ rfl rfl rfl rfl ⟨rfl, c, cs, rfl, fun v R' L' hq hp => hc v R' ⟨L', hq, hp⟩⟩ _ R nm0 h2 h1
  ⟨(fun _ _ _ h => by cases h), (fun _ _ h => by cases h), (fun _ _ h => by cases h), (fun k b x hk => by cases hk), hR, fun b x _ h => h, fun b hb => .inl hb, fun b hb => hb⟩
theorem W.beginR {l : Nat} {r : Loop} (hro : C.ro = some l) (hl : L l = some (.loop r, true)) (hs : r.state = .ready) (w : W C n ds k E B (L.put l (.loop { r with state := .busy }))) : W C n ds (.beginRound :: k) E B L := by
 intro T R β hT hE hH
 have hR := hH.le _ _ hl
 have := w T _ β hT hE (hH.setF hl (put_same _ _ _) (fun b' hb' => put_ne R _ hb'))
 rw [hro] at this ⊢
 refine C.X.beginRound ?_
 unfold Instr.beginRound
 rw [wpS_bind, wpS_getLoop hR, wpS_bind, wpS_setObj hR rfl rfl]
 rw [hs, wpS_pure]
 exact this
theorem W.endR {l : Nat} {r : Loop} {jump : Option Code} {Q : Value → LH → Prop} (rt : RtR C Q) (hro : C.ro = some l) (hk : Leaves k jump) (hl : L l = some (.loop r, true)) (hq : Q (.bool jump.isNone) (L.put l (.loop { r with state := if jump.isNone then .ready else .done, pending := jump }))) : W C n ds k E B L := by
 intro T R β hT hE hH
 have hR := hH.le _ _ hl
 obtain ⟨hkd, c, cs, hcs, hc⟩ := rt
 rw [hro, hcs]
 refine C.X.endRound hk hkd ?_
 unfold Instr.endRound
 rw [wpS_bind, wpS_getLoop hR, wpS_bind, wpS_setObj hR rfl rfl, wpS_pure]
 exact hc _ _ _ hq (hH.setF hl (put_same _ _ _) (fun b' hb' => put_ne R _ hb')).post
end
section
variable {P : Program} {C : Cx P} {n : Nat} {ds : List Deferred} {k : List Item} {E : Env} {B : List (Option Bx)} {L : LH}
def WM {P : Program} (C : Cx P) (n : Nat) (ds : List Deferred) (md : FrameMode) (E : Env) (B : List (Option Bx)) (L : LH) : Prop :=
 ∀ (T : Array Value) (R : LH) (β : Nm) (k : List Item), T.size = n → EnvOk β (get E) T → HeapOk C.L0 C.R0 β B L R → C.X.Go (G (Fr C.f T k ds md C.kd C.ro) C.cs) R
theorem W.out (hro : C.ro = none) (hk : Leaves k none ∨ Leaves k (some .ret)) (w : WM C n ds .returning E B L) : W C n ds k E B L := by
 intro T R β hT hE hH
 refine C.X.quiet (g' := G (Fr C.f T k ds .returning C.kd C.ro) C.cs) rfl (fun w => ?_) (w T R β k hT hE hH)
 rw [hro]
 rcases hk with hk | hk
 ·cases hk with
  | nil => simp [G, Fr, stepG, stepG.exec]
 ·cases hk with
  | ret => simp [G, Fr, stepG, stepG.exec]
theorem WM.collected {r : Nat} {a : Array Value} {md : FrameMode} (hm : leaving md = true) (hr : L r = some (.deferred (some []), true)) (w : WM C n ds md E B (L.put r (.deferred none))) : WM C n (⟨.collected r, a⟩ :: ds) md E B L := by
 intro T R β k hT hE hH
 have hR := hH.le _ _ hr
 refine C.X.collected hm ?_
 unfold Instr.takeDeferred
 rw [wpS_bind]
 show wpS P _ _ (.getObj r .pure) R
 unfold wpS
 rw [hR]
 simp only [special, Bool.false_eq_true, if_false]
 show wpS P _ _ (pure _) R
 rw [wpS_pure]
 simp only
 rw [wpS_bind, wpS_setObj hR rfl rfl, wpS_pure]
 exact w T _ β k hT hE (hH.setF hr (put_same _ _ _) (fun b' hb' => put_ne R _ hb'))
theorem WM.ret [S : Seat P] {fn : Func} {Q : Value → LH → Prop} {H : List PanicEntry → LH → Prop} {svs : List SV} {vs : List Value} (r : Rt C fn Q H) (hs : resS S.τ (get E) B fn.results.toList = some svs) (hv : denL nm0 svs = some vs) (hq : Q (retV vs) L) : WM C n [] .returning E B L := by
 intro T R β k hT hE hH
 obtain ⟨hf, hro, hkd, c, cs, hcs, h1, _⟩ := r
 rw [hro, hcs]
 refine C.X.leave hf hkd ?_
 unfold results
 rw [wpS_bind, Array.mapM_eq_mapM_toList, ← bind_pure_comp, wpS_bind]
 refine resS_ok S.ok (fun t => rfl) (fun a t => rfl) hE hH.boxes hs (denL_nil hv β) ?_
 simp only [wpS_pure]
 have e : (if h : vs.toArray.size = 1 then vs.toArray[0] else Value.tuple vs.toArray) = retV vs := by
  match vs with
  | [] => rfl
  | [v] => rfl
  | _ :: _ :: _ => rfl
 rw [e]
 exact h1 _ _ _ hq hH.post
theorem WM.retF {fn : Func} {Q : Value → LH → Prop} {H : List PanicEntry → LH → Prop} {v : Value} (r : Rt C fn Q H) (hs : ∀ (T : Array Value) (R : LH) (β : Nm), EnvOk β (get E) T → Boxes β B R → Le L R → wpS P (fun u R' => u = v ∧ R' = R) (fun _ _ => False) (results fn T) R) (hq : Q v L) : WM C n [] .returning E B L := by
 intro T R β k hT hE hH
 obtain ⟨hf, hro, hkd, c, cs, hcs, h1, _⟩ := r
 rw [hro, hcs]
 refine C.X.leave hf hkd (wpS_mono ?_ (fun _ _ h => h) _ _ (hs T R β hE hH.boxes hH.le))
 rintro u R' ⟨rfl, rfl⟩
 exact h1 _ _ _ hq hH.post
theorem WM.raise {fn : Func} {Q : Value → LH → Prop} {H : List PanicEntry → LH → Prop} {ch : List PanicEntry} (r : Rt C fn Q H) (hh : H ch L) : WM C n [] (.panicking ch) E B L := by
 intro T R β k hT hE hH
 obtain ⟨hf, hro, hkd, c, cs, hcs, _, h2⟩ := r
 rw [hcs]
 exact C.X.raise hf (h2 _ _ _ hh hH.post)
end
section
variable {P : Program} {C : Cx P} {n : Nat} {ds : List Deferred} {k : List Item} {E : Env} {B : List (Option Bx)} {L : LH}
end
section
variable {P : Program} {C : Cx P} {n : Nat} {ds : List Deferred} {k : List Item} {E : Env} {B : List (Option Bx)} {L : LH} {ops : Array Oper} {i : Nat} {rest : List Nat}
abbrev pe1 (v : Value) : PanicEntry := { v := v, recovered := false }
theorem W.panicOp {x : Operand} {sv : SV} {t : TypeId} {v : Value} {dst : Option Tmp} {ty : TypeId} {pos : String} {af : Array Edge} {gd : Option (Nat × Bool)} (ho : nth ops.toList i = some ⟨dst, .panic x, ty, pos, af, gd⟩) (hg : guardOk (get E) ops.toList gd = some true) (hx : evS (get E) x = some sv) (hd : den nm0 sv = some (.iface t v))
  (w : WM C n ds (.panicking [pe1 (.iface t v)]) E B L) : W C n ds (.inRegion ops (i :: rest) :: k) E B L := by
 refine W.oper ho hg rfl fun T R β hT hE hH => ?_
 have ex : ev T x = .iface t v := Option.some.inj ((hE.val hx).symm.trans (den_nil hd β))
 simp only [execOp, ex]
 rw [wpS_bind]
 unfold Instr.panic
 exact w T R β _ hT hE hH
theorem wpS_callP {T : Array Value} {R : LH} {g : FuncId} {args : List Value} {fr : Frame} {cs : List Frame} {xs : Array Operand} {ts : Array TypeId} {dst : Option Tmp} {ty : TypeId} {pos : String} {af : Array Edge} {gd : Option (Nat × Bool)} {Q : Value → LH → Prop} {H : List PanicEntry → LH → Prop} {X : Logic P}
  (hx : xs.map (ev T) = args.toArray) (hs : Sp X g args L Q H) (hL : Le L R) (hq : ∀ v R', (∃ L', Q v L' ∧ Post L R L' R') → X.Go (G (fr.finish v) cs) R') (hp : ∀ ch R', (∃ L', H ch L' ∧ Post L R L' R') → X.Go (G (fr.raise ch) cs) R') (Hh : Value → LH → Prop) :
  wpS P (nextOut P X.Go fr cs .normal) Hh (execOp (ev T) ⟨dst, .call { callee := .value (.func g), args := xs, argTypes := ts }, ty, pos, af, gd⟩) R := by
 obtain ⟨⟨fn, h1, h2, h3⟩, hf⟩ := hs
 exact Cal.func h1 h2 h3 hx _ _ _ _ _ _ (hf R hL .normal _ _ (.inl rfl) hq hp)
theorem W.callP {d : Nat} {g : FuncId} {args : List Value} {xs : Array Operand} {ts : Array TypeId} {ty : TypeId} {pos : String} {af : Array Edge} {gd : Option (Nat × Bool)} {Q : Value → LH → Prop} {H : List PanicEntry → LH → Prop} (ho : nth ops.toList i = some ⟨some d, .call { callee := .value (.func g), args := xs, argTypes := ts }, ty, pos, af, gd⟩) (hg : guardOk (get E) ops.toList gd = some true) (hz : Nat.blt d n = true)
  (ha : denA (get E) xs.toList = some args) (hs : Sp C.X g args L Q H) (w : ∀ v L', Q v L' → W C n ds (.inRegion ops rest :: k) ((d, .v v) :: E) B L') (wp : ∀ ch L', H ch L' → WM C n ds (.panicking ch) E B L') : W C n ds (.inRegion ops (i :: rest) :: k) E B L := by
 refine W.oper ho hg rfl fun T R β hT hE hH => ?_
 have hx : xs.map (ev T) = args.toArray := by rw [← denA_ok hE ha, ← List.map_toArray]
 refine wpS_callP hx hs hH.le (fun v R' ⟨L', h1, h2⟩ => ?_) (fun ch R' ⟨L', h1, h2⟩ => ?_) _
 ·exact W.fin_some ho rfl (lt_of_blt hz) hT hE (hH.call h2) rfl (w v L' h1)
 ·exact wp ch L' h1 T R' β _ hT hE (hH.call h2)
variable {m : Nat} {Lf : LH} {td : List Nat} {V E0 : Env}
theorem DD.callP [S : Seat P] (e0 : Nat) {g : FuncId} {args : List Value} {xs : Array Operand} {ts : Array TypeId} {dst : Option Tmp} {ty : TypeId} {pos : String} {af : Array Edge} {gd : Option (Nat × Bool)} {H : List PanicEntry → LH → Prop} (ho : nth ops.toList e0 = some ⟨dst, .call { callee := .value (.func g), args := xs, argTypes := ts }, ty, pos, af, gd⟩) (h0 : Nat.blt e0 ops.size = true) (hn0 : inN td e0 = false) (hall : onlyN ops.toList td [e0] ops.size = true) (hg : guardOk (lookV ops.toList e0 V E0) ops.toList gd = some true)
  (ha : denA (lookV ops.toList e0 V E0) xs.toList = some args) (hs : Sp C.X g args L (fun _ _ => False) H) (wp : ∀ ch L', H ch L' → WM C n ds (.panicking ch) [] B L') : DD C S.τ n ds ops k m Lf td V E0 B L := by
 refine .pan e0 h0 hn0 hall ho hg fun T R β k' hT hE hH => ⟨rfl, ?_⟩
 have hx : xs.map (ev T) = args.toArray := by rw [← denA_ok hE ha, ← List.map_toArray]
 refine wpS_callP hx hs hH.le (fun v R' ⟨L', h1, h2⟩ => h1.elim) (fun ch R' ⟨L', h1, h2⟩ => ?_) _
 exact wp ch L' h1 T R' β _ hT (fun s x hx => by cases hx) (hH.call h2)
end
section
variable {P : Program} {C : Cx P} {E : Look} {B : List (Option Bx)} {L : LH} {dst : Option Tmp} {op : Op} {ty : TypeId} {pos : String} {af : Array Edge} {gd : Option (Nat × Bool)} {sv : SV}
def SameQ (B : List (Option Bx)) (L : LH) (sv sv' : SV) (B' : List (Option Bx)) (L' : LH) : Prop := sv' = sv ∧ B' = B ∧ L' = L
theorem Ef.val (hdf : isDefer op = false) (h : Vf P op E B L sv) : Ef C ⟨dst, op, ty, pos, af, gd⟩ E B L (SameQ B L sv) := by
 intro T R β hE hH
 obtain ⟨v, h1, h2⟩ := h T R β hE hH.boxes hH.le
 exact ⟨hdf, h2 ty _ _ _ _ _ _ ⟨sv, B, L, ⟨rfl, rfl, rfl⟩, h1, hH, fun _ _ => rfl⟩⟩
def noL : LH := fun _ => none
theorem noL_le (L : LH) : Le noL L := fun b x h => by cases h
end
theorem W.cut2 {P : Program} {C : Cx P} {n : Nat} {ds : List Deferred} {a b : Item} {k : List Item} {E : Env} {B : List (Option Bx)} {L : LH} (J : Env → List (Option Bx) → LH → Prop) (hJ : ∀ E B L, J E B L → W C n ds k E B L) (h : (∀ E' B' L', J E' B' L' → W C n ds k E' B' L') → W C n ds (a :: b :: k) E B L) : W C n ds (a :: b :: k) E B L := h hJ
theorem scL_v (m : Nat) : ∀ l : List Value, scL m (l.map SV.v) = true
 | [] => rfl
 | _ :: l => by rw [List.map_cons]; unfold scL; exact scL_v m l
theorem scB_v {m : Nat} {r : List (Option Bx)} (l : List Value) (t : TypeId) (h : scB m r = true) : scB m (some ⟨l.map SV.v, t⟩ :: r) = true := by
 unfold scB
 rw [scL_v]; exact h
end Go.Mz


namespace Go.Mz
open Go.Conc
section
variable {P : Program} {α : Type}
structure Yl (X : Logic P) (yv : Value) (enc : α → List Value) (xs : List α) (K : LH → Prop) (J : List α → LH → Prop) (Z : LH → Prop) : Prop where
 fn : ∃ a b c, yv = .func a b c
 inv : ∀ pre L, J pre L → K L
 yl : ∀ pre x post L, xs = pre ++ x :: post → J pre L → SpV X yv (enc x) L (fun v L' => (v = .bool true ∧ J (pre ++ [x]) L') ∨ (v = .bool false ∧ Z L'))
def Fra (J : List α → LH → Prop) (F : LH) (pre : List α) (L : LH) : Prop := ∃ L1, J pre L1 ∧ Le L1 L ∧ Le F L ∧ ∀ b, F b ≠ none → L1 b = none
def FraZ (Z : LH → Prop) (F : LH) (L : LH) : Prop := ∃ L1, Z L1 ∧ Le L1 L ∧ Le F L
variable {X : Logic P} {yv : Value} {enc : α → List Value} {xs : List α} {K : LH → Prop} {J : List α → LH → Prop} {Z : LH → Prop} {F L L2 : LH} {pre : List α}
theorem Fra.mono (h : Fra J F pre L) (hl : Le L L2) : Fra J F pre L2 := let ⟨L1, h1, h2, h3, h4⟩ := h; ⟨L1, h1, h2.trans hl, h3.trans hl, h4⟩
theorem Fra.zero (h : J pre L) : Fra J noL pre L := ⟨L, h, Le.refl _, noL_le _, fun _ h => absurd rfl h⟩
theorem le_put2 {F L : LH} (h : Le F L) (b : Nat) (o : Obj) : Le (F.put b o) (L.put b o) := fun b' x hx => by
 by_cases e : b' = b
 ·subst e; rw [put_same] at hx ⊢; exact hx
 ·rw [put_ne _ _ e] at hx ⊢; exact h b' x hx
theorem Fra.put (h : Fra J F pre L) {b : Nat} (hb : L b = none) (o : Obj) : Fra J (F.put b o) pre (L.put b o) := by
 obtain ⟨L1, h1, h2, h3, h4⟩ := h
 have hn := none_of_le h2 hb
 refine ⟨L1, h1, h2.trans (Le.put hb _), le_put2 h3 b o, fun b' hb' => ?_⟩
 by_cases e : b' = b
 ·subst e; exact hn
 ·rw [put_ne _ _ e] at hb'; exact h4 b' hb'
theorem Fra.set (h : Fra J F pre L) {b : Nat} (hb : F b ≠ none) (o : Obj) : Fra J (F.put b o) pre (L.put b o) := by
 obtain ⟨L1, h1, h2, h3, h4⟩ := h
 have hn := h4 b hb
 refine ⟨L1, h1, fun b' x hx => ?_, le_put2 h3 b o, fun b' hb' => ?_⟩
 ·rw [put_ne _ _ (fun e => by subst e; rw [hn] at hx; cases hx)]; exact h2 b' x hx
 ·by_cases e : b' = b
  ·subst e; exact hn
  ·rw [put_ne _ _ e] at hb'; exact h4 b' hb'
theorem Fra.less (h : Fra J F pre L) {F' : LH} (hF : Le F' F) : Fra J F' pre L := by
 obtain ⟨L1, h1, h2, h3, h4⟩ := h
 refine ⟨L1, h1, h2, hF.trans h3, fun b hb => h4 b ?_⟩
 cases hx : F' b with
 | none => exact absurd hx hb
 | some y => rw [hF b y hx]; simp
theorem Yl.frame (h : Yl X yv enc xs K J Z) (hK : ∀ L L', Le L L' → K L → K L') (F : LH) : Yl X yv enc xs (fun L => K L ∧ Le F L) (Fra J F) (FraZ Z F) where
 fn := h.fn
 inv := fun pre L ⟨L1, h1, h2, h3, _⟩ => ⟨hK _ _ h2 (h.inv _ _ h1), h3⟩
 yl := fun pre x post L hx ⟨L1, h1, h2, h3, h4⟩ => by
  refine ((h.yl pre x post L1 hx h1).frame h2).mono ?_
  rintro v L' ⟨L1', hq, hp⟩
  have hF : Le F L' := fun b y hy => hp.keep b y (h4 b (by rw [hy]; simp)) (h3 b y hy)
  rcases hq with ⟨e, hj⟩ | ⟨e, hz⟩
  ·refine .inl ⟨e, L1', hj, hp.le, hF, fun b hb => ?_⟩
   cases hx : L1' b with
   | none => rfl
   | some y =>
    rcases hp.fresh b (by rw [hx]; simp) with g | g
    ·exact absurd (h4 b hb) g
    ·cases hf : F b with
     | none => exact absurd hf hb
     | some z => rw [h3 b z hf] at g; cases g
  ·exact .inr ⟨e, L1', hz, hp.le, hF⟩
def Iter (X : Logic P) (g : FuncId) (cap : List Value) (enc : α → List Value) (xs : List α) (K : LH → Prop) : Prop :=
 ∀ (yv : Value) (J : List α → LH → Prop) (Z : LH → Prop) (L : LH), Yl X yv enc xs K J Z → J [] L → Sp X g (yv :: cap) L (fun v L' => v = .tuple #[] ∧ (Fra J noL xs L' ∨ FraZ Z noL L'))
end
theorem range_split {n k : Nat} (h : k < n) : List.range n = List.range k ++ k :: List.range' (k + 1) (n - k - 1) := by
 rw [List.range_eq_range', List.range_eq_range']
 have e : n = k + ((n - k - 1) + 1) := by omega
 conv => lhs; rw [e]
 rw [← List.range'_append_1, Nat.zero_add, List.range'_succ]
end Go.Mz

