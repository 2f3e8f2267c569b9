/- Lemmas on which the claim leans. -/
import Derived.Test.YtjhpkghkgaekcaaGreatDoorMzAc
import Derived.IntWalk
namespace Go.Mz
open Go.Conc
theorem args_size {args T : Array Value} {m n : Nat} (hT : T = args ++ Array.replicate (m - args.size) undef) (hm : m = n) (h : args.size ≤ n) : T.size = n := by
 subst hT hm
 simp
 omega
theorem none_of_le {L0 L : LH} {b : Nat} (h : Le L0 L) (hn : L b = none) : L0 b = none := by
 cases hx : L0 b with
 | none => rfl
 | some x => rw [h _ _ hx] at hn; cases hn
theorem agg_of {P : Program} {t : TypeId} {d : TypeDesc} {b : Bool} (h : P.underlying t = some d) (hb : aggD d = b) : aggB P t = some b := by
 unfold aggB
 rw [h, Option.map_some, hb]
theorem add_of (b off i : Nat) : Addr.add ⟨b, off, none⟩ i = ⟨b, off + i, none⟩ := by
 unfold Addr.add; split <;> simp_all
section
variable {T : Array Value} {x0 x1 x2 x3 x4 x5 : Operand} {v0 v1 v2 v3 v4 v5 : Value}
end
def SlAt {α : Type} (L : LH) (ad : Option Addr) (n : Nat) (enc : α → List Value) (l : List α) : Prop :=
 ∀ i x, l[i]? = some x → ∃ a, ad = some a ∧ ∀ j v, (enc x)[j]? = some v → L.cell? (a.add (i * n + j)) = some v
theorem SlAt.le {α : Type} {L L' : LH} {ad : Option Addr} {n : Nat} {enc : α → List Value} {l : List α} (h : SlAt L ad n enc l) (hl : Le L L') : SlAt L' ad n enc l :=
 fun i x hx => let ⟨a, h1, h2⟩ := h i x hx; ⟨a, h1, fun j v hv => hl.cell (h2 j v hv)⟩
theorem SlAt.addr {α : Type} {L : LH} {ad : Option Addr} {n : Nat} {enc : α → List Value} {l : List α} (h : SlAt L ad n enc l) {i : Nat} (hi : i < l.length) : ∃ a, ad = some a :=
 let ⟨a, h1, _⟩ := h i l[i] (List.getElem?_eq_getElem hi); ⟨a, h1⟩
theorem SlAt.get {α : Type} {L : LH} {a : Addr} {n : Nat} {enc : α → List Value} {l : List α} (h : SlAt L (some a) n enc l) {i : Nat} {x : α} (hx : l[i]? = some x) {j : Nat} {v : Value} (hv : (enc x)[j]? = some v) : L.cell? (a.add (i * n + j)) = some v := by
 obtain ⟨a', h1, h2⟩ := h i x hx
 cases h1
 exact h2 j v hv
theorem add_add (a : Addr) (i j : Nat) : (a.add i).add j = a.add (i + j) := by
 unfold Addr.add
 by_cases hi : i = 0
 ·subst hi; simp
 ·by_cases hj : j = 0
  ·subst hj; simp
  ·simp [hi, hj]; omega
def encI (x : Int) : List Value := [.int .i64 x]
abbrev IntsAt (L : LH) (ad : Option Addr) (l : List Int) : Prop := SlAt L ad 1 encI l
theorem SlAt.int {L : LH} {a : Addr} {l : List Int} (h : SlAt L (some a) 1 encI l) {i : Nat} {x : Int} (hx : l[i]? = some x) : L.cell? (a.add i) = some (.int .i64 x) := by
 have := h.get hx (j := 0) (v := .int .i64 x) rfl
 simpa using this
section
variable {P : Program} (X : Logic P)
variable {f : FuncId} {T : Array Value} {k : List Item} {ds : List Deferred} {kd : CallKind} {ro : Option Nat} {cs : List Frame} {L : LH}
theorem Logic.condT {c : Operand} {a b : Code} (ht : ev T c = .bool true) (h : X.Go (G (Fr f T (.code a :: k) ds .run kd ro) cs) L) : X.Go (G (Fr f T (.code (.cond c a b) :: k) ds .run kd ro) cs) L := X.cond ht h
theorem Logic.condF {c : Operand} {a b : Code} (ht : ev T c = .bool false) (h : X.Go (G (Fr f T (.code b :: k) ds .run kd ro) cs) L) : X.Go (G (Fr f T (.code (.cond c a b) :: k) ds .run kd ro) cs) L := X.cond ht h
end
theorem wrap64_in (n : Int) (h1 : -9223372036854775808 ≤ n) (h2 : n ≤ 9223372036854775807) : IntKind.i64.wrap n = n := IntWalk.i64_in n ⟨h1, by omega⟩
section
variable {P : Program} {T : Array Value} {L : LH} {ty t t2 : TypeId} {x y : Operand} {a b : Int}
end
theorem SlAt.whole {α : Type} {L : LH} {a : Addr} {n : Nat} {enc : α → List Value} {l : List α} (h : SlAt L (some a) n enc l) {i : Nat} {x : α} (hx : l[i]? = some x) (hn : (enc x).length = n) : cellsAt L (a.add (i * n)) n (enc x) :=
 ⟨hn, fun j v hv => by rw [add_add]; exact h.get hx hv⟩
section
variable {P : Program} {T : Array Value}
theorem wpS_mapList {L : LH} {H : Value → LH → Prop} : ∀ {fs : List Field} {pl : List (Nat × Nat)}, fs.map (fun f => ((P.info? f.type).map (·.size)).map (fun n => (f.offset, n))) = pl.map some → ∀ (Q : List (Nat × Nat) → LH → Prop),
  wpS P Q H (fs.mapM fun f => do pure (f.offset, ← sizeOf f.type)) L = Q pl L
 | [], [], _, Q => rfl
 | [], _ :: _, h, _ => by cases h
 | _ :: _, [], h, _ => by cases h
 | f :: fs, x :: pl, h, Q => by
  simp only [List.map_cons, List.cons.injEq] at h
  obtain ⟨h1, h2⟩ := h
  obtain ⟨n, hn, hx⟩ := Option.map_eq_some_iff.1 h1
  rw [List.mapM_cons, wpS_bind, wpS_bind, wpS_sizeOf hn]
  simp only [wpS_pure]
  rw [wpS_bind, wpS_mapList h2]
  simp only [wpS_pure]
  rw [hx]
theorem plc {f : Field} {n : Nat} {fs : List Field} {pl : List (Nat × Nat)} (h : (P.info? f.type).map (·.size) = some n) (hs : fs.map (fun f => ((P.info? f.type).map (·.size)).map (fun n => (f.offset, n))) = pl.map some) :
  (f :: fs).map (fun f => ((P.info? f.type).map (·.size)).map (fun n => (f.offset, n))) = ((f.offset, n) :: pl).map some := by
 rw [List.map_cons, List.map_cons, h, hs]; rfl
theorem places {L : LH} {fs : Array Field} {pl : List (Nat × Nat)} (h : fs.toList.map (fun f => ((P.info? f.type).map (·.size)).map (fun n => (f.offset, n))) = pl.map some) (Q : Array (Nat × Nat) → LH → Prop) (H : Value → LH → Prop) :
  wpS P Q H (fs.mapM fun f => do pure (f.offset, ← sizeOf f.type)) L = Q pl.toArray L := by
 rw [Array.mapM_eq_mapM_toList, ← bind_pure_comp, wpS_bind, wpS_mapList h]
 simp only [wpS_pure]
variable {x0 x1 x2 x3 x4 x5 : Operand} {v0 v1 v2 v3 v4 v5 : Value} {i0 i1 i2 i3 i4 i5 : Nat}
end
end Go.Mz


namespace Go.Mz
open Go.Conc
def always (e : Edge) : Bool := match e.ground with
 | .textOnly _ | .gcOnly _ => false
 | _ => true
def depsOf (ops : Array Oper) (i : Nat) : List Nat := match ops[i]? with
 | some o => (o.after.toList.filter always).map (·.on)
 | none => []
inductive Lin (ops : Array Oper) : List Nat → List Nat → Prop
 | nil {S : List Nat} (h : ∀ i, i < ops.size → i ∈ S) : Lin ops S []
 | cons {S : List Nat} {i : Nat} {l : List Nat} (hi : i < ops.size) (hn : i ∉ S) (hd : ∀ j ∈ depsOf ops i, j ∈ S) (h : Lin ops (i :: S) l) : Lin ops S (i :: l)
def ranked (m : Region.Mode) (ops : Array Oper) (rk : Nat → Nat) : Bool :=
 (List.range ops.size).all fun i => match ops[i]? with
  | some o => o.after.toList.all fun e => !Region.binds m e || (decide (rk e.on < rk i) && decide (e.on < ops.size))
  | none => true
theorem exists_min {p : Nat → Bool} (rk : Nat → Nat) {n : Nat} (h : ∃ i, i < n ∧ p i = true) : ∃ i, i < n ∧ p i = true ∧ ∀ j, j < n → p j = true → rk i ≤ rk j := by
 obtain ⟨i, hi, hp⟩ := h
 have key : ∀ k i, rk i = k → i < n → p i = true → ∃ i, i < n ∧ p i = true ∧ ∀ j, j < n → p j = true → rk i ≤ rk j := by
  intro k
  induction k using Nat.strongRecOn with
  | ind k ih =>
   intro i hk hi hp
   by_cases hx : ∃ j, j < n ∧ p j = true ∧ rk j < rk i
   ·obtain ⟨j, hj, hpj, hlt⟩ := hx
    exact ih (rk j) (by omega) j rfl hj hpj
   ·refine ⟨i, hi, hp, fun j hj hpj => ?_⟩
    by_cases hlt : rk j < rk i
    ·exact absurd ⟨j, hj, hpj, hlt⟩ hx
    ·omega
 exact key _ i rfl hi hp
theorem nodup_len : ∀ (S T : List Nat), S.Nodup → S ⊆ T → S.length ≤ T.length
 | [], _, _, _ => Nat.zero_le _
 | a :: S, T, hn, hs => by
  obtain ⟨h1, h2⟩ := List.nodup_cons.1 hn
  have ha : a ∈ T := hs List.mem_cons_self
  have := nodup_len S (T.erase a) h2 (fun x hx => by
   have hne : x ≠ a := fun e => by subst e; exact h1 hx
   exact (List.mem_erase_of_ne hne).2 (hs (List.mem_cons_of_mem _ hx)))
  rw [List.length_erase_of_mem ha] at this
  have hpos : 0 < T.length := List.length_pos_of_mem ha
  simp only [List.length_cons]
  omega
theorem lin_go {m : Region.Mode} {ops : Array Oper} {rk : Nat → Nat} (hr : ranked m ops rk = true) (hm : ∀ e, always e = true → Region.binds m e = true) :
  ∀ (fuel t : Nat) (listed : Array Bool) (acc S : List Nat), listed.size = ops.size → (∀ i, i < ops.size → (listed.getD i true = true ↔ i ∈ S)) → S.length + fuel = ops.size → S.Nodup → (∀ i ∈ S, i < ops.size) →
   ∃ l, Region.linearise.go m ops fuel t listed acc = acc.reverse ++ l ∧ Lin ops S l := by
 intro fuel
 induction fuel with
 | zero =>
  intro t listed acc S hs hl hf hnd hlt
  refine ⟨[], by simp [Region.linearise.go], .nil fun i hi => ?_⟩
  -- S holds ops.size different numbers below ops.size
  have hfull : ∀ (n : Nat) (S : List Nat), S.Nodup → (∀ i ∈ S, i < n) → S.length = n → ∀ i, i < n → i ∈ S := by
   intro n
   induction n with
   | zero => intro S _ _ _ i hi; omega
   | succ n ihn =>
    intro S hnd hlt hlen i hi
    by_cases hmem : n ∈ S
    ·by_cases hin : i = n
     ·subst hin; exact hmem
     ·have hlen' : (S.erase n).length = n := by rw [List.length_erase_of_mem hmem]; omega
      have := ihn (S.erase n) (hnd.erase n) (fun j hj => by
       have h1 := hlt j (List.mem_of_mem_erase hj)
       have h2 : j ≠ n := fun e => by subst e; exact (List.Nodup.not_mem_erase hnd) hj
       omega) hlen' i (by omega)
      exact List.mem_of_mem_erase this
    ·exfalso
     have hlt' : ∀ j ∈ S, j < n := fun j hj => by
      have h1 := hlt j hj
      have h2 : j ≠ n := fun e => by subst e; exact hmem hj
      omega
     have : S.length ≤ n := by
      have hsub : S ⊆ List.range n := fun j hj => List.mem_range.2 (hlt' j hj)
      have := nodup_len _ _ hnd hsub
      simpa using this
     omega
  exact hfull ops.size S hnd hlt (by omega) i hi
 | succ fuel ih =>
  intro t listed acc S hs hl hf hnd hlt
  simp only [Region.linearise.go]
  generalize hrs : (List.range ops.size).filter (fun i => !listed.getD i true && ((ops[i]?).map (·.after.all fun e => !Region.binds m e || listed.getD e.on false)).getD false) = rs
  -- some operation is free
  have hne : rs ≠ [] := by
   have hex : ∃ i, i < ops.size ∧ (!listed.getD i true) = true := by
    have hnot : ¬ ∀ i, i < ops.size → i ∈ S := by
     intro hall
     have : ops.size ≤ S.length := by
      have hsub : List.range ops.size ⊆ S := fun j hj => hall j (List.mem_range.1 hj)
      have := nodup_len _ _ List.nodup_range hsub
      simpa using this
     omega
    simp only [Classical.not_forall] at hnot
    obtain ⟨i, hi, hni⟩ := hnot
    refine ⟨i, hi, ?_⟩
    have := mt (hl i hi).1 hni
    simpa using this
   obtain ⟨i, hi, hp, hmin⟩ := exists_min rk hex
   have hmem : i ∈ rs := by
    rw [← hrs]
    refine List.mem_filter.2 ⟨List.mem_range.2 hi, ?_⟩
    rw [hp, Bool.true_and]
    have hoi : ops[i]? = some ops[i] := Array.getElem?_eq_getElem hi
    rw [hoi]
    simp only [Option.map_some, Option.getD_some]
    rw [← Array.all_toList]
    refine List.all_eq_true.2 fun e he => ?_
    have hr' := List.all_eq_true.1 hr i (List.mem_range.2 hi)
    rw [hoi] at hr'
    have hr2 := List.all_eq_true.1 hr' e he
    cases hb : Region.binds m e with
    | false => rfl
    | true =>
     rw [hb] at hr2
     simp only [Bool.not_true, Bool.false_or, Bool.and_eq_true, decide_eq_true_eq] at hr2
     simp only [Bool.not_true, Bool.false_or]
     by_cases hle : listed.getD e.on true = true
     ·have : e.on < listed.size := by omega
      simp only [Array.getD, this, dif_pos] at hle ⊢
      exact hle
     ·have := hmin e.on hr2.2 (by simpa using hle)
      omega
   intro h0
   rw [h0] at hmem
   cases hmem
  have hpos : 0 < rs.length := List.length_pos_iff.2 hne
  have hlt' : t % rs.length < rs.length := Nat.mod_lt _ hpos
  rw [List.getElem?_eq_getElem hlt']
  simp only
  have hmem := List.getElem_mem hlt'
  generalize rs[t % rs.length] = i at hmem
  rw [← hrs] at hmem
  obtain ⟨hi, hfree⟩ := List.mem_filter.1 hmem
  have hi := List.mem_range.1 hi
  simp only [Bool.and_eq_true, Bool.not_eq_true'] at hfree
  have hni : i ∉ S := fun h => by
   have := (hl i hi).2 h
   rw [hfree.1] at this
   cases this
  have hoi : ops[i]? = some ops[i] := Array.getElem?_eq_getElem hi
  have hdeps : ∀ j ∈ depsOf ops i, j ∈ S := by
   intro j hj
   unfold depsOf at hj
   rw [hoi] at hj
   obtain ⟨e, he, rfl⟩ := List.mem_map.1 hj
   obtain ⟨he, ha⟩ := List.mem_filter.1 he
   have h2 := hfree.2
   rw [hoi] at h2
   simp only [Option.map_some, Option.getD_some] at h2
   rw [← Array.all_toList] at h2
   have h3 := List.all_eq_true.1 h2 e he
   rw [hm e ha] at h3
   simp only [Bool.not_true, Bool.false_or] at h3
   by_cases hlt2 : e.on < listed.size
   ·refine (hl e.on (by omega)).1 ?_
    simp only [Array.getD, hlt2, dif_pos] at h3 ⊢
    exact h3
   ·simp only [Array.getD, hlt2, dif_neg, not_false_eq_true] at h3
    cases h3
  obtain ⟨l, h1, h2⟩ := ih (t / rs.length) (listed.setIfInBounds i true) (i :: acc) (i :: S) (by simpa using hs) (fun j hj => by
   by_cases hij : j = i
   ·subst hij
    have : j < listed.size := by omega
    simp [Array.getD, this]
   ·have := hl j hj
    have e : (listed.setIfInBounds i true).getD j true = listed.getD j true := by
     rw [Array.getD_eq_getD_getElem?, Array.getD_eq_getD_getElem?, Array.getElem?_setIfInBounds_ne (Ne.symm hij)]
    rw [e, this]
    simp [hij]) (by simp; omega) (List.nodup_cons.2 ⟨hni, hnd⟩) (fun j hj => by
   rcases List.mem_cons.1 hj with rfl | hj
   ·exact hi
   ·exact hlt j hj)
  refine ⟨i :: l, ?_, .cons hi hni hdeps h2⟩
  rw [h1]
  simp
theorem lin_linearise {m : Region.Mode} {ops : Array Oper} {rk : Nat → Nat} (hr : ranked m ops rk = true) (hm : ∀ e, always e = true → Region.binds m e = true) (t : Nat) : Lin ops [] (Region.linearise m ops t) := by
 obtain ⟨l, h1, h2⟩ := lin_go hr hm ops.size t (Array.replicate ops.size false) [] [] (by simp) (fun i hi => by simp [Array.getD, hi]) (by simp) List.nodup_nil (by simp)
 unfold Region.linearise
 rw [h1]
 simpa using h2
theorem always_binds {m : Region.Mode} {e : Edge} (h : always e = true) : Region.binds m e = true := by
 cases hg : e.ground <;> simp only [always, hg, Bool.false_eq_true] at h <;> simp only [Region.binds, hg]
theorem lin_schedule {mixed : Bool} {ops : Array Oper} {r1 r2 r3 : Nat → Nat} (h1 : ranked .any ops r1 = true) (h2 : ranked .text ops r2 = true) (h3 : ranked .gc ops r3 = true) (t : Nat) : Lin ops [] (Region.schedule mixed ops t) := by
 unfold Region.schedule
 split
 ·exact lin_linearise h1 (fun _ h => always_binds h) t
 ·split
  ·exact lin_linearise h2 (fun _ h => always_binds h) _
  ·exact lin_linearise h3 (fun _ h => always_binds h) _
def dstOf (ops : Array Oper) (k : Nat) : Option Nat := (ops[k]?).bind (·.dst)
def distinctDst (ops : Array Oper) : Bool := (List.range ops.size).all fun i => (List.range ops.size).all fun j => i == j || (dstOf ops i).isNone || !(dstOf ops i == dstOf ops j)
def Yld (P : Program) (ops : Array Oper) (T : Array Value) (L : LH) (o : Oper) (v : Value) : Prop :=
 (Region.wanted o (yielded ops T) = true ∧ isDefer o.op = false ∧ Val P o.op o.type T L v) ∨ (Region.wanted o (yielded ops T) = false ∧ v = undef)
def FnF {P : Program} (X : Logic P) (fr : Frame) (L : LH) (Q : Value → LH → Prop) : Prop :=
 ∀ (c : Frame) (cs : List Frame), (∀ v L', Q v L' → X.Go (G (c.finish v) cs) L') → X.Go (G fr (c :: cs)) L
theorem FnF.mono {P : Program} {X : Logic P} {fr : Frame} {L : LH} {Q Q' : Value → LH → Prop} (h : FnF X fr L Q) (hq : ∀ v L', Q v L' → Q' v L') : FnF X fr L Q' := fun c cs h1 => h c cs fun v L' x => h1 v L' (hq v L' x)
def EffW {P : Program} (X : Logic P) (o : Oper) (T : Array Value) (L : LH) (K : Value → LH → Prop) : Prop :=
 isDefer o.op = false ∧ wpS P (fun nx L' => match nx with
  | .value v => K v L'
  | .skip => K undef L'
  | .enter g args => ∃ Q : Value → LH → Prop, Fn X g args L' Q ∧ ∀ v L'', Q v L'' → K v L''
  | .round l g tmps asg body => ∃ Q : Value → LH → Prop, FnF X (Frame.round l g tmps asg body .normal) L' Q ∧ ∀ v L'', Q v L'' → K v L''
  | _ => False) (fun _ _ => False) (execOp (ev T) o) L
section
variable {P : Program} {X : Logic P} {ops : Array Oper} {T0 : Array Value} {R : LH → LH → Prop} {fin : Array Value → LH → Prop}
variable {f : FuncId} {k : List Item} {ds : List Deferred} {kd : CallKind} {ro : Option Nat} {cs : List Frame}
theorem exec_yld {i : Nat} {l : List Nat} {T : Array Value} {L : LH} {o : Oper} {v : Value} (ho : ops[i]? = some o) (hy : Yld P ops T L o v)
  (h : ∀ T', (match o.dst with | some d => d < T.size → Upd T T' d v | none => T' = T) → X.Go (G (Fr f T' (.inRegion ops l :: k) ds .run kd ro) cs) L) : X.Go (G (Fr f T (.inRegion ops (i :: l) :: k) ds .run kd ro) cs) L := by
 have key : ∀ v', v' = v → X.Go (G ((Fr f T (.inRegion ops (i :: l) :: k) ds .run kd ro).finish v') cs) L := by
  rintro v' rfl
  cases hd : o.dst with
  | none => rw [finish_none ho hd]; exact h T (by rw [hd])
  | some d => rw [finish_some ho hd]; exact h _ (by rw [hd]; exact fun hz => upd_set _ hz)
 rcases hy with ⟨hw, hdf, hv⟩ | ⟨hw, rfl⟩
 ·refine X.op ho hw (.inr fun c hc => by rw [hc] at hdf; cases hdf) ?_
  obtain ⟨dst, op, ty, pos, af, gd⟩ := o
  exact hv _ _ _ _ _ _ (key _ rfl)
 ·refine X.unwanted ?_ (key _ rfl)
  rw [ho]
  simpa using hw
end
def dstBelow (ops : Array Oper) (n : Nat) : Bool := (List.range ops.size).all fun i => match dstOf ops i with | some d => decide (d < n) | none => true
section
variable {P : Program} {X : Logic P}
end
theorem singles {l : List Value} (h : l.all single = true) : ∀ u ∈ l, single u = true := fun u hu => List.all_eq_true.1 h u hu
section
variable {P : Program} {X : Logic P} {T : Array Value} {L : LH} {t ty : TypeId} {x y : Operand} {v : Value}
end
end Go.Mz


namespace Go.Mz
open Go.Conc
inductive SV where
 | v (x : Value)
 | p (k off : Nat)
 | a (l : List SV)
 | f (fn : Go.Fn) (first caps : List SV)
 | i (t : TypeId) (x : SV)
 | lit (b : Bool)
 | sl (k off len cap : Nat)
abbrev Nm := Nat → Option Nat
def nm0 : Nm := fun _ => none
mutual
def den (β : Nm) : SV → Option Value
 | .v x => some x
 | .p k off => match β k with | some b => some (.pointer (some ⟨b, off, none⟩)) | none => none
 | .a l => match denL β l with | some vs => some (.agg vs.toArray) | none => none
 | .f fn f1 f2 => match denL β f1, denL β f2 with | some a, some b => some (.func fn a.toArray b.toArray) | _, _ => none
 | .i t x => match den β x with | some v => some (.iface t v) | none => none
 | .lit b => some (.bool b)
 | .sl k off len cap => match β k with | some b => some (.slice (some ⟨b, off, none⟩) len cap) | none => none
def denL (β : Nm) : List SV → Option (List Value)
 | [] => some []
 | x :: l => match den β x, denL β l with | some v, some vs => some (v :: vs) | _, _ => none
end
def NmLe (β γ : Nm) : Prop := ∀ k b, β k = some b → γ k = some b
mutual
theorem den_mono {β γ : Nm} (hm : NmLe β γ) : ∀ {x : SV} {v : Value}, den β x = some v → den γ x = some v
 | .v x, v, h => h
 | .p k off, v, h => by
  unfold den at h ⊢
  cases hk : β k with
  | none => rw [hk] at h; cases h
  | some c => rw [hk] at h; rw [hm k c hk]; exact h
 | .a l, v, h => by
  unfold den at h ⊢
  cases hl : denL β l with
  | none => rw [hl] at h; cases h
  | some vs => rw [hl] at h; rw [denL_mono hm hl]; exact h
 | .f fn f1 f2, v, h => by
  unfold den at h ⊢
  cases h1 : denL β f1 with
  | none => rw [h1] at h; cases h
  | some vs1 =>
   cases h2 : denL β f2 with
   | none => rw [h1, h2] at h; cases h
   | some vs2 => rw [h1, h2] at h; rw [denL_mono hm h1, denL_mono hm h2]; exact h
 | .i t x, v, h => by
  unfold den at h ⊢
  cases hx : den β x with
  | none => rw [hx] at h; cases h
  | some u => rw [hx] at h; rw [den_mono hm hx]; exact h
 | .lit _, v, h => h
 | .sl k off len cap, v, h => by
  unfold den at h ⊢
  cases hk : β k with
  | none => rw [hk] at h; cases h
  | some c => rw [hk] at h; rw [hm k c hk]; exact h
theorem denL_mono {β γ : Nm} (hm : NmLe β γ) : ∀ {l : List SV} {vs : List Value}, denL β l = some vs → denL γ l = some vs
 | [], vs, h => h
 | x :: l, vs, h => by
  unfold denL at h ⊢
  cases hx : den β x with
  | none => rw [hx] at h; cases h
  | some u =>
   cases hl : denL β l with
   | none => rw [hx, hl] at h; cases h
   | some us => rw [hx, hl] at h; rw [den_mono hm hx, denL_mono hm hl]; exact h
end
theorem nm0_le (β : Nm) : NmLe nm0 β := fun k b h => by cases h
theorem den_nil {x : SV} {v : Value} (h : den nm0 x = some v) (β : Nm) : den β x = some v := den_mono (nm0_le β) h
theorem denL_nil {x : List SV} {v : List Value} (h : denL nm0 x = some v) (β : Nm) : denL β x = some v := denL_mono (nm0_le β) h
def Nm.set (β : Nm) (k b : Nat) : Nm := fun k' => if k' = k then some b else β k'
theorem Nm.set_same (β : Nm) (k b : Nat) : β.set k b k = some b := by simp [Nm.set]
theorem Nm.set_ne (β : Nm) {k k' : Nat} (b : Nat) (h : k' ≠ k) : β.set k b k' = β k' := by simp [Nm.set, h]
theorem Nm.set_le {β : Nm} {k : Nat} (h : β k = none) (b : Nat) : NmLe β (β.set k b) := fun k' c hc => by
 rw [Nm.set_ne β b (fun e => by subst e; rw [h] at hc; cases hc)]; exact hc
theorem denL_length {β : Nm} : ∀ {l : List SV} {vs : List Value}, denL β l = some vs → vs.length = l.length
 | [], vs, h => by cases h; rfl
 | x :: l, vs, h => by
  unfold denL at h
  cases hx : den β x with
  | none => rw [hx] at h; cases h
  | some u =>
   cases hl : denL β l with
   | none => rw [hx, hl] at h; cases h
   | some us => rw [hx, hl] at h; cases h; simp [denL_length hl]
theorem denL_cons {β : Nm} {x : SV} {l : List SV} {vs : List Value} (h : denL β (x :: l) = some vs) : ∃ v ws, den β x = some v ∧ denL β l = some ws ∧ vs = v :: ws := by
 unfold denL at h
 cases hx : den β x with
 | none => rw [hx] at h; cases h
 | some u =>
  cases hl : denL β l with
  | none => rw [hx, hl] at h; cases h
  | some us => rw [hx, hl] at h; cases h; exact ⟨u, us, rfl, rfl, rfl⟩
theorem denL_cons' {β : Nm} {x : SV} {l : List SV} {v : Value} {ws : List Value} (h1 : den β x = some v) (h2 : denL β l = some ws) : denL β (x :: l) = some (v :: ws) := by
 unfold denL; rw [h1, h2]
def nth {α : Type} : List α → Nat → Option α
 | [], _ => none
 | x :: _, 0 => some x
 | _ :: l, n + 1 => nth l n
theorem nth_eq {α : Type} : ∀ (l : List α) (n : Nat), nth l n = l[n]?
 | [], _ => by simp [nth]
 | _ :: _, 0 => by simp [nth]
 | _ :: l, n + 1 => by simp [nth, nth_eq l n]
theorem denL_nth {β : Nm} : ∀ {l : List SV} {vs : List Value} {n : Nat} {x : SV}, denL β l = some vs → nth l n = some x → ∃ v, den β x = some v ∧ vs[n]? = some v
 | [], _, _, _, _, h => by cases h
 | x :: l, vs, 0, y, h, hn => by
  cases hn
  obtain ⟨v, ws, h1, _, rfl⟩ := denL_cons h
  exact ⟨v, h1, rfl⟩
 | x :: l, vs, n + 1, y, h, hn => by
  obtain ⟨v, ws, _, h2, rfl⟩ := denL_cons h
  obtain ⟨u, hu, hi⟩ := denL_nth h2 hn
  exact ⟨u, hu, by simpa using hi⟩
def part {α : Type} (l : List α) : Nat → Nat → Option (List α)
 | _, 0 => some []
 | i, n + 1 => match nth l i, part l (i + 1) n with | some x, some r => some (x :: r) | _, _ => none
theorem part_length {α : Type} {l : List α} : ∀ {n i : Nat} {r : List α}, part l i n = some r → r.length = n
 | 0, _, _, h => by cases h; rfl
 | n + 1, i, r, h => by
  unfold part at h
  cases hx : nth l i with
  | none => rw [hx] at h; cases h
  | some x =>
   cases hr : part l (i + 1) n with
   | none => rw [hx, hr] at h; cases h
   | some r' => rw [hx, hr] at h; cases h; simp [part_length hr]
theorem denL_part {β : Nm} {l : List SV} {vs : List Value} (h : denL β l = some vs) : ∀ {n i : Nat} {r : List SV}, part l i n = some r → ∃ ws, denL β r = some ws ∧ ∀ j v, ws[j]? = some v → vs[i + j]? = some v
 | 0, i, r, hr => by cases hr; exact ⟨[], rfl, fun j v hj => by simp at hj⟩
 | n + 1, i, r, hr => by
  unfold part at hr
  cases hx : nth l i with
  | none => rw [hx] at hr; cases hr
  | some x =>
   cases hr' : part l (i + 1) n with
   | none => rw [hx, hr'] at hr; cases hr
   | some r' =>
    rw [hx, hr'] at hr; cases hr
    obtain ⟨v, h1, h2⟩ := denL_nth h hx
    obtain ⟨ws, h3, h4⟩ := denL_part h hr'
    refine ⟨v :: ws, denL_cons' h1 h3, fun j u hj => ?_⟩
    cases j with
    | zero => simp at hj; subst hj; exact h2
    | succ j => have := h4 j u (by simpa using hj); rw [show i + (j + 1) = i + 1 + j by omega]; exact this
abbrev Env := List (Nat × SV)
def get : Env → Nat → Option SV
 | [], _ => none
 | (k, x) :: r, s => match Nat.beq k s with | true => some x | false => get r s
theorem get_cons {k s : Nat} {x : SV} {r : Env} : get ((k, x) :: r) s = if k = s then some x else get r s := by
 show (match Nat.beq k s with | true => some x | false => get r s) = _
 by_cases h : k = s
 ·subst h; simp
 ·have : Nat.beq k s = false := by
   cases hb : Nat.beq k s
   ·rfl
   ·exact absurd (Nat.eq_of_beq_eq_true hb) h
  rw [this, if_neg h]
def svC : Value → SV
 | .bool b => .lit b
 | x => .v x
theorem den_svC (β : Nm) (x : Value) : den β (svC x) = some x := by cases x <;> rfl
abbrev Look := Nat → Option SV
def evS (E : Look) : Operand → Option SV
 | .tmp t => E t
 | .const v => some (svC v)
 | .global g => some (.v (.pointer (some ⟨g, 0, none⟩)))
 | .func f => some (.f (.func f) [] [])
def evSL (E : Look) : List Operand → Option (List SV)
 | [] => some []
 | x :: l => match evS E x, evSL E l with | some v, some vs => some (v :: vs) | _, _ => none
def EnvOk (β : Nm) (E : Look) (T : Array Value) : Prop := ∀ s x, E s = some x → den β x = some (T.getD s undef)
theorem EnvOk.val {β : Nm} {E : Look} {T : Array Value} (h : EnvOk β E T) {x : Operand} {sv : SV} (hx : evS E x = some sv) : den β sv = some (ev T x) := by
 cases x with
 | tmp t => exact h t sv hx
 | const v => cases hx; exact den_svC β v
 | global g => cases hx; rfl
 | func f => cases hx; rfl
theorem EnvOk.vals {β : Nm} {E : Look} {T : Array Value} (h : EnvOk β E T) : ∀ {xs : List Operand} {svs : List SV}, evSL E xs = some svs → denL β svs = some (xs.map (ev T))
 | [], svs, hx => by cases hx; rfl
 | x :: xs, svs, hx => by
  unfold evSL at hx
  cases h1 : evS E x with
  | none => rw [h1] at hx; cases hx
  | some u =>
   cases h2 : evSL E xs with
   | none => rw [h1, h2] at hx; cases hx
   | some us => rw [h1, h2] at hx; cases hx; exact denL_cons' (h.val h1) (h.vals h2)
theorem EnvOk.mono {β γ : Nm} {E : Look} {T : Array Value} (h : EnvOk β E T) (hm : NmLe β γ) : EnvOk γ E T := fun s x hx => den_mono hm (h s x hx)
theorem EnvOk.set {β : Nm} {E : Env} {T T' : Array Value} (h : EnvOk β (get E) T) {d : Nat} {sv : SV} {v : Value} (hd : den β sv = some v) (u : Upd T T' d v) : EnvOk β (get ((d, sv) :: E)) T' := by
 intro s x hx
 rw [get_cons] at hx
 by_cases e : d = s
 ·subst e
  rw [if_pos rfl] at hx; cases hx
  rw [u.same]; exact hd
 ·rw [if_neg e] at hx
  rw [u.other s (by simpa using Ne.symm e)]
  exact h s x hx
inductive TD where
 | slice (e : TypeId)
 | arr (n : Nat) (e : TypeId)
 | str (fs : List (Nat × TypeId))
 | int (k : IntKind)
 | bool
 | ptr (e : TypeId)
 | iface
 | text
 | other
structure TI where
 agg : Bool
 size : Nat
 bytes : Nat
 z : Value
 d : TD
inductive TT where
 | nil
 | node (l : TT) (k : Nat) (i : TI) (r : TT)
def TT.find : TT → Nat → Option TI
 | .nil, _ => none
 | .node l k i r, t => match Nat.beq k t with | true => some i | false => match Nat.blt t k with | true => l.find t | false => r.find t
def tdOk (P : Program) (t : TypeId) : TD → Prop
 | .slice e => P.underlying t = some (.slice e)
 | .arr n e => P.underlying t = some (.array n e)
 | .str fs => ∃ gs : Array Field, P.underlying t = some (.struct gs) ∧ gs.toList.map (fun g => (g.offset, g.type)) = fs
 | .int k => P.underlying t = some (.int k)
 | .bool => P.underlying t = some .bool
 | .ptr e => P.underlying t = some (.pointer e)
 | .iface => ∃ ms, P.underlying t = some (.interface ms)
 | .text => P.underlying t = some .string
 | .other => ∃ d, P.underlying t = some d ∧ (∀ ms, d ≠ .interface ms)
structure TIOk (P : Program) (t : TypeId) (i : TI) : Prop where
 agg : aggB P t = some i.agg
 size : (P.info? t).map (·.size) = some i.size
 bytes : (P.info? t).map (·.bytes) = some i.bytes
 zero : (P.info? t).bind (·.zero) = some i.z
 d : tdOk P t i.d
def TT.Ok (P : Program) : TT → Prop
 | .nil => True
 | .node l k i r => l.Ok P ∧ TIOk P k i ∧ r.Ok P
theorem TT.find_ok {P : Program} : ∀ {τ : TT} {t : TypeId} {i : TI}, τ.Ok P → τ.find t = some i → TIOk P t i
 | .nil, _, _, _, h => by cases h
 | .node l k i r, t, j, ho, h => by
  unfold TT.find at h
  cases hb : Nat.beq k t with
  | true =>
   rw [hb] at h; cases h
   obtain rfl := Nat.eq_of_beq_eq_true hb
   exact ho.2.1
  | false =>
   rw [hb] at h
   simp only at h
   cases hc : Nat.blt t k with
   | true => rw [hc] at h; exact TT.find_ok ho.1 h
   | false => rw [hc] at h; exact TT.find_ok ho.2.2 h
theorem TIOk.und {P : Program} {t : TypeId} {i : TI} (h : TIOk P t i) : ∃ d, P.underlying t = some d := by
 have := h.agg
 unfold aggB at this
 cases hu : P.underlying t with
 | none => rw [hu] at this; cases this
 | some d => exact ⟨d, rfl⟩
def TD.conc : TD → Bool
 | .iface => false
 | _ => true
theorem TIOk.conc {P : Program} {t : TypeId} {i : TI} (h : TIOk P t i) (hc : i.d.conc = true) : ∃ d, P.underlying t = some d ∧ ∀ ms, d ≠ .interface ms := by
 have := h.d
 revert hc this
 cases i.d <;> intro hc hd <;> simp only [tdOk] at hd <;> first
  | (exact hd)
  | (exact ⟨_, hd, fun _ e => by cases e⟩)
  | (obtain ⟨gs, h1, _⟩ := hd; exact ⟨_, h1, fun _ e => by cases e⟩)
  | cases hc
end Go.Mz


namespace Go.Mz
open Go.Conc
structure Bx where
 cells : List SV
 ty : TypeId
structure HeapOk (L0 R0 : LH) (β : Nm) (B : List (Option Bx)) (L R : LH) : Prop where
 inj : ∀ (k k' b : Nat), β k = some b → β k' = some b → k = k'
 dm : ∀ (k b : Nat), β k = some b → k < B.length
 al : ∀ (k b : Nat), β k = some b → R b ≠ none
 box : ∀ (k b : Nat) (x : Bx), β k = some b → B[k]? = some (some x) → L b = none ∧ R0 b = none ∧ ∃ cs, denL β x.cells = some cs ∧ R b = some (.cells cs.toArray x.ty (0, 0), true)
 le : Le L R
 keep : ∀ b x, L0 b = none → R0 b = some x → R b = some x
 fresh : ∀ b, L b ≠ none → L0 b ≠ none ∨ R0 b = none
 dom : ∀ b, L0 b ≠ none → L b ≠ none
theorem HeapOk.free {L0 R0 : LH} {β : Nm} {B : List (Option Bx)} {L R : LH} (h : HeapOk L0 R0 β B L R) {b : Nat} (hb : R b = none) : L b = none ∧ R0 b = none := by
 have hL : L b = none := none_of_le h.le hb
 refine ⟨hL, ?_⟩
 cases hx : R0 b with
 | none => rfl
 | some x =>
  cases hy : L0 b with
  | none => rw [h.keep b x hy hx] at hb; cases hb
  | some y => exact absurd hL (h.dom b (by rw [hy]; simp))
theorem HeapOk.name {L0 R0 : LH} {β : Nm} {B : List (Option Bx)} {L R : LH} (h : HeapOk L0 R0 β B L R) {b k : Nat} (hb : R b = none) {x : Bx} {cs : List Value} (hk : β k = none) (hx : B[k]? = some (some x)) (hc : denL β x.cells = some cs) : HeapOk L0 R0 (β.set k b) B L (R.put b (.cells cs.toArray x.ty)) := by
 obtain ⟨h1, h2⟩ := h.free hb
 have hm := Nm.set_le hk b
 have old : ∀ k' c, β.set k b k' = some c → (k' = k ∧ c = b) ∨ (β k' = some c ∧ c ≠ b) := fun k' c hc => by
  by_cases e : k' = k
  ·subst e; rw [Nm.set_same] at hc; cases hc; exact .inl ⟨rfl, rfl⟩
  ·rw [Nm.set_ne β b e] at hc
   exact .inr ⟨hc, fun e' => by subst e'; exact h.al k' c hc hb⟩
 refine ⟨fun k1 k2 c e1 e2 => ?_, fun k' c e => ?_, fun k' c e => ?_, fun k' c y e hy => ?_, ?_, ?_, h.fresh, h.dom⟩
 ·rcases old k1 c e1 with ⟨a1, a2⟩ | ⟨a1, a2⟩ <;> rcases old k2 c e2 with ⟨b1, b2⟩ | ⟨b1, b2⟩
  ·rw [a1, b1]
  ·exact absurd a2 b2
  ·exact absurd b2 a2
  ·exact h.inj _ _ _ a1 b1
 ·rcases old k' c e with ⟨a1, _⟩ | ⟨a1, _⟩
  ·subst a1; exact (List.getElem?_eq_some_iff.1 hx).1
  ·exact h.dm _ _ a1
 ·rcases old k' c e with ⟨_, a2⟩ | ⟨a1, a2⟩
  ·subst a2; rw [put_same]; simp
  ·rw [put_ne _ _ a2]; exact h.al _ _ a1
 ·rcases old k' c e with ⟨a1, a2⟩ | ⟨a1, a2⟩
  ·subst a1 a2
   rw [hx] at hy; cases hy
   exact ⟨h1, h2, cs, denL_mono hm hc, put_same _ _ _⟩
  ·obtain ⟨e1, e2, cs', e3, e4⟩ := h.box k' c y a1 hy
   exact ⟨e1, e2, cs', denL_mono hm e3, by rw [put_ne _ _ a2]; exact e4⟩
 ·exact h.le.trans (Le.put hb _)
 ·intro b' y e1 e2
  rw [put_ne _ _ (fun e => by subst e; rw [h2] at e2; cases e2)]
  exact h.keep b' y e1 e2
theorem HeapOk.more {L0 R0 : LH} {β : Nm} {B : List (Option Bx)} {L R : LH} (h : HeapOk L0 R0 β B L R) (x : Bx) : HeapOk L0 R0 β (B ++ [some x]) L R ∧ β B.length = none := by
 have hn : β B.length = none := by
  cases hx : β B.length with
  | none => rfl
  | some b => exact absurd (h.dm _ _ hx) (Nat.lt_irrefl _)
 refine ⟨⟨h.inj, fun k b hk => by have := h.dm k b hk; simp; omega, h.al, fun k b y hk hy => ?_, h.le, h.keep, h.fresh, h.dom⟩, hn⟩
 rw [List.getElem?_append_left (h.dm k b hk)] at hy
 exact h.box k b y hk hy
theorem HeapOk.new {L0 R0 : LH} {β : Nm} {B : List (Option Bx)} {L R : LH} (h : HeapOk L0 R0 β B L R) {b : Nat} (hb : R b = none) {x : Bx} {cs : List Value} (hc : denL β x.cells = some cs) : HeapOk L0 R0 (β.set B.length b) (B ++ [some x]) L (R.put b (.cells cs.toArray x.ty)) :=
 let ⟨h1, h2⟩ := h.more x; h1.name hb h2 (by simp) hc
theorem HeapOk.newF {L0 R0 : LH} {β : Nm} {B : List (Option Bx)} {L R : LH} (h : HeapOk L0 R0 β B L R) {b : Nat} (hb : R b = none) (o : Obj) : HeapOk L0 R0 β B (L.put b o) (R.put b o) := by
 obtain ⟨h1, h2⟩ := h.free hb
 refine ⟨h.inj, h.dm, fun k c hk => ?_, ?_, ?_, ?_, ?_, ?_⟩
 ·rw [put_ne _ _ (fun e => h.al k c hk (by rw [e]; exact hb))]; exact h.al k c hk
 ·intro k b' y hk hy
  obtain ⟨e1, e2, cs', e3, e4⟩ := h.box k b' y hk hy
  have hne : b' ≠ b := fun e => by subst e; rw [e4] at hb; cases hb
  exact ⟨by rw [put_ne _ _ hne]; exact e1, e2, cs', e3, by rw [put_ne _ _ hne]; exact e4⟩
 ·intro b' x hx
  by_cases e : b' = b
  ·subst e; rw [put_same] at hx ⊢; exact hx
  ·rw [put_ne _ _ e] at hx ⊢; exact h.le _ _ hx
 ·intro b' y e1 e2
  rw [put_ne _ _ (fun e => by subst e; rw [h2] at e2; cases e2)]
  exact h.keep b' y e1 e2
 ·intro b' hb'
  by_cases e : b' = b
  ·subst e; exact .inr h2
  ·rw [put_ne _ _ e] at hb'; exact h.fresh b' hb'
 ·intro b' hb'
  by_cases e : b' = b
  ·subst e; rw [put_same]; simp
  ·rw [put_ne _ _ e]; exact h.dom b' hb'
theorem HeapOk.setF {L0 R0 : LH} {β : Nm} {B : List (Option Bx)} {L R R' : LH} (h : HeapOk L0 R0 β B L R) {b : Nat} {o' o : Obj} (hb : L b = some (o', true)) (h1 : R' b = some (o, true)) (h2 : ∀ b', b' ≠ b → R' b' = R b') : HeapOk L0 R0 β B (L.put b o) R' := by
 refine ⟨h.inj, h.dm, fun k c hk => ?_, ?_, ?_, ?_, ?_, ?_⟩
 ·by_cases e : c = b
  ·subst e; rw [h1]; simp
  ·rw [h2 _ e]; exact h.al k c hk
 ·intro k b' y hk hy
  obtain ⟨e1, e2, cs', e3, e4⟩ := h.box k b' y hk hy
  have hne : b' ≠ b := fun e => by subst e; rw [e1] at hb; cases hb
  exact ⟨by rw [put_ne _ _ hne]; exact e1, e2, cs', e3, by rw [h2 _ hne]; exact e4⟩
 ·intro b' x hx
  by_cases e : b' = b
  ·subst e; rw [put_same] at hx; rw [h1]; exact hx
  ·rw [put_ne _ _ e] at hx; rw [h2 _ e]; exact h.le _ _ hx
 ·intro b' y e1 e2
  have hne : b' ≠ b := fun e => by
   subst e
   have := h.fresh b' (by rw [hb]; simp)
   rcases this with e | e
   ·exact e e1
   ·rw [e] at e2; cases e2
  rw [h2 _ hne]
  exact h.keep b' y e1 e2
 ·intro b' hb'
  by_cases e : b' = b
  ·subst e; exact h.fresh b' (by rw [hb]; simp)
  ·rw [put_ne _ _ e] at hb'; exact h.fresh b' hb'
 ·intro b' hb'
  by_cases e : b' = b
  ·subst e; rw [put_same]; simp
  ·rw [put_ne _ _ e]; exact h.dom b' hb'
theorem HeapOk.setB {L0 R0 : LH} {β : Nm} {B : List (Option Bx)} {L R R' : LH} (h : HeapOk L0 R0 β B L R) {k b : Nat} {x : Bx} {cells : List SV} {cs : List Value} (hk : β k = some b) (hx : B[k]? = some (some x)) (hc : denL β cells = some cs)
  (h1 : R' b = some (.cells cs.toArray x.ty (0, 0), true)) (h2 : ∀ b', b' ≠ b → R' b' = R b') : HeapOk L0 R0 β (B.set k (some ⟨cells, x.ty⟩)) L R' := by
 obtain ⟨g1, g2, _⟩ := h.box k b x hk hx
 refine ⟨h.inj, fun k' c e => by simpa using h.dm k' c e, fun k' c hk' => ?_, ?_, ?_, ?_, h.fresh, h.dom⟩
 ·by_cases e : c = b
  ·subst e; rw [h1]; simp
  ·rw [h2 _ e]; exact h.al k' c hk'
 ·intro k' b' y hk' hy
  by_cases e : k' = k
  ·subst e
   rw [hk] at hk'; cases hk'
   rw [List.getElem?_set_self (List.getElem?_eq_some_iff.1 hx).1] at hy
   cases hy
   exact ⟨g1, g2, cs, hc, h1⟩
  ·rw [List.getElem?_set_ne (Ne.symm e)] at hy
   obtain ⟨e1, e2, cs', e3, e4⟩ := h.box k' b' y hk' hy
   have hne : b' ≠ b := fun eq => by subst eq; exact e (h.inj _ _ _ hk' hk)
   exact ⟨e1, e2, cs', e3, by rw [h2 _ hne]; exact e4⟩
 ·intro b' y hy
  have hne : b' ≠ b := fun eq => by subst eq; rw [g1] at hy; cases hy
  rw [h2 _ hne]; exact h.le _ _ hy
 ·intro b' y e1 e2
  have hne : b' ≠ b := fun eq => by subst eq; rw [g2] at e2; cases e2
  rw [h2 _ hne]; exact h.keep b' y e1 e2
theorem HeapOk.pub {L0 R0 : LH} {β : Nm} {B : List (Option Bx)} {L R : LH} (h : HeapOk L0 R0 β B L R) {k b : Nat} {x : Bx} {cs : List Value} (hk : β k = some b) (hx : B[k]? = some (some x)) (hc : denL nm0 x.cells = some cs) :
  L b = none ∧ HeapOk L0 R0 β (B.set k none) (L.put b (.cells cs.toArray x.ty)) R := by
 obtain ⟨g1, g2, cs', g3, g4⟩ := h.box k b x hk hx
 rw [denL_nil hc β] at g3; cases g3
 refine ⟨g1, h.inj, fun k' c e => by simpa using h.dm k' c e, h.al, ?_, ?_, h.keep, ?_, ?_⟩
 ·intro k' b' y hk' hy
  by_cases e : k' = k
  ·subst e
   rw [List.getElem?_set_self (List.getElem?_eq_some_iff.1 hx).1] at hy; cases hy
  ·rw [List.getElem?_set_ne (Ne.symm e)] at hy
   obtain ⟨e1, e2, cs', e3, e4⟩ := h.box k' b' y hk' hy
   have hne : b' ≠ b := fun eq => by subst eq; exact e (h.inj _ _ _ hk' hk)
   exact ⟨by rw [put_ne _ _ hne]; exact e1, e2, cs', e3, e4⟩
 ·intro b' y hy
  by_cases e : b' = b
  ·subst e; rw [put_same] at hy; cases hy; exact g4
  ·rw [put_ne _ _ e] at hy; exact h.le _ _ hy
 ·intro b' hb'
  by_cases e : b' = b
  ·subst e; exact .inr g2
  ·rw [put_ne _ _ e] at hb'; exact h.fresh b' hb'
 ·intro b' hb'
  by_cases e : b' = b
  ·subst e; rw [put_same]; simp
  ·rw [put_ne _ _ e]; exact h.dom b' hb'
def cellsS : SV → List SV
 | .a l => l
 | .v x => x.cells.toList.map .v
 | x => [x]
theorem denL_map_v (β : Nm) : ∀ (l : List Value), denL β (l.map .v) = some l
 | [] => rfl
 | x :: l => by rw [List.map_cons, denL, denL_map_v β l]; rfl
theorem cellsS_den {β : Nm} {x : SV} {v : Value} (h : den β x = some v) : denL β (cellsS x) = some v.cells.toList := by
 cases x with
 | v x => unfold den at h; cases h; unfold cellsS; exact denL_map_v β _
 | a l =>
  unfold den at h
  cases hl : denL β l with
  | none => rw [hl] at h; cases h
  | some vs => rw [hl] at h; cases h; exact hl
 | p k off =>
  have hv : v.cells = #[v] := by
   unfold den at h; split at h <;> cases h; rfl
  rw [hv]; exact denL_cons' h rfl
 | f fn f1 f2 =>
  have hv : v.cells = #[v] := by
   unfold den at h; split at h <;> cases h; rfl
  rw [hv]; exact denL_cons' h rfl
 | i t x =>
  have hv : v.cells = #[v] := by
   unfold den at h; split at h <;> cases h; rfl
  rw [hv]; exact denL_cons' h rfl
 | lit b =>
  have hv : v.cells = #[v] := by
   unfold den at h; cases h; rfl
  rw [hv]; exact denL_cons' h rfl
 | sl k off len cap =>
  have hv : v.cells = #[v] := by
   unfold den at h; split at h <;> cases h; rfl
  rw [hv]; exact denL_cons' h rfl
def sgl : SV → Bool
 | .v x => single x
 | .a _ => false
 | _ => true
def sglL : List SV → Bool
 | [] => true
 | x :: l => match sgl x with | true => sglL l | false => false
theorem sgl_den {β : Nm} {x : SV} {v : Value} (h : den β x = some v) (hs : sgl x = true) : single v = true := by
 cases x with
 | v x => unfold den at h; cases h; exact hs
 | a l => cases hs
 | p k off => unfold den at h; split at h <;> cases h; rfl
 | f fn f1 f2 => unfold den at h; split at h <;> cases h; rfl
 | i t x => unfold den at h; split at h <;> cases h; rfl
 | lit b => unfold den at h; cases h; rfl
 | sl k off len cap => unfold den at h; split at h <;> cases h; rfl
theorem sglL_den {β : Nm} : ∀ {l : List SV} {vs : List Value}, denL β l = some vs → sglL l = true → ∀ v ∈ vs, single v = true
 | [], vs, h, _, v, hv => by cases h; cases hv
 | x :: l, vs, h, hs, v, hv => by
  obtain ⟨u, us, h1, h2, rfl⟩ := denL_cons h
  unfold sglL at hs
  cases hx : sgl x with
  | false => rw [hx] at hs; cases hs
  | true =>
   rw [hx] at hs
   rcases List.mem_cons.1 hv with rfl | hv
   ·exact sgl_den h1 hx
   ·exact sglL_den h2 hs v hv
def putL : List SV → Nat → List SV → List SV
 | [], _, _ => []
 | _ :: l, 0, v :: vs => v :: putL l 0 vs
 | x :: l, 0, [] => x :: l
 | x :: l, n + 1, vs => x :: putL l n vs
def putV : List Value → Nat → List Value → List Value
 | [], _, _ => []
 | _ :: l, 0, v :: vs => v :: putV l 0 vs
 | x :: l, 0, [] => x :: l
 | x :: l, n + 1, vs => x :: putV l n vs
theorem putV_nil : ∀ (l : List Value) (n : Nat), putV l n [] = l
 | [], _ => rfl
 | _ :: _, 0 => rfl
 | x :: l, n + 1 => by simp [putV, putV_nil l n]
theorem putV_cons : ∀ (l : List Value) (n : Nat) (v : Value) (vs : List Value), putV l n (v :: vs) = putV (l.set n v) (n + 1) vs
 | [], _, _, _ => by simp [putV]
 | _ :: l, 0, v, vs => by
  simp only [putV, List.set_cons_zero]
 | x :: l, n + 1, v, vs => by simp [putV, putV_cons l n v vs]
theorem putRow_toList : ∀ (vs : List Value) (c : Array Value) (n : Nat), (putRow c n vs).toList = putV c.toList n vs
 | [], c, n => by simp [putRow, putV_nil]
 | v :: vs, c, n => by rw [putRow, putRow_toList vs, putV_cons, Array.toList_setIfInBounds]
theorem denL_put {β : Nm} : ∀ {l : List SV} {ls : List Value} {n : Nat} {vs : List SV} {us : List Value}, denL β l = some ls → denL β vs = some us → denL β (putL l n vs) = some (putV ls n us)
 | [], ls, n, vs, us, h1, h2 => by cases h1; cases n <;> cases us <;> rfl
 | x :: l, ls, 0, [], us, h1, h2 => by
  obtain ⟨w, ws, e1, e2, rfl⟩ := denL_cons h1
  cases h2
  exact denL_cons' e1 e2
 | x :: l, ls, 0, v :: vs, us, h1, h2 => by
  obtain ⟨w, ws, e1, e2, rfl⟩ := denL_cons h1
  obtain ⟨u, us', e3, e4, rfl⟩ := denL_cons h2
  exact denL_cons' e3 (denL_put e2 e4)
 | x :: l, ls, n + 1, vs, us, h1, h2 => by
  obtain ⟨w, ws, e1, e2, rfl⟩ := denL_cons h1
  have := denL_put (n := n) e2 h2
  cases us <;> exact denL_cons' e1 this
def fillS (pl : List (Nat × Nat)) (cells : List SV) : List (Nat × SV) → Option (List SV)
 | [] => some cells
 | (i, sv) :: rest =>
  match nth pl i with
  | none => none
  | some (off, size) =>
   match Nat.beq (cellsS sv).length size, Nat.ble (off + size) cells.length with
   | true, true => fillS pl (putL cells off (cellsS sv)) rest
   | _, _ => none
theorem foldl_put (off : Nat) : ∀ (vs : List Value) (k : Nat) (c : Array Value), (vs.zipIdx k).foldl (fun cs (x : Value × Nat) => cs.setIfInBounds (off + x.2) x.1) c = putRow c (off + k) vs
 | [], k, c => rfl
 | v :: vs, k, c => by
  simp only [List.zipIdx_cons, List.foldl_cons, putRow]
  rw [foldl_put off vs (k + 1)]
  rfl
inductive PartsDen (β : Nm) : List (Nat × SV) → List (Nat × Value) → Prop
 | nil : PartsDen β [] []
 | cons {i : Nat} {x : SV} {v : Value} {l : List (Nat × SV)} {vs : List (Nat × Value)} (h : den β x = some v) (t : PartsDen β l vs) : PartsDen β ((i, x) :: l) ((i, v) :: vs)
theorem fillS_sound' {β : Nm} {pl : List (Nat × Nat)} {place : Nat → Option (Nat × Nat)} (hp : ∀ i y, nth pl i = some y → place i = some y) : ∀ {ps : List (Nat × SV)} {pv : List (Nat × Value)} {cells r : List SV} {cs : List Value}, PartsDen β ps pv → denL β cells = some cs → fillS pl cells ps = some r →
  ∃ rs, denL β r = some rs ∧ Instr.fill place cs.toArray pv = some rs.toArray
 | [], _, cells, r, cs, .nil, hc, h => by cases h; exact ⟨cs, hc, rfl⟩
 | (i, sv) :: ps, _, cells, r, cs, .cons (v := v) (vs := pv) hv ht, hc, h => by
  unfold fillS at h
  unfold Instr.fill
  cases hn : nth pl i with
  | none => rw [hn] at h; cases h
  | some y =>
   obtain ⟨off, size⟩ := y
   rw [hp i _ hn]
   rw [hn] at h
   simp only at h ⊢
   have hcell := cellsS_den hv
   have hlen := denL_length hcell
   have hlen2 := denL_length hc
   cases h1 : Nat.beq (cellsS sv).length size with
   | false => rw [h1] at h; cases h
   | true =>
    cases h2 : Nat.ble (off + size) cells.length with
    | false => rw [h1, h2] at h; cases h
    | true =>
     rw [h1, h2] at h
     have e1 := Nat.eq_of_beq_eq_true h1
     have e2 := Nat.le_of_ble_eq_true h2
     have hs : v.cells.size = size := by rw [← e1, ← hlen, Array.length_toList]
     have hif : ¬ (v.cells.size ≠ size ∨ off + v.cells.size > cs.toArray.size) := by
      simp only [hs, ne_eq, not_true_eq_false, false_or, List.size_toArray]; omega
     have hif' : (decide (v.cells.size ≠ size) || decide (off + v.cells.size > cs.toArray.size)) = false := by
      simp only [Bool.or_eq_false_iff, decide_eq_false_iff_not]
      exact not_or.1 hif
     have hfold : v.cells.zipIdx.foldl (fun cs (x : Value × Nat) => cs.setIfInBounds (off + x.2) x.1) cs.toArray = (putV cs off v.cells.toList).toArray := by
      rw [← Array.foldl_toList, Array.toList_zipIdx, foldl_put]
      have := putRow_toList v.cells.toList cs.toArray (off + 0)
      rw [List.toList_toArray, Nat.add_zero] at this
      rw [Nat.add_zero, ← this]
     obtain ⟨rs, g1, g2⟩ := fillS_sound' hp ht (denL_put (n := off) hc hcell) h
     refine ⟨rs, g1, ?_⟩
     rw [← g2, ← hfold]
     simp only [hif', Bool.false_eq_true, if_false]
theorem fillS_sound {β : Nm} {pl : List (Nat × Nat)} {place : Nat → Option (Nat × Nat)} (hp : ∀ i, place i = nth pl i) {ps : List (Nat × SV)} {pv : List (Nat × Value)} {cells r : List SV} {cs : List Value} (h1 : PartsDen β ps pv) (h2 : denL β cells = some cs) (h3 : fillS pl cells ps = some r) :
  ∃ rs, denL β r = some rs ∧ Instr.fill place cs.toArray pv = some rs.toArray := fillS_sound' (fun i y h => by rw [hp i, h]) h1 h2 h3
def partsS (E : Look) : List (Nat × Operand) → Option (List (Nat × SV))
 | [] => some []
 | (i, x) :: l => match evS E x, partsS E l with | some v, some vs => some ((i, v) :: vs) | _, _ => none
theorem partsS_den {β : Nm} {E : Look} {T : Array Value} (h : EnvOk β E T) : ∀ {l : List (Nat × Operand)} {ps : List (Nat × SV)}, partsS E l = some ps → PartsDen β ps (l.map fun (i, x) => (i, ev T x))
 | [], ps, hx => by cases hx; exact .nil
 | (i, x) :: l, ps, hx => by
  unfold partsS at hx
  cases h1 : evS E x with
  | none => rw [h1] at hx; cases hx
  | some u =>
   cases h2 : partsS E l with
   | none => rw [h1, h2] at hx; cases hx
   | some us => rw [h1, h2] at hx; cases hx; exact .cons (h.val h1) (partsS_den h h2)
end Go.Mz

