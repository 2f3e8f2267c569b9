/- Lemmas on which the claim leans. -/
import Derived.Test.YtfnjganjlkoehaaGreatDoorMzLa
namespace Go.Mz
open Go
theorem sawE_s4 {s : Sw} (h : sawE s = 0) : ∀ x ∈ s.stock, 0 ≤ x ∧ x ≤ 4 := by
 unfold sawE at h
 split at h
 ·rename_i h1; exact absurd h h1
 ·split at h
  ·rename_i h2; exact absurd h h2
  ·split at h
   ·cases h
   ·split at h
    ·cases h
    ·rename_i h4
     simp only [Bool.not_eq_true', Bool.not_eq_false, stockB_iff] at h4
     exact h4
def eatW (s : Sw) (x : Want) : Int := if x.sort = 1 then x.amount else if x.sort = 0 then sumL (loafAt s x.kind) else sumL ((loafAt s x.kind).drop ((loafAt s x.kind).length - x.amount.toNat))
def lossW (s : Sw) (x : Want) : Int := if x.sort = 2 then sumL (loafAt s x.kind) - restW s x - eatW s x else 0
theorem loss_bd {s : Sw} (hok : SOk s) (x : Want) : 0 ≤ lossW s x ∧ lossW s x ≤ if x.sort = 2 then s.kerf else 0 := by
 unfold lossW
 split
 ·rename_i h2
  have hl : ∀ y ∈ loafAt s x.kind, 0 ≤ y := fun y hy => by
   unfold loafAt at hy
   rw [List.getD_eq_getElem?_getD] at hy
   cases e : s.loaves[x.kind.toNat]? with
   | none => rw [e] at hy; cases hy
   | some l => rw [e] at hy; have := (hok.lf l (List.mem_of_getElem? e)).r y hy; omega
  have k0 := hok.k0
  unfold eatW restW
  rw [if_neg (by omega), if_neg (by omega)]
  generalize loafAt s x.kind = lf at *
  generalize lf.length - x.amount.toNat = j
  have h1 := sumL_append (lf.take j) (lf.drop j)
  rw [List.take_append_drop] at h1
  have h0 : ∀ m : List Int, (∀ y ∈ m, 0 ≤ y) → 0 ≤ sumL m := fun m hm => by
   induction m with
   | nil => exact Int.le_refl 0
   | cons a m ih => rw [sumL_cons]; have := hm a List.mem_cons_self; have := ih fun y hy => hm y (List.mem_cons_of_mem _ hy); omega
  have h2 := h0 (lf.take j) fun y hy => hl y (List.mem_of_mem_take hy)
  omega
 ·omega
theorem sum_add {n : Nat} (f g : Nat → Int) : sumL ((List.range n).map fun k => f k + g k) = sumL ((List.range n).map f) + sumL ((List.range n).map g) := by
 induction n with
 | zero => rfl
 | succ n ih =>
  rw [List.range_succ, List.map_append, List.map_append, List.map_append, sumL_append, sumL_append, sumL_append, ih]
  simp only [List.map_cons, List.map_nil, sumL_cons, sumL_nil]; omega
theorem sum_ind {n k : Nat} (hk : k < n) (F : Nat → Int) : sumL ((List.range n).map fun j => if j = k then F j else 0) = F k := by
 induction n with
 | zero => omega
 | succ n ih =>
  rw [List.range_succ, List.map_append, sumL_append]
  simp only [List.map_cons, List.map_nil, sumL_cons, sumL_nil]
  by_cases e : k = n
  ·subst e
   have : sumL ((List.range k).map fun j => if j = k then F j else 0) = 0 := by
    rw [show (List.range k).map (fun j => if j = k then F j else 0) = (List.range k).map fun _ => 0 from map_on fun j hj => if_neg (by omega)]
    clear ih hk
    induction k with
    | zero => rfl
    | succ k ih => rw [List.range_succ, List.map_append, sumL_append, ih]; rfl
   rw [this, if_pos rfl]; omega
  ·rw [ih (by omega), if_neg (by omega)]; omega
theorem sum_zero {n : Nat} {F : Nat → Int} (h : ∀ k, k < n → F k = 0) : sumL ((List.range n).map F) = 0 := by
 induction n with
 | zero => rfl
 | succ n ih => rw [List.range_succ, List.map_append, sumL_append, ih fun k hk => h k (by omega)]; simp only [List.map_cons, List.map_nil, sumL_cons, sumL_nil, h n (by omega)]; omega
theorem loss_sum {s : Sw} : ∀ {xs : List Want}, (∀ x ∈ xs, WtOk s.loaves x) →
  sumL ((List.range s.loaves.length).map fun k => tkN xs k * sumL (s.loaves.getD k []) - suN s xs k) + tksN (-1) xs - sumL (xs.map (eatW s)) = sumL (xs.map (lossW s))
 | [], _ => by
  rw [sum_zero fun k _ => by simp [tkN, suN, sumL]]
  rfl
 | x :: xs, h => by
  have ih := loss_sum fun y hy => h y (List.mem_cons_of_mem _ hy)
  have hx := h x List.mem_cons_self
  have e : ∀ k, tkN (x :: xs) k * sumL (s.loaves.getD k []) - suN s (x :: xs) k = (tkN xs k * sumL (s.loaves.getD k []) - suN s xs k) + ((if isTk k x then sumL (s.loaves.getD k []) else 0) - (if isTp k x then restW s x else 0)) := fun k => by
   rw [tkN_cons, suN_cons]
   by_cases e1 : isTk k x = true
   ·rw [if_pos e1, if_pos e1, Int.add_mul]; omega
   ·rw [if_neg e1, if_neg e1]
    have : (tkN xs k + 0) * sumL (s.loaves.getD k []) = tkN xs k * sumL (s.loaves.getD k []) := by rw [Int.add_zero]
    rw [this]; omega
  rw [show ((List.range s.loaves.length).map fun k => tkN (x :: xs) k * sumL (s.loaves.getD k []) - suN s (x :: xs) k) = (List.range s.loaves.length).map fun k => (tkN xs k * sumL (s.loaves.getD k []) - suN s xs k) + ((if isTk k x then sumL (s.loaves.getD k []) else 0) - (if isTp k x then restW s x else 0)) from map_on fun k _ => e k, sum_add, tksN_cons, List.map_cons, List.map_cons, sumL_cons, sumL_cons]
  have key : sumL ((List.range s.loaves.length).map fun k => (if isTk k x then sumL (s.loaves.getD k []) else 0) - (if isTp k x then restW s x else 0)) + (if isTks (-1) x then x.amount else 0) - eatW s x = lossW s x := by
   by_cases h1 : x.sort = 1
   ·rw [sum_zero fun k _ => by rw [if_neg (by unfold isTk; simp [h1]), if_neg (by unfold isTp; simp [h1])]; rfl, if_pos (by unfold isTks; simp [h1])]
    unfold eatW lossW
    rw [if_pos h1, if_neg (by omega)]
    omega
   ·have hk0 : 0 ≤ x.kind := by have := hx.k0; unfold wKd at this; rw [if_neg h1] at this; exact this
    obtain ⟨n, hn⟩ : ∃ n : Nat, x.kind = (n : Int) := ⟨x.kind.toNat, by omega⟩
    have hk1 := hx.k1
    have hl : loafAt s x.kind = s.loaves.getD n [] := by unfold loafAt; rw [hn]; rfl
    have t1 : ∀ k : Nat, (isTk k x = true) ↔ k = n := fun k => by unfold isTk; rw [hn]; simp [h1]; omega
    rw [if_neg (show ¬ isTks (-1) x = true by unfold isTks; simp [h1])]
    by_cases h2 : x.sort = 2
    ·have t2 : ∀ k : Nat, (isTp k x = true) ↔ k = n := fun k => by unfold isTp; rw [hn]; simp [h2]; omega
     rw [show ((List.range s.loaves.length).map fun k => (if isTk k x then sumL (s.loaves.getD k []) else 0) - (if isTp k x then restW s x else 0)) = (List.range s.loaves.length).map fun k => if k = n then sumL (s.loaves.getD k []) - restW s x else 0 from map_on fun k _ => by
      by_cases e : k = n
      ·rw [if_pos ((t1 k).2 e), if_pos ((t2 k).2 e), if_pos e]
      ·rw [if_neg (mt (t1 k).1 e), if_neg (mt (t2 k).1 e), if_neg e]; rfl, sum_ind (by omega) fun k => sumL (s.loaves.getD k []) - restW s x]
     unfold lossW
     rw [if_pos h2, hl]
     omega
    ·rw [show ((List.range s.loaves.length).map fun k => (if isTk k x then sumL (s.loaves.getD k []) else 0) - (if isTp k x then restW s x else 0)) = (List.range s.loaves.length).map fun k => if k = n then sumL (s.loaves.getD k []) else 0 from map_on fun k _ => by
      have hp : ¬ isTp k x = true := by unfold isTp; simp [h2]
      by_cases e : k = n
      ·rw [if_pos ((t1 k).2 e), if_neg hp, if_pos e]; omega
      ·rw [if_neg (mt (t1 k).1 e), if_neg hp, if_neg e]; rfl, sum_ind (by omega) fun k => sumL (s.loaves.getD k [])]
     unfold lossW eatW
     have := hx.s0
     have := hx.s2
     rw [if_neg h2, if_neg h1, if_pos (by omega), hl]
     omega
  omega
theorem losses_bd {s : Sw} (hok : SOk s) (xs : List Want) : 0 ≤ sumL (xs.map (lossW s)) ∧ sumL (xs.map (lossW s)) ≤ s.kerf * ((xs.countP fun x => x.sort == 2 : Nat) : Int) := by
 induction xs with
 | nil => simp [sumL]
 | cons x xs ih =>
  have h := loss_bd hok x
  rw [List.map_cons, sumL_cons, List.countP_cons]
  by_cases e : x.sort = 2
  ·rw [if_pos e] at h
   rw [if_pos (by simp [e]), Int.natCast_add, Int.mul_add]
   omega
  ·rw [if_neg e] at h
   rw [if_neg (by simp [e])]
   simp only [Nat.add_zero]
   omega
theorem weighed {s : Sw} (hok : SOk s) (w : List Nat) (l : List Int) :
  let d := - leftW (planW s w l) + sumL ((List.range s.loaves.length).map fun k => (tkN (wantsOf s w) k + l.getD k 0) * sumL (s.loaves.getD k [])) - sumL ((wantsOf s w).map (eatW s))
  0 ≤ d ∧ d ≤ s.kerf * cutsW s w := by
 intro d
 have h1 := loss_sum (s := s) (xs := wantsOf s w) fun x hx => wants_mem hok hx
 have h2 := losses_bd hok (wantsOf s w)
 have h3 := over_eq hok w l
 have e : d = sumL ((wantsOf s w).map (lossW s)) := by
  rw [← h1]
  show - leftW (planW s w l) + _ - _ = _
  rw [← h3]
  unfold sugarD
  rw [sum_add, show ((List.range s.loaves.length).map fun k => (tkN (wantsOf s w) k + l.getD k 0) * sumL (s.loaves.getD k [])) = (List.range s.loaves.length).map fun k => (tkN (wantsOf s w) k * sumL (s.loaves.getD k []) - suN s (wantsOf s w) k) + (suN s (wantsOf s w) k + l.getD k 0 * sumL (s.loaves.getD k [])) from map_on fun k _ => by rw [Int.add_mul]; omega, sum_add, sum_add]
  omega
 rw [e]
 exact h2
theorem left_bd {s : Sw} (hok : SOk s) {w : List Nat} (hw : w.length ≤ 5) {l : List Int} (h : l ∈ plansW s w) (h4 : ∀ x ∈ s.stock, 0 ≤ x ∧ x ≤ 4) : 0 ≤ leftW (planW s w l) ∧ leftW (planW s w l) ≤ 999 := by
 obtain ⟨h1, h2, h3⟩ := plan_out hok h
 rw [← over_eq hok]
 have hc := h3.c
 have ht := (tksN_bd hok (-1) w).1
 refine ⟨by omega, ?_⟩
 have hb : sumL (sugarD s (wantsOf s w) l) ≤ sumL ((List.range s.loaves.length).map fun _ => (324 : Int)) := sum_map_le fun k hk => by
  have hs := loaf_sum hok k
  have hu := suN_bd hok (wantsOf s w) k
  have hwl := wantsOf_len s w
  have hl := h2 k
  have hl4 : l.getD k 0 ≤ 4 := by
   have := h3.a k hk
   have := (tkN_bd (wantsOf s w) k).1
   have hst : s.stock.getD k 0 ≤ 4 := by
    rw [List.getD_eq_getElem?_getD, List.getElem?_eq_getElem (by rw [hok.st]; exact hk)]
    exact (h4 _ (List.getElem_mem _)).2
   omega
  have : l.getD k 0 * sumL (s.loaves.getD k []) ≤ 4 * 36 := Int.mul_le_mul hl4 hs.2 hs.1 (by omega)
  omega
 have h3l := hok.l3
 have : sumL ((List.range s.loaves.length).map fun _ => (324 : Int)) ≤ 972 := by
  have c : s.loaves.length = 0 ∨ s.loaves.length = 1 ∨ s.loaves.length = 2 ∨ s.loaves.length = 3 := by omega
  rcases c with e | e | e | e <;> rw [e] <;> decide
 omega
end Go.Mz


set_option maxRecDepth 100000
namespace Go.Mz
open Go.Conc Go.Proofs
variable {X : Logic Tryz.prog}
end Go.Mz


namespace Go.Mz
open Go
end Go.Mz


set_option maxRecDepth 100000
namespace Go.Mz
open Go.Conc Go.Proofs
variable {X : Logic Tryz.prog}
end Go.Mz


set_option maxRecDepth 100000
namespace Go.Mz
open Go.Conc Go.Proofs
variable {X : Logic Tryz.prog}
end Go.Mz


namespace Go.Mz
open Go
section
variable {s : Sw} (hok : SOk s) {M : List (List Nat)} (hM : ∀ w, w ∈ M ↔ w ∈ picksW s.wants.length s.wants.length)
include hok hM
def topL (s : Sw) (M : List (List Nat)) : List (List Nat) := M.filter fun w => srvB s w && payW s w == payW s (crWants (bestW s fun _ => true))
omit hok in
theorem top_mem {w : List Nat} : w ∈ topL s M ↔ w ∈ picksW s.wants.length s.wants.length ∧ srvB s w = true ∧ payW s w = payW s (crWants (bestW s fun _ => true)) := by
 unfold topL
 rw [List.mem_filter, Bool.and_eq_true, beq_iff_eq, hM]
end
end Go.Mz


namespace Go.Mz
open Go
theorem heapE_of {l : List Int} (h : ∀ x ∈ l, 0 ≤ x ∧ x ≤ 4) : heapE l = 0 := by
 induction l with
 | nil => rfl
 | cons x l ih =>
  rw [heapE, if_neg (by have := h x List.mem_cons_self; simp [inB_iff]; omega)]
  exact ih fun y hy => h y (List.mem_cons_of_mem _ hy)
theorem list4s {s : Sw} (h4 : ∀ x ∈ s.stock, 0 ≤ x ∧ x ≤ 4) {l : List Int} (hl : l ∈ listsW s.stock) : l.length = s.stock.length ∧ ∀ x ∈ l, 0 ≤ x ∧ x ≤ 4 := by
 obtain ⟨h1, h2⟩ := listsW_mem hl
 refine ⟨h1, fun x hx => ?_⟩
 obtain ⟨k, hk, rfl⟩ := List.getElem_of_mem hx
 have := h2 k
 rw [List.getD_eq_getElem?_getD, List.getElem?_eq_getElem hk, List.getD_eq_getElem?_getD, List.getElem?_eq_getElem (by omega)] at this
 have h5 := h4 _ (List.getElem_mem (show k < s.stock.length by omega))
 have := this.2 (by omega)
 have := (h2 k).1
 rw [List.getD_eq_getElem?_getD, List.getElem?_eq_getElem hk] at this
 simp only [Option.getD_some] at *
 omega
theorem ask_list {s : Sw} (he : sawE s = 0) {w : List Nat} (ha : Asc w) (hw : WnOk s w) {l : List Int} (hl : l ∈ listsW s.stock) : askW s (natI w) l = rightW s (planW s w l) := by
 have hok := sawE_0 he
 obtain ⟨h1, h2⟩ := list4s (sawE_s4 he) hl
 have hr : readW s (natI w) = 0 := readGo_of ha hw (fun q hq => by cases hq)
 unfold askW
 rw [if_neg (by simp [he]), if_neg (by simp [hr]), if_neg (by rw [ne_eq, Decidable.not_not, sizedE_0]; have := hok.st; omega), if_neg (by rw [heapE_of h2]; simp), natsW_natI]
theorem left_list {s : Sw} (he : sawE s = 0) {w : List Nat} (ha : Asc w) (hw : WnOk s w) {l : List Int} (hl : l ∈ listsW s.stock) : LeftE s (natI w) l = if okW s w l then (stayW s (planW s w l), leftW (planW s w l), 0) else ([], 0, rightW s (planW s w l)) := by
 unfold LeftE
 rw [ask_list he ha hw hl, natsW_natI]
 unfold okW
 by_cases h : rightW s (planW s w l) = 0
 ·rw [if_neg (by simp [h]), if_pos (by simp [h])]
 ·rw [if_pos h, if_neg (by simpa using h)]
theorem crush_in {s : Sw} {w : List Nat} {c : Cr} (h : crushW s w = some c) : c.l ∈ plansW s w := by
 obtain ⟨⟨l, hl, rfl⟩, _⟩ := crush_min h
 exact hl
theorem stay_get {s : Sw} (hok : SOk s) (w : List Nat) (l : List Int) {k : Nat} (hk : k < s.loaves.length) : (stayW s (planW s w l))[k]? = some (s.stock.getD k 0 - (tkN (wantsOf s w) k + l.getD k 0)) := by
 have h3 := hok.l3
 unfold stayW
 rw [List.getElem?_map, List.getElem?_range (by rw [hok.st]; exact hk), planW_eq hok]
 show some (s.stock.getD k 0 - (rng3 fun k => tkN (wantsOf s w) k + lfN s l k).getD k 0) = _
 rw [rng3_get (by omega)]
 unfold lfN
 rw [if_pos hk]
theorem stay_len (s : Sw) (P : Pl) : (stayW s P).length = s.stock.length := by unfold stayW; rw [List.length_map, List.length_range]
end Go.Mz


set_option maxRecDepth 100000
namespace Go.Mz
open Go.Conc Go.Proofs
variable {X : Logic Tryz.prog}
end Go.Mz


set_option maxRecDepth 100000
namespace Go.Mz
open Go.Conc Go.Proofs
variable {Post : Value → World → Prop} {W0 : World}
end Go.Mz


set_option maxRecDepth 100000
namespace Go.Mz
open Go.Conc Go.Proofs
variable {Post : Value → World → Prop} {W0 : World}
def goneN (s : Sw) (w : List Nat) (l : List Int) (j : Nat) : Int := sumL ((List.range j).map fun k => (tkN (wantsOf s w) k + l.getD k 0) * sumL (s.loaves.getD k []))
theorem goneN_succ (s : Sw) (w : List Nat) (l : List Int) (j : Nat) : goneN s w l (j + 1) = goneN s w l j + (tkN (wantsOf s w) j + l.getD j 0) * sumL (s.loaves.getD j []) := by
 unfold goneN
 rw [List.range_succ, List.map_append, sumL_append]
 simp only [List.map_cons, List.map_nil, sumL_cons, sumL_nil]; omega
def eatN (s : Sw) (w : List Nat) (j : Nat) : Int := sumL ((wantsOf s (w.take j)).map (eatW s))
theorem eatN_succ {s : Sw} {w : List Nat} {j i : Nat} {x : Want} (hj : w[j]? = some i) (hx : s.wants[i]? = some x) : eatN s w (j + 1) = eatN s w j + eatW s x := by
 obtain ⟨h, rfl⟩ := List.getElem?_eq_some_iff.1 hj
 unfold eatN
 rw [List.take_succ_eq_append_getElem h, wantsOf_snoc hx, List.map_append, sumL_append]
 simp only [List.map_cons, List.map_nil, sumL_cons, sumL_nil]; omega
def topN (s : Sw) (w : List Nat) (j : Nat) : Nat := (wantsOf s (w.take j)).countP fun x => x.sort == 2
theorem topN_succ {s : Sw} {w : List Nat} {j i : Nat} {x : Want} (hj : w[j]? = some i) (hx : s.wants[i]? = some x) : topN s w (j + 1) = topN s w j + if x.sort == 2 then 1 else 0 := by
 obtain ⟨h, rfl⟩ := List.getElem?_eq_some_iff.1 hj
 unfold topN
 rw [List.take_succ_eq_append_getElem h, wantsOf_snoc hx, List.countP_append, List.countP_singleton]
theorem topN_le (s : Sw) (w : List Nat) (j : Nat) : topN s w j ≤ w.length := by
 unfold topN
 have h1 := List.countP_le_length (p := fun x : Want => x.sort == 2) (l := wantsOf s (w.take j))
 have h2 := wantsOf_len s (w.take j)
 rw [List.length_take] at h2
 omega
theorem eat_bd {s : Sw} (hok : SOk s) {x : Want} (hx : WtOk s.loaves x) : 0 ≤ eatW s x ∧ eatW s x ≤ 60 := by
 unfold eatW
 split
 ·rename_i h
  have h0 := hx.a0
  have h1 := hx.a1
  unfold wLo at h0
  unfold wHi at h1
  rw [if_neg (by omega)] at h0
  rw [if_neg (by omega), if_pos h] at h1
  omega
 ·have hl : ∀ y ∈ loafAt s x.kind, 0 ≤ y := fun y hy => by
   unfold loafAt at hy
   rw [List.getD_eq_getElem?_getD] at hy
   cases e : s.loaves[x.kind.toNat]? with
   | none => rw [e] at hy; cases hy
   | some l => rw [e] at hy; have := (hok.lf l (List.mem_of_getElem? e)).r y hy; omega
  have hs := loaf_sum hok x.kind.toNat
  have e : loafAt s x.kind = s.loaves.getD x.kind.toNat [] := rfl
  rw [← e] at hs
  split
  ·omega
  ·generalize loafAt s x.kind = lf at *
   have h1 := sumL_append (lf.take (lf.length - x.amount.toNat)) (lf.drop (lf.length - x.amount.toNat))
   rw [List.take_append_drop] at h1
   have h0 : ∀ m : List Int, (∀ y ∈ m, 0 ≤ y) → 0 ≤ sumL m := fun m hm => by
    induction m with
    | nil => exact Int.le_refl 0
    | cons a m ih => rw [sumL_cons]; have := hm a List.mem_cons_self; have := ih fun y hy => hm y (List.mem_cons_of_mem _ hy); omega
   have h2 := h0 (lf.take (lf.length - x.amount.toNat)) fun y hy => hl y (List.mem_of_mem_take hy)
   have h3 := h0 (lf.drop (lf.length - x.amount.toNat)) fun y hy => hl y (List.mem_of_mem_drop hy)
   omega
theorem WgF_run (na : Option Addr) (nc : Nat) (nums : List Int) (L : LH) (hn : IntsAt L na nums) (hgl : GlOk L) (hl2 : nums.length ≤ 140737488355328)
  (hQ : ∀ v L' w, (v = .bool true ∧ Dim L L') → Sub L' w → Same W0 w → Post v w) :
  FGo Tryz.prog Post W0 (G (Frame.enter Tryz.prog 6 [.slice na nums.length nc].toArray .normal) []) L := by
 refine root_enter (n := 182) (s := 2) Tryz.func6 rfl rfl (by kernel_rfl) rfl rfl hQ fun C hX _ hL0 r => ?_
 have drd : ∀ L2, GlOk L2 → Sp C.X 21 [] L2 (fun v L' => v = .bool true ∧ Dim L2 L') := fun L2 h => by rw [hX]; exact cut_sp L2 h
 refine W.go 99 rfl ?_
 refine W.eff rfl rfl rfl (Ef.call rfl (NewHat_sp na nc nums L hn)) ?_
 rintro _ _ _ ⟨_, rfl, rfl, b, rfl, hb, hle1, hh1⟩
 refine W.go 99 rfl ?_
 rename_i L1
 have hb1 := le_but hb hle1
 refine W.eff rfl rfl rfl (Ef.call rfl (SawOf_sp b na nc nums 0 3 5 L1 hh1 (by omega) hl2 (by omega) (by omega) (by omega))) ?_
 rintro _ _ _ ⟨_, rfl, rfl, s, p, m, rfl, ho, hm, hle2, hh2, hsw⟩
 refine W.go 99 rfl ?_
 rename_i L2
 have hok := sawE_0 ho.e
 have hw5 := hok.w5
 refine W.eff rfl rfl rfl (Ef.call rfl (ServedOf_sp s p b na nc nums m L2 hh2 (by omega) hl2 hok.sm)) ?_
 rintro _ _ _ ⟨_, rfl, rfl, wq, tq, wa, wc, ta, tc, m3, rfl, hsv, hm3, hle3h, hle3, hwq, htq⟩
 refine W.go 99 rfl ?_
 rename_i L3
 have hL23 : Le (L2.but b) (L3.but b) := but_but hle3
 have hsw3 := hsw.le (hL23.trans (but_le _ _))
 have hL3 : Le L L3 := hb1.trans ((but_but hle2).trans (hL23.trans (but_le _ _)))
 have hwq3 := hwq.le (but_le L3 b)
 have hwl5 : wq.length ≤ 5 := by
  have h1 := bits5_len (maskW wq)
  rw [bits5_mask hsv.asc fun x hx => by have := hsv.wn x hx; omega] at h1
  exact h1
 clear hh1 hh2 hle3h htq
 have hcx := Crush_sp (X := C.X) s p wa wc (natI wq) L3 hsw3 hok.sm hwq3 (by rw [natI_len]; omega)
 rw [natI_len, CrushE_natI ho.e hsv.asc hsv.wn] at hcx
 refine W.eff rfl rfl rfl (Ef.call rfl (hcx)) ?_
 rintro _ _ _ ⟨v7, rfl, rfl, ca, cc, rfl, hci, hl34⟩
 refine W.go 99 rfl ?_
 rename_i L4
 have hL4 := hL3.trans hl34
 have hsw4 := hsw3.le hl34
 have hwq4 := hwq3.le hl34
 cases hc : crushW s wq with
 | none =>
  rw [show crushE s wq = ([], 0, 11) by unfold crushE; rw [hc]]
  refine W.split rfl rfl rfl (fun c => ?_) (fun c => absurd c (by decide))
  refine W.go 99 rfl ?_
  refine W.asLit 41 (p := true) rfl rfl ?_
  refine W.go 99 rfl ?_
  refine W.eff rfl rfl rfl (Ef.call rfl (drd L4 (hgl.le hL4))) ?_
  rintro _ _ _ ⟨_, rfl, rfl, rfl, hdm⟩
  refine W.go 99 rfl ?_
  exact W.retO r rfl ⟨rfl, (Dim.of_le hL4).trans hdm⟩
 | some cr =>
 rw [show crushE s wq = (cr.l, cr.c, 0) by unfold crushE; rw [hc]] at hci ⊢
 dsimp only at hci ⊢
 have hpl := crush_in hc
 obtain ⟨hcl, hc0, hcx'⟩ := plan_out hok hpl
 have hclm := ((plans_iff hok).1 hpl).1
 have hokc := ((plans_iff hok).1 hpl).2
 obtain ⟨_, hc4⟩ := list4s ho.s4 hclm
 have hst := hok.st
 have hl3 := hok.l3
 have hwd := weighed hok wq cr.l
 have hlb := left_bd hok hwl5 hpl ho.s4
 have hlf := Left_sp (X := C.X) s p wa ca wc cc (natI wq) cr.l L4 hsw4 hok.sm (hgl.le hL4) hwq4 hci (by rw [natI_len]; omega) (by omega)
 rw [natI_len, left_list ho.e hsv.asc hsv.wn hclm, if_pos hokc] at hlf
 have hsg := fun k => stay_get hok wq cr.l (k := k)
 have hsl := stay_len s (planW s wq cr.l)
 generalize stayW s (planW s wq cr.l) = st at *
 generalize leftW (planW s wq cr.l) = lw at *
 refine W.split rfl rfl rfl (fun c => absurd c (by decide)) (fun c => ?_)
 refine W.go 99 rfl ?_
 refine W.eff rfl rfl rfl (Ef.call rfl (hlf)) ?_
 rintro _ _ _ ⟨_, rfl, rfl, la, lc, rfl, hli, hl45⟩
 rename_i L5
 have hL5 := hL4.trans hl45
 have hsw5 := hsw4.le hl45
 have hwq5 := hwq4.le hl45
 dsimp only at hli ⊢
 refine W.go 99 rfl ?_
 refine W.asLit 54 (p := false) rfl rfl ?_
 refine W.go 99 rfl ?_
 refine W.asLit 58 (p := false) rfl rfl ?_
 refine W.go 99 rfl ?_
 rw [hsl, bne_self_eq_false]
 refine W.asLit 66 (p := false) rfl rfl ?_
 refine W.go 99 rfl ?_
 refine W.asLit 70 (p := false) rfl (by show some (decide (lw < 0)) = some false; rw [decide_eq_false (by omega)]) ?_
 refine W.go 99 rfl ?_
 refine W.split rfl rfl rfl (fun h => absurd h (by simp; omega)) (fun _ => ?_)
 refine W.go 99 rfl ?_
 rw [show IntKind.i64.wrap (0 - lw) = -lw + goneN s wq cr.l 0 by rw [wrap64_in _ (by omega) (by omega)]; show 0 - lw = -lw + 0; omega]
 have htb : ∀ k, k < s.loaves.length → 0 ≤ (tkN (wantsOf s wq) k + cr.l.getD k 0) ∧ (tkN (wantsOf s wq) k + cr.l.getD k 0) ≤ s.stock.getD k 0 ∧ s.stock.getD k 0 ≤ 4 := fun k hk => by
  have h1 := (tkN_bd (wantsOf s wq) k).1
  have h2 := hc0 k
  have h3 := hcx'.a k hk
  have h4 : s.stock.getD k 0 ≤ 4 := by
   rw [List.getD_eq_getElem?_getD, List.getElem?_eq_getElem (by rw [hst]; exact hk)]
   exact (ho.s4 _ (List.getElem_mem _)).2
  omega
 have hgb : ∀ j, j ≤ s.loaves.length → 0 ≤ goneN s wq cr.l j ∧ goneN s wq cr.l j ≤ 144 * j := fun j => by
  induction j with
  | zero => intro _; exact ⟨Int.le_refl 0, Int.le_refl 0⟩
  | succ j ih =>
   intro hj
   have h1 := ih (by omega)
   have h2 := htb j (by omega)
   have h3 := loaf_sum hok j
   have h4 : 0 ≤ (tkN (wantsOf s wq) j + cr.l.getD j 0) * sumL (s.loaves.getD j []) := Int.mul_nonneg h2.1 h3.1
   have h5 : (tkN (wantsOf s wq) j + cr.l.getD j 0) * sumL (s.loaves.getD j []) ≤ 4 * 36 := Int.mul_le_mul (by omega) h3.2 h3.1 (by omega)
   rw [goneN_succ]
   omega
 refine W.loop (fun w E B L' => ∃ j : Nat, w = s.stock.length - j ∧ j ≤ s.stock.length ∧ L5 = L' ∧ E = [(4, .p 0 0), (5, .v (.slice wa wq.length wc)), (10, .v (.slice la s.stock.length lc)), (13, .v (.int .i64 (-lw + goneN s wq cr.l j))), (14, .v (.int .i64 0)), (15, .v (.int .i64 j))] ∧ B = [some ⟨cellsS (.v (swA s p)), 26⟩])
  ⟨0, rfl, by omega, rfl, rfl, rfl⟩ (by exact ⟨rfl, rfl, rfl, rfl, rfl, rfl, trivial⟩) (by exact ⟨rfl, trivial⟩) ?_
 rintro _ _ _ _ ⟨j, rfl, hj, rfl, rfl, rfl⟩ again
 refine W.go 99 rfl ?_
 refine W.split rfl rfl rfl (fun e1 => W.go 99 rfl ?_) (fun e1 => W.go 99 rfl ?_)
 ·have hjl : j < s.stock.length := by simpa using e1
  have hjl' : j < s.loaves.length := by omega
  have hgj := hgb j (by omega)
  have hgs := hgb (j + 1) (by omega)
  rw [goneN_succ] at hgs
  have htj := htb j hjl'
  have hstj := hsg j hjl'
  have hsx : s.stock[j]? = some (s.stock.getD j 0) := getD_some hjl
  obtain ⟨lad, rfl⟩ := hli.addr (show j < st.length by omega)
  obtain ⟨sad, hsa⟩ := hsw5.st.addr hjl
  have hss := hsw5.st
  rw [hsa] at hss
  obtain ⟨oa, a, c', hla, hcell, hsl', hcp⟩ := has_loaf hsw5 hjl'
  have hlfj := hok.lf _ (List.getElem_mem hjl')
  have hge : s.loaves.getD j [] = s.loaves[j] := by rw [List.getD_eq_getElem?_getD, List.getElem?_eq_getElem hjl']; rfl
  have hls := loaf_sum hok j
  have hgn := goneN_succ s wq cr.l j
  rw [hge] at hgn hgs hls
  generalize s.loaves[j] = lf at *
  have hl4 := hlfj.l4
  have hsm := Sum_sp (X := C.X) a c' lf L5 hsl' (by omega) (fun x hx => by have := hlfj.r x hx; omega)
  have hmul : 0 ≤ (tkN (wantsOf s wq) j + cr.l.getD j 0) * sumL lf ∧ (tkN (wantsOf s wq) j + cr.l.getD j 0) * sumL lf ≤ 4 * 36 := ⟨Int.mul_nonneg htj.1 hls.1, Int.mul_le_mul (by omega) hls.2 hls.1 (by omega)⟩
  generalize tkN (wantsOf s wq) j + cr.l.getD j 0 = tl at *
  obtain ⟨qa, qb, qc, qd, qe, qf⟩ := p
  obtain rfl : qb = some sad := hsa
  obtain rfl : qa = some oa := hla
  refine W.drawn (by kernel_rfl) _ (Le.refl _) ?_
  refine DD.run' [0, 1] rfl ?_
  refine DD.vf 2 rfl rfl rfl rfl rfl (Vf.idx1 rfl rfl rfl rfl rfl rfl rfl (hjl)) ?_
  refine DD.vf 3 rfl rfl rfl rfl rfl (Vf.load rfl rfl rfl (hli.int hstj)) ?_
  refine DD.run' [4, 5] rfl ?_
  refine DD.split 87 rfl (fun c => absurd c (by rw [decide_eq_true_eq]; omega)) (fun _ => ?_)
  refine DD.run' [6, 7, 10, 11, 12] rfl ?_
  refine DD.vf 8 rfl rfl rfl rfl rfl (Vf.idx1 rfl rfl rfl rfl rfl rfl rfl (hjl)) ?_
  refine DD.vf 9 rfl rfl rfl rfl rfl (Vf.load rfl rfl rfl (hli.int hstj)) ?_
  refine DD.vf 13 rfl rfl rfl rfl rfl (Vf.idx1 rfl rfl rfl rfl rfl rfl rfl (hjl)) ?_
  refine DD.vf 14 rfl rfl rfl rfl rfl (Vf.load rfl rfl rfl (hss.int hsx)) ?_
  refine DD.run' [15, 16] rfl ?_
  refine .fin rfl ?_
  refine W.go 99 rfl ?_
  refine W.split rfl rfl rfl (fun h => absurd h (by rw [decide_eq_true_eq]; omega)) (fun _ => ?_)
  refine W.go 99 rfl ?_
  refine W.drawn (by kernel_rfl) _ (Le.refl _) ?_
  refine DD.run' [0, 1, 2, 3, 6, 7, 11, 12, 13] rfl ?_
  refine DD.vf 4 rfl rfl rfl rfl rfl (Vf.idx1 rfl rfl rfl rfl rfl rfl rfl (hjl)) ?_
  refine DD.vf 5 rfl rfl rfl rfl rfl (Vf.load rfl rfl rfl (hss.int hsx)) ?_
  refine DD.vf 8 rfl rfl rfl rfl rfl (Vf.idx1 rfl rfl rfl rfl rfl rfl rfl (hjl)) ?_
  refine DD.vf 9 rfl rfl rfl rfl rfl (Vf.load rfl rfl rfl (hli.int hstj)) ?_
  refine DD.run' [10] rfl ?_
  rw [wrap64_in _ (by omega) (by omega), show s.stock.getD j 0 - (s.stock.getD j 0 - tl) = tl by omega]
  refine DD.vf 14 rfl rfl rfl rfl rfl (Vf.idx1 rfl rfl rfl rfl rfl rfl rfl (hjl')) ?_
  refine DD.vf 15 rfl rfl rfl rfl rfl (Vf.load rfl rfl rfl (hcell)) ?_
  refine DD.act 16 rfl rfl rfl rfl rfl (Ef.call rfl (hsm)) (by rintro _ _ _ ⟨_, rfl, rfl, rfl, rfl⟩; exact ⟨Le.refl _, rfl, .inl rfl⟩) ?_
  rintro _ _ _ ⟨_, rfl, rfl, rfl, rfl⟩
  refine DD.run' [17, 18, 19] rfl ?_
  refine .fin rfl ?_
  refine W.go 99 rfl ?_
  rw [wrap64_in (tl * sumL lf) (by omega) (by omega), wrap64_in (-lw + goneN s wq cr.l j + tl * sumL lf) (by omega) (by omega), show -lw + goneN s wq cr.l j + tl * sumL lf = -lw + goneN s wq cr.l (j + 1) by rw [hgn]; omega]
  exact W.again (again _ _ _ _ (by omega) ⟨j + 1, rfl, by omega, rfl, rfl, rfl⟩) (by exact ⟨rfl, rfl, rfl, rfl, rfl, congrArg some (inc64 (by omega)), trivial⟩) (by exact ⟨rfl, trivial⟩)
 clear again
 have hje : j = s.loaves.length := by simp at e1; omega
 subst hje
 have hgn := hgb _ (Nat.le_refl _)
 have hgd : goneN s wq cr.l s.loaves.length = sumL ((List.range s.loaves.length).map fun k => (tkN (wantsOf s wq) k + cr.l.getD k 0) * sumL (s.loaves.getD k [])) := rfl
 rw [← hgd] at hwd
 have hed : eatN s wq wq.length = sumL ((wantsOf s wq).map (eatW s)) := by unfold eatN; rw [List.take_length]
 rw [← hed] at hwd
 have htd : ((topN s wq wq.length : Nat) : Int) = cutsW s wq := by unfold topN cutsW; rw [List.take_length]
 rw [← htd] at hwd
 generalize goneN s wq cr.l s.loaves.length = gn at *
 have heb : ∀ j, j ≤ wq.length → 0 ≤ eatN s wq j ∧ eatN s wq j ≤ 60 * j := fun j => by
  induction j with
  | zero => intro _; exact ⟨Int.le_refl 0, Int.le_refl 0⟩
  | succ j ih =>
   intro hj
   have h1 := ih (by omega)
   have hwj : wq[j]? = some wq[j] := List.getElem?_eq_getElem (by omega)
   have hi := hsv.wn _ (List.mem_of_getElem? hwj)
   rw [eatN_succ hwj (List.getElem?_eq_getElem hi)]
   have := eat_bd hok (hok.wt _ (List.getElem_mem hi))
   omega
 refine W.loop (fun w E B L' => ∃ j : Nat, w = wq.length - j ∧ j ≤ wq.length ∧ L5 = L' ∧ E = [(4, .p 0 0), (5, .v (.slice wa wq.length wc)), (13, .v (.int .i64 (-lw + gn - eatN s wq j))), (14, .v (.int .i64 (topN s wq j : Nat))), (16, .v (.int .i64 j))] ∧ B = [some ⟨cellsS (.v (swA s p)), 26⟩])
  ⟨0, rfl, by omega, rfl, rfl, rfl⟩ (by exact ⟨rfl, rfl, congrArg (fun z => some (SV.v (Value.int .i64 z))) (show -lw + gn = -lw + gn - eatN s wq 0 by rw [show eatN s wq 0 = 0 from rfl]; omega), rfl, rfl, trivial⟩) (by exact ⟨rfl, trivial⟩) ?_
 rintro _ _ _ _ ⟨j, rfl, hj, rfl, rfl, rfl⟩ again
 refine W.go 99 rfl ?_
 refine W.split rfl rfl rfl (fun e2 => W.go 99 rfl ?_) (fun e2 => W.go 99 rfl ?_)
 ·have hjl : j < wq.length := by simpa using e2
  have hwj : wq[j]? = some wq[j] := List.getElem?_eq_getElem hjl
  have hi := hsv.wn _ (List.mem_of_getElem? hwj)
  have hej := heb j (by omega)
  have hes := heb (j + 1) (by omega)
  generalize wq[j] = i at *
  have hx : s.wants[i]? = some s.wants[i] := List.getElem?_eq_getElem hi
  have hxo := hok.wt _ (List.getElem_mem hi)
  have hen := eatN_succ hwj hx
  have htn := topN_succ hwj hx
  have htl := topN_le s wq (j + 1)
  obtain ⟨lad, rfl⟩ := hwq5.addr (show j < (natI wq).length by rw [natI_len]; exact hjl)
  obtain ⟨wad, hwa⟩ := hsw5.wt.addr hi
  have hwt := hsw5.wt
  rw [hwa] at hwt
  have hsw5' := hsw5
  obtain ⟨qa, qb, qc, qd, qe, qf⟩ := p
  obtain rfl : qc = some wad := hwa
  have heb1 := eat_bd hok hxo
  refine W.drawn (by kernel_rfl) _ (Le.refl _) ?_
  refine DD.run' [0, 1, 2, 3, 8] rfl ?_
  refine DD.vf 4 rfl rfl rfl rfl rfl (Vf.idx1 rfl rfl rfl rfl rfl rfl rfl (hjl)) ?_
  refine DD.vf 5 rfl rfl rfl rfl rfl (Vf.load rfl rfl rfl (hwq5.int (x := (i : Int)) (by rw [natI_get, hwj]; rfl))) ?_
  refine DD.vf 6 rfl rfl rfl rfl rfl (Vf.idx rfl rfl rfl rfl rfl rfl (hi)) ?_
  refine DD.vf 7 rfl rfl rfl rfl rfl (Vf.loadN rfl rfl rfl (hwt.whole hx rfl)) ?_
  refine DD.act 9 rfl rfl rfl rfl rfl (Ef.sto rfl) (by rintro _ _ _ ⟨rfl, rfl, rfl⟩; exact ⟨Le.refl _, rfl, .inr rfl⟩) ?_
  rintro _ _ L5 ⟨rfl, rfl, rfl⟩
  refine .fin rfl ?_
  generalize s.wants[i] = x at *
  refine W.weak (E' := [(4, .p 0 0), (5, .v (.slice (some lad) wq.length wc)), (13, .v (.int .i64 (-lw + gn - eatN s wq j))), (14, .v (.int .i64 (topN s wq j : Nat))), (16, .v (.int .i64 j)), (17, .p 1 0)]) (B' := [some ⟨cellsS (.v (swA s ⟨qa, qb, some wad, qd, qe, qf⟩)), 26⟩, some ⟨cellsS (.v (.agg (encWt x).toArray)), 28⟩]) (by exact ⟨rfl, rfl, rfl, rfl, rfl, rfl, trivial⟩) (by exact ⟨rfl, rfl, trivial⟩) ?_
  have hfin : ∀ z : Int, z = eatW s x → IntKind.i64.wrap (-lw + gn - eatN s wq j - z) = -lw + gn - eatN s wq (j + 1) := fun z hz => by
   subst hz
   rw [wrap64_in _ (by omega) (by omega)]; omega
  refine W.go 99 rfl ?_
  refine W.split rfl rfl rfl (fun e3 => W.go 99 rfl ?_) (fun e3 => W.go 99 rfl ?_)
  ·have hx1 : x.sort = 1 := by simpa using e3
   rw [if_neg (by simp [hx1])] at htn
   exact W.again (again _ _ _ _ (by omega) ⟨j + 1, rfl, by omega, rfl, rfl, rfl⟩) (by exact ⟨rfl, rfl, congrArg (fun z => some (SV.v (Value.int .i64 z))) (hfin x.amount (by unfold eatW; rw [if_pos hx1])), congrArg (fun z : Nat => some (SV.v (Value.int .i64 z))) htn.symm, congrArg some (inc64 (by omega)), trivial⟩) (by exact ⟨rfl, trivial⟩)
  have hx1 : x.sort ≠ 1 := by simpa using e3
  have hk0 : 0 ≤ x.kind := by have := hxo.k0; unfold wKd at this; rw [if_neg hx1] at this; exact this
  obtain ⟨kn, hkn⟩ : ∃ kn : Nat, x.kind = (kn : Int) := ⟨x.kind.toNat, by omega⟩
  have hkl : kn < s.loaves.length := by have := hxo.k1; omega
  obtain ⟨oa, a, c', hla, hcell, hsl', hcp⟩ := has_loaf hsw5' hkl
  have hlfj := hok.lf _ (List.getElem_mem hkl)
  have hge : loafAt s x.kind = s.loaves[kn] := by unfold loafAt; rw [hkn, Int.toNat_natCast, List.getD_eq_getElem?_getD, List.getElem?_eq_getElem hkl]; rfl
  have hge2 : s.loaves.getD kn [] = s.loaves[kn] := by rw [List.getD_eq_getElem?_getD, List.getElem?_eq_getElem hkl]; rfl
  have hxa1 := hxo.a1
  have hxa0 := hxo.a0
  unfold wHi at hxa1
  unfold wLo at hxa0
  rw [hkn, Int.toNat_natCast, hge2] at hxa1
  obtain rfl : qa = some oa := hla
  generalize s.loaves[kn] = lf at *
  have hl4 := hlfj.l4
  refine W.split rfl rfl rfl (fun e4 => W.go 99 rfl ?_) (fun e4 => W.go 99 rfl ?_)
  ·have hx0 : x.sort = 0 := by simpa using e4
   rw [if_neg (by simp [hx0])] at htn
   rw [hkn]
   refine W.vf rfl rfl rfl rfl (Vf.idx1 rfl rfl rfl rfl rfl rfl rfl (hkl)) ?_
   refine W.go 99 rfl ?_
   refine W.vf rfl rfl rfl rfl (Vf.load rfl rfl rfl (hcell)) ?_
   refine W.go 99 rfl ?_
   refine W.eff rfl rfl rfl (Ef.call rfl (Sum_sp a c' lf L5 hsl' (by omega) (fun x hx => by have := hlfj.r x hx; omega))) ?_
   rintro _ _ _ ⟨_, rfl, rfl, rfl, rfl⟩
   refine W.go 99 rfl ?_
   exact W.again (again _ _ _ _ (by omega) ⟨j + 1, rfl, by omega, rfl, rfl, rfl⟩) (by exact ⟨rfl, rfl, congrArg (fun z => some (SV.v (Value.int .i64 z))) (hfin (sumL lf) (by unfold eatW; rw [if_neg hx1, if_pos hx0, hge])), congrArg (fun z : Nat => some (SV.v (Value.int .i64 z))) htn.symm, congrArg some (inc64 (by omega)), trivial⟩) (by exact ⟨rfl, trivial⟩)
  ·have hx0 : x.sort ≠ 0 := by simpa using e4
   have hx2 : x.sort = 2 := by have := hxo.s0; have := hxo.s2; omega
   rw [if_neg hx0] at hxa0
   rw [if_neg hx0, if_neg hx1] at hxa1
   rw [if_pos (by simp [hx2])] at htn
   rw [hkn]
   refine W.vf rfl rfl rfl rfl (Vf.idx1 rfl rfl rfl rfl rfl rfl rfl (hkl)) ?_
   refine W.go 99 rfl ?_
   refine W.vf rfl rfl rfl rfl (Vf.load rfl rfl rfl (hcell)) ?_
   refine W.go 99 rfl ?_
   rw [wrap64_in _ (by omega) (by omega), show (lf.length : Int) - x.amount = ((lf.length - x.amount.toNat : Nat) : Int) by omega]
   refine W.vf rfl rfl rfl rfl (Vf.sliceF rfl rfl Tryz.underlying23 size3 (show lf.length - x.amount.toNat ≤ lf.length by omega)) ?_
   refine W.go 99 rfl ?_
   have hs1 := Sum_sp (X := C.X) (fromA a c' (lf.length - x.amount.toNat) 1) (c' - (lf.length - x.amount.toNat)) (lf.drop (lf.length - x.amount.toNat)) L5 (hsl'.drop hcp) (by rw [List.length_drop]; omega) fun x hx => by have := hlfj.r x (List.mem_of_mem_drop hx); omega
   rw [List.length_drop] at hs1
   refine W.eff rfl rfl rfl (Ef.call rfl (hs1)) ?_
   rintro _ _ _ ⟨_, rfl, rfl, rfl, rfl⟩
   refine W.go 99 rfl ?_
   exact W.again (again _ _ _ _ (by omega) ⟨j + 1, rfl, by omega, rfl, rfl, rfl⟩) (by exact ⟨rfl, rfl, congrArg (fun z => some (SV.v (Value.int .i64 z))) (hfin _ (by unfold eatW; rw [if_neg hx1, if_neg hx0, hge])), congrArg (fun z => some (SV.v (Value.int .i64 z))) (show IntKind.i64.wrap (((topN s wq j : Nat) : Int) + 1) = ((topN s wq (j + 1) : Nat) : Int) by rw [wrap64_in _ (by omega) (by omega), htn]; omega), congrArg some (inc64 (by omega)), trivial⟩) (by exact ⟨rfl, trivial⟩)
 ·have hje : j = wq.length := by simp at e2; omega
  subst hje
  have htl := topN_le s wq wq.length
  have hkk := hok.k3
  have hkk0 := hok.k0
  have hm : 0 ≤ s.kerf * ((topN s wq wq.length : Nat) : Int) ∧ s.kerf * ((topN s wq wq.length : Nat) : Int) ≤ 3 * 5 := ⟨Int.mul_nonneg hkk0 (by omega), Int.mul_le_mul hkk (by omega) (by omega) (by omega)⟩
  obtain ⟨hwd1, hwd2⟩ := hwd
  refine W.asLit 171 (p := true) rfl (by show some (decide (0 ≤ -lw + gn - eatN s wq wq.length)) = some true; rw [decide_eq_true hwd1]) ?_
  refine W.go 99 rfl ?_
  rw [wrap64_in (s.kerf * _) (by omega) (by omega)]
  refine W.asLit 179 (p := true) rfl (by show some (decide (-lw + gn - eatN s wq wq.length ≤ s.kerf * ((topN s wq wq.length : Nat) : Int))) = some true; rw [decide_eq_true hwd2]) ?_
  refine W.go 99 rfl ?_
  refine W.eff rfl rfl rfl (Ef.call rfl (drd L5 (hgl.le hL5))) ?_
  rintro _ _ _ ⟨_, rfl, rfl, rfl, hdm⟩
  refine W.go 99 rfl ?_
  exact W.retO r rfl ⟨rfl, (Dim.of_le hL5).trans hdm⟩
end Go.Mz

