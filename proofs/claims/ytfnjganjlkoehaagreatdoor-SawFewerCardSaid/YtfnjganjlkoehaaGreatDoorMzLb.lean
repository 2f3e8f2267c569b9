/- Lemmas on which the claim leans. -/
import Derived.Test.YtfnjganjlkoehaaGreatDoorMzLa
namespace Go.Mz
open Go
theorem okW_iff {s : Sw} (hok : SOk s) {w : List Nat} {l : List Int} : okW s w l = true ↔
  (∀ k, k < s.loaves.length → tkN (wantsOf s w) k + l.getD k 0 ≤ s.stock.getD k 0) ∧ (∀ k, k < s.loaves.length → tksN k (wantsOf s w) ≤ l.getD k 0 * sumL (s.loaves.getD k []) + suN s (wantsOf s w) k) ∧ tksN (-1) (wantsOf s w) ≤ sumL (sugarD s (wantsOf s w) l) := by
 unfold okW
 rw [right_eq hok]
 constructor
 ·intro h
  split at h
  ·simp at h
  ·rename_i h1
   split at h
   ·simp at h
   ·rename_i h2
    split at h
    ·simp at h
    ·rename_i h3
     simp only [List.any_eq_true, List.mem_range, decide_eq_true_eq, not_exists, not_and, Int.not_lt] at h1 h2 h3
     exact ⟨fun k hk => h1 k hk, fun k hk => h2 k hk, h3⟩
 ·rintro ⟨h1, h2, h3⟩
  rw [if_neg, if_neg, if_neg (by omega)]; · rfl
  ·simp only [List.any_eq_true, List.mem_range, decide_eq_true_eq, not_exists, not_and, Int.not_lt]
   exact h2
  ·simp only [List.any_eq_true, List.mem_range, decide_eq_true_eq, not_exists, not_and, Int.not_lt]
   exact h1
theorem sum_map_le {n : Nat} {f g : Nat → Int} (h : ∀ k, k < n → f k ≤ g k) : sumL ((List.range n).map f) ≤ sumL ((List.range n).map g) := by
 induction n with
 | zero => exact Int.le_refl _
 | succ n ih =>
  rw [List.range_succ, List.map_append, List.map_append, sumL_append, sumL_append]
  have := ih fun k hk => h k (by omega)
  have := h n (by omega)
  simp only [List.map_cons, List.map_nil, sumL_cons, sumL_nil]; omega
theorem mem_lists : ∀ {st l : List Int}, l.length = st.length → (∀ k, k < st.length → 0 ≤ l.getD k 0 ∧ l.getD k 0 ≤ st.getD k 0) → l ∈ listsW st
 | [], l, hl, _ => by
  have : l = [] := List.length_eq_zero_iff.1 hl
  subst this
  simp [listsW]
 | m :: st, l, hl, h => by
  obtain ⟨x, t, rfl⟩ : ∃ x t, l = x :: t := by
   cases l with
   | nil => simp at hl
   | cons x t => exact ⟨x, t, rfl⟩
  have h0 := h 0 (by simp)
  simp at h0
  rw [listsW, List.mem_flatMap]
  refine ⟨x.toNat, List.mem_range.2 (by omega), ?_⟩
  rw [show ((x.toNat : Nat) : Int) = x by omega]
  refine List.mem_map.2 ⟨t, mem_lists (by simpa using hl) fun k hk => ?_, rfl⟩
  have := h (k + 1) (by simp; omega)
  simpa using this
theorem plans_iff {s : Sw} (hok : SOk s) {w : List Nat} {l : List Int} : l ∈ plansW s w ↔ l ∈ listsW s.stock ∧ okW s w l = true := by
 rw [plansW_doc hok, List.mem_filter]
theorem ltCr_trans (a b c : Cr) (h1 : ltCr a b = true) (h2 : ltCr b c = true) : ltCr a c = true := by
 unfold ltCr at *
 simp at *
 omega
theorem ltCr_irr (a : Cr) : ltCr a a = false := by unfold ltCr; simp
theorem crush_min {s : Sw} {w : List Nat} {c : Cr} (h : crushW s w = some c) : (∃ l ∈ plansW s w, c = crOf s w l) ∧ ∀ l ∈ plansW s w, ltCr (crOf s w l) c = false := by
 obtain ⟨h1, h2⟩ := firstBy_min ltCr_trans ltCr_irr _ _ h
 obtain ⟨l, hl, he⟩ := List.mem_map.1 h1
 exact ⟨⟨l, hl, he.symm⟩, fun l hl => h2 _ (List.mem_map.2 ⟨l, hl, rfl⟩)⟩
theorem crush_le {s : Sw} {w : List Nat} {l : List Int} (hl : l ∈ plansW s w) : ∃ c, crushW s w = some c ∧ c.c ≤ sumL (planW s w l).t := by
 obtain ⟨c, hc⟩ := firstBy_some (lt := ltCr) (l := (plansW s w).map (crOf s w)) (fun h => by
  have h1 := List.mem_map.2 ⟨l, hl, (rfl : crOf s w l = crOf s w l)⟩
  rw [h] at h1; cases h1)
 have hc' : crushW s w = some c := hc
 refine ⟨c, hc', ?_⟩
 have h2 := (crush_min hc').2 l hl
 unfold ltCr at h2
 rw [Bool.or_eq_false_iff, decide_eq_false_iff_not] at h2
 have h3 := h2.1
 have h4 : (crOf s w l).c = sumL (planW s w l).t := rfl
 omega
theorem crush_no {s : Sw} {w : List Nat} : crushW s w = none ↔ plansW s w = [] := by
 constructor
 ·intro h
  cases hp : plansW s w with
  | nil => rfl
  | cons l t =>
   obtain ⟨c, hc, _⟩ := crush_le (s := s) (w := w) (l := l) (by rw [hp]; exact List.mem_cons_self)
   rw [hc] at h; cases h
 ·intro h; unfold crushW; rw [h]; rfl
theorem tkN_app (a b : List Want) (k : Nat) : tkN (a ++ b) k = tkN a k + tkN b k := by unfold tkN; rw [List.countP_append]; omega
theorem suN_app (s : Sw) (a b : List Want) (k : Nat) : suN s (a ++ b) k = suN s a k + suN s b k := by unfold suN; rw [List.filter_append, List.map_append, sumL_append]
theorem tksN_app (k : Int) (a b : List Want) : tksN k (a ++ b) = tksN k a + tksN k b := by unfold tksN; rw [List.filter_append, List.map_append, sumL_append]
theorem tksN_cons (k : Int) (x : Want) (xs : List Want) : tksN k (x :: xs) = tksN k xs + if isTks k x then x.amount else 0 := by
 rw [show x :: xs = [x] ++ xs from rfl, tksN_app]
 unfold tksN
 by_cases h : isTks k x <;> simp [List.filter_cons, h, sumL] <;> omega
theorem rest_le {s : Sw} (hok : SOk s) (x : Want) : 0 ≤ restW s x ∧ restW s x ≤ sumL (loafAt s x.kind) := by
 have hl : ∀ y ∈ loafAt s x.kind, 0 ≤ y := fun y hy => by
  unfold loafAt at hy
  rw [List.getD_eq_getElem?_getD] at hy
  cases e : s.loaves[x.kind.toNat]? with
  | none => rw [e] at hy; cases hy
  | some l => rw [e] at hy; have := (hok.lf l (List.mem_of_getElem? e)).r y hy; omega
 have h0 : ∀ m : List Int, (∀ y ∈ m, 0 ≤ y) → 0 ≤ sumL m := fun m hm => by
  induction m with
  | nil => exact Int.le_refl 0
  | cons a m ih => rw [sumL_cons]; have := hm a List.mem_cons_self; have := ih fun y hy => hm y (List.mem_cons_of_mem _ hy); omega
 have k0 := hok.k0
 unfold restW
 generalize loafAt s x.kind = lf at *
 generalize lf.length - x.amount.toNat = j
 have h1 := sumL_append (lf.take j) (lf.drop j)
 rw [List.take_append_drop] at h1
 have h2 := h0 (lf.drop j) fun y hy => hl y (List.mem_of_mem_drop hy)
 have h3 := h0 _ hl
 omega
end Go.Mz


namespace Go.Mz
open Go
structure OkX (s : Sw) (xs : List Want) (l : List Int) : Prop where
 a : ∀ k, k < s.loaves.length → tkN xs k + l.getD k 0 ≤ s.stock.getD k 0
 b : ∀ k, k < s.loaves.length → tksN k xs ≤ l.getD k 0 * sumL (s.loaves.getD k []) + suN s xs k
 c : tksN (-1) xs ≤ sumL (sugarD s xs l)
theorem okX_iff {s : Sw} (hok : SOk s) {w : List Nat} {l : List Int} : okW s w l = true ↔ OkX s (wantsOf s w) l := by
 rw [okW_iff hok]
 exact ⟨fun ⟨h1, h2, h3⟩ => ⟨h1, h2, h3⟩, fun h => ⟨h.a, h.b, h.c⟩⟩
theorem cones_eq {s : Sw} (hok : SOk s) (w : List Nat) (l : List Int) : sumL (planW s w l).t = sumL ((List.range s.loaves.length).map fun k => tkN (wantsOf s w) k + l.getD k 0) := by
 rw [planW_eq hok, sum3]
 have h1 := hok.l1
 have h3 := hok.l3
 have far : ∀ k, s.loaves.length ≤ k → tkN (wantsOf s w) k = 0 := fun k hk => by
  unfold tkN
  rw [show List.countP (isTk k) (wantsOf s w) = 0 from List.countP_eq_zero.2 fun x hx => by
   have := (wants_mem hok hx).k1
   unfold isTk
   simp
   omega]
  rfl
 have : s.loaves.length = 1 ∨ s.loaves.length = 2 ∨ s.loaves.length = 3 := by omega
 rcases this with e | e | e
 ·rw [e]
  simp [List.range_succ, lfN, e, far 1 (by omega), far 2 (by omega), sumL]
 ·rw [e]
  simp [List.range_succ, lfN, e, far 2 (by omega), sumL]
 ·rw [e]
  simp [List.range_succ, lfN, e, sumL]
theorem plan_in {s : Sw} (hok : SOk s) {w : List Nat} {l : List Int} (hl : l.length = s.stock.length) (h0 : ∀ k, k < s.stock.length → 0 ≤ l.getD k 0) (h : OkX s (wantsOf s w) l) : l ∈ plansW s w := by
 refine (plans_iff hok).2 ⟨mem_lists hl fun k hk => ⟨h0 k hk, ?_⟩, (okX_iff hok).2 h⟩
 have := h.a k (by have := hok.st; omega)
 have := (tkN_bd (wantsOf s w) k).1
 omega
theorem plan_out {s : Sw} (hok : SOk s) {w : List Nat} {l : List Int} (h : l ∈ plansW s w) : l.length = s.stock.length ∧ (∀ k, 0 ≤ l.getD k 0) ∧ OkX s (wantsOf s w) l := by
 obtain ⟨h1, h2⟩ := (plans_iff hok).1 h
 obtain ⟨h3, h4⟩ := listsW_mem h1
 exact ⟨h3, fun k => (h4 k).1, (okX_iff hok).1 h2⟩
theorem served_by {s s' : Sw} (hok : SOk s) (hok' : SOk s') {w w' : List Nat} {c : Cr} (hc : crushW s w = some c)
  (H : ∀ l : List Int, l.length = s.stock.length → (∀ k, 0 ≤ l.getD k 0) → OkX s (wantsOf s w) l → ∃ l' : List Int, l'.length = s'.stock.length ∧ (∀ k, k < s'.stock.length → 0 ≤ l'.getD k 0) ∧ OkX s' (wantsOf s' w') l' ∧ sumL ((List.range s'.loaves.length).map fun k => tkN (wantsOf s' w') k + l'.getD k 0) ≤ sumL ((List.range s.loaves.length).map fun k => tkN (wantsOf s w) k + l.getD k 0)) :
  ∃ c', crushW s' w' = some c' ∧ c'.c ≤ c.c := by
 obtain ⟨⟨l, hl, rfl⟩, _⟩ := crush_min hc
 obtain ⟨h1, h2, h3⟩ := plan_out hok hl
 obtain ⟨l', g1, g2, g3, g4⟩ := H l h1 h2 h3
 obtain ⟨c', hc', hle⟩ := crush_le (plan_in hok' g1 g2 g3)
 refine ⟨c', hc', ?_⟩
 rw [cones_eq hok'] at hle
 show c'.c ≤ sumL (planW s w l).t
 rw [cones_eq hok]
 omega
theorem fewer_plan {s : Sw} (hok : SOk s) {A B : List Want} {x : Want} (hx : WtOk s.loaves x) {l : List Int} (hl : l.length = s.stock.length) (h0 : ∀ k, 0 ≤ l.getD k 0) (h : OkX s (A ++ x :: B) l) :
  ∃ l' : List Int, l'.length = s.stock.length ∧ (∀ k, k < s.stock.length → 0 ≤ l'.getD k 0) ∧ OkX s (A ++ B) l' ∧ sumL ((List.range s.loaves.length).map fun k => tkN (A ++ B) k + l'.getD k 0) ≤ sumL ((List.range s.loaves.length).map fun k => tkN (A ++ x :: B) k + l.getD k 0) := by
 have et : ∀ k, tkN (A ++ x :: B) k = tkN (A ++ B) k + if isTk k x then 1 else 0 := fun k => by
  rw [tkN_app, tkN_app, tkN_cons]; omega
 have es : ∀ k, suN s (A ++ x :: B) k = suN s (A ++ B) k + if isTp k x then restW s x else 0 := fun k => by
  rw [suN_app, suN_app, suN_cons]; omega
 have ek : ∀ k, tksN k (A ++ x :: B) = tksN k (A ++ B) + if isTks k x then x.amount else 0 := fun k => by
  rw [tksN_app, tksN_app, tksN_cons]; omega
 have ha : 0 ≤ x.amount := by have := hx.a0; unfold wLo at this; split at this <;> omega
 have hks : ∀ k, tksN k (A ++ B) ≤ tksN k (A ++ x :: B) := fun k => by rw [ek]; split <;> omega
 obtain ⟨r0, r1⟩ := rest_le hok x
 have hst := hok.st
 by_cases h2 : x.sort = 2
 ·have hk0 : 0 ≤ x.kind := by have := hx.k0; unfold wKd at this; rw [if_neg (by omega)] at this; exact this
  have hk1 := hx.k1
  obtain ⟨n, hn⟩ : ∃ n : Nat, x.kind = (n : Int) := ⟨x.kind.toNat, by omega⟩
  have hnl : n < s.loaves.length := by omega
  have itk : ∀ k : Nat, isTk k x = decide (k = n) := fun k => by
   unfold isTk
   rw [h2, hn, Bool.eq_iff_iff]
   simp
   omega
  have itp : ∀ k : Nat, isTp k x = decide (k = n) := fun k => by
   unfold isTp
   rw [h2, hn, Bool.eq_iff_iff]
   simp
   omega
  have r2 : restW s x ≤ sumL (s.loaves.getD n []) := by
   have e : loafAt s x.kind = s.loaves.getD n [] := by unfold loafAt; rw [hn]; rfl
   rw [← e]; exact r1
  have hg : ∀ k, (l.modify n (· + 1)).getD k 0 = l.getD k 0 + if k = n then (if n < l.length then 1 else 0) else 0 := fun k => by
   rw [List.getD_eq_getElem?_getD, List.getElem?_modify, List.getD_eq_getElem?_getD]
   by_cases e : n = k
   ·subst e
    rw [if_pos rfl]
    by_cases hb : n < l.length
    ·rw [List.getElem?_eq_getElem hb, if_pos hb]; simp
    ·rw [List.getElem?_eq_none (by omega), if_neg hb]; rfl
   ·rw [if_neg (fun h => e h.symm)]; simp [e]
  rw [if_pos (show n < l.length by omega)] at hg
  have e1 : ∀ k, tkN (A ++ B) k + (l.modify n (· + 1)).getD k 0 = tkN (A ++ x :: B) k + l.getD k 0 := fun k => by
   rw [hg, et, itk]
   by_cases e : k = n
   ·simp [e]; omega
   ·simp [e]
  have e2 : ∀ k, l.getD k 0 * sumL (s.loaves.getD k []) + suN s (A ++ x :: B) k ≤ (l.modify n (· + 1)).getD k 0 * sumL (s.loaves.getD k []) + suN s (A ++ B) k := fun k => by
   rw [hg, es, itp]
   by_cases e : k = n
   ·subst e
    simp only [decide_true, if_true]
    rw [Int.add_mul]
    omega
   ·simp [e]
  refine ⟨l.modify n (· + 1), by rw [List.length_modify]; exact hl, fun k _ => ?_, ⟨fun k hk => ?_, fun k hk => ?_, ?_⟩, ?_⟩
  ·rw [hg]; have := h0 k; split <;> omega
  ·rw [e1]; exact h.a k hk
  ·have := h.b k hk; have := e2 k; have := hks k; omega
  ·have h1 := h.c
   have h3 := hks (-1)
   have : sumL (sugarD s (A ++ x :: B) l) ≤ sumL (sugarD s (A ++ B) (l.modify n (· + 1))) := sum_map_le fun k hk => e2 k
   omega
  ·exact sum_map_le fun k hk => by rw [e1]; exact Int.le_refl _
 ·have e1 : ∀ k, tkN (A ++ B) k ≤ tkN (A ++ x :: B) k := fun k => by rw [et]; split <;> omega
  have e2 : ∀ k, suN s (A ++ x :: B) k = suN s (A ++ B) k := fun k => by
   rw [es, if_neg (by unfold isTp; simp [h2])]; omega
  refine ⟨l, hl, fun k _ => h0 k, ⟨fun k hk => ?_, fun k hk => ?_, ?_⟩, ?_⟩
  ·have := h.a k hk; have := e1 k; omega
  ·have h4 := h.b k hk; have h5 := hks k; rw [e2] at h4; omega
  ·have h1 := h.c
   have h3 := hks (-1)
   have : sumL (sugarD s (A ++ x :: B) l) ≤ sumL (sugarD s (A ++ B) l) := sum_map_le fun k hk => by rw [e2]; exact Int.le_refl _
   omega
  ·exact sum_map_le fun k hk => by have := e1 k; omega
theorem wantsOf_app (s : Sw) (a b : List Nat) : wantsOf s (a ++ b) = wantsOf s a ++ wantsOf s b := by unfold wantsOf; rw [List.filterMap_append]
theorem fewer_crush {s : Sw} (hok : SOk s) {a b : List Nat} {i : Nat} (hi : i < s.wants.length) {c : Cr} (hc : crushW s (a ++ i :: b) = some c) : ∃ c', crushW s (a ++ b) = some c' ∧ c'.c ≤ c.c := by
 have e1 : wantsOf s (a ++ i :: b) = wantsOf s a ++ s.wants[i] :: wantsOf s b := by
  rw [wantsOf_app]
  congr 1
  unfold wantsOf
  rw [List.filterMap_cons, List.getElem?_eq_getElem hi]
 refine served_by hok hok hc fun l hl h0 h => ?_
 rw [e1] at h ⊢
 rw [wantsOf_app]
 exact fewer_plan hok (hok.wt _ (List.getElem_mem hi)) hl h0 h
end Go.Mz


namespace Go.Mz
open Go
def strip (x : Want) : Want := { x with pay := 0 }
structure Better (s s' : Sw) : Prop where
 lo : s'.loaves = s.loaves
 sl : s'.stock.length = s.stock.length
 st : ∀ k, s.stock.getD k 0 ≤ s'.stock.getD k 0
 ke : s'.kerf ≤ s.kerf
 wt : s'.wants.map strip = s.wants.map strip
 py : ∀ (i : Nat) (x y : Want), s.wants[i]? = some x → s'.wants[i]? = some y → x.pay ≤ y.pay
theorem Better.wl {s s' : Sw} (h : Better s s') : s'.wants.length = s.wants.length := by
 have := congrArg List.length h.wt
 simpa using this
theorem wants_strip (s : Sw) (w : List Nat) : (wantsOf s w).map strip = w.filterMap ((s.wants.map strip)[·]?) := by
 unfold wantsOf
 rw [List.map_filterMap]
 congr 1
 funext i
 rw [List.getElem?_map]
theorem tkN_strip (xs : List Want) (k : Nat) : tkN (xs.map strip) k = tkN xs k := by
 unfold tkN
 rw [List.countP_map]
 rfl
theorem tksN_strip (k : Int) (xs : List Want) : tksN k (xs.map strip) = tksN k xs := by
 unfold tksN
 rw [List.filter_map, List.map_map]
 rfl
theorem suN_strip (s : Sw) (xs : List Want) (k : Nat) : suN s (xs.map strip) k = suN s xs k := by
 unfold suN
 rw [List.filter_map, List.map_map]
 rfl
theorem suN_le {s s' : Sw} (h : ∀ x, restW s x ≤ restW s' x) (xs : List Want) (k : Nat) : suN s xs k ≤ suN s' xs k := by
 induction xs with
 | nil => exact Int.le_refl _
 | cons x xs ih => rw [suN_cons, suN_cons]; have := h x; split <;> omega
theorem Better.rest {s s' : Sw} (h : Better s s') (x : Want) : restW s x ≤ restW s' x := by
 unfold restW loafAt
 rw [h.lo]
 have := h.ke
 omega
theorem Better.ok {s s' : Sw} (h : Better s s') {w : List Nat} {l : List Int} (ho : OkX s (wantsOf s w) l) : OkX s' (wantsOf s' w) l := by
 have e : (wantsOf s' w).map strip = (wantsOf s w).map strip := by rw [wants_strip, wants_strip, h.wt]
 have e1 : ∀ k, tkN (wantsOf s' w) k = tkN (wantsOf s w) k := fun k => by rw [← tkN_strip, e, tkN_strip]
 have e2 : ∀ k, tksN k (wantsOf s' w) = tksN k (wantsOf s w) := fun k => by rw [← tksN_strip, e, tksN_strip]
 have e3 : ∀ k, suN s (wantsOf s w) k ≤ suN s' (wantsOf s' w) k := fun k => by
  rw [← suN_strip s' (wantsOf s' w), e, suN_strip]
  exact suN_le h.rest _ k
 refine ⟨fun k hk => ?_, fun k hk => ?_, ?_⟩
 ·rw [e1]; have := ho.a k (by rw [← h.lo]; exact hk); have := h.st k; omega
 ·rw [e2, h.lo]; have := ho.b k (by rw [← h.lo]; exact hk); have := e3 k; omega
 ·rw [e2]
  have h1 := ho.c
  have : sumL (sugarD s (wantsOf s w) l) ≤ sumL (sugarD s' (wantsOf s' w) l) := by
   unfold sugarD
   rw [h.lo]
   exact sum_map_le fun k _ => by have := e3 k; omega
  omega
theorem Better.tk {s s' : Sw} (h : Better s s') (w : List Nat) (k : Nat) : tkN (wantsOf s' w) k = tkN (wantsOf s w) k := by
 rw [← tkN_strip, wants_strip, h.wt, ← wants_strip, tkN_strip]
theorem Better.crush {s s' : Sw} (hok : SOk s) (hok' : SOk s') (h : Better s s') {w : List Nat} {c : Cr} (hc : crushW s w = some c) : ∃ c', crushW s' w = some c' ∧ c'.c ≤ c.c :=
 served_by hok hok' hc fun l hl h0 ho => ⟨l, by rw [hl, h.sl], fun k _ => h0 k, h.ok ho, by rw [h.lo]; exact sum_map_le fun k _ => by rw [h.tk]; exact Int.le_refl _⟩
theorem Better.pay {s s' : Sw} (h : Better s s') : ∀ w : List Nat, payW s w ≤ payW s' w
 | [] => Int.le_refl _
 | i :: w => by
  have ih := Better.pay h w
  have e : ∀ s : Sw, payW s (i :: w) = payW s [i] + payW s w := fun s => by
   unfold payW
   rw [show i :: w = [i] ++ w from rfl, wantsOf_app, List.map_append, sumL_append]
  rw [e s, e s']
  have h1 : payW s [i] ≤ payW s' [i] := by
   have hl := h.wl
   have p1 : ∀ s : Sw, payW s [i] = match s.wants[i]? with | some x => x.pay | none => 0 := fun s => by
    unfold payW wantsOf
    rw [List.filterMap_cons]
    cases s.wants[i]? <;> simp [sumL]
   rw [p1, p1]
   cases e1 : s.wants[i]? with
   | none =>
    rw [List.getElem?_eq_none_iff] at e1
    rw [List.getElem?_eq_none (by omega)]
    exact Int.le_refl _
   | some x =>
    have hi := (List.getElem?_eq_some_iff.1 e1).1
    rw [List.getElem?_eq_getElem (show i < s'.wants.length by omega)]
    exact h.py i x _ e1 (List.getElem?_eq_getElem _)
  omega
theorem Better.most {s s' : Sw} (hok : SOk s) (hok' : SOk s') (h : Better s s') : mostW s (servedL s) ≤ mostW s' (servedL s') := by
 obtain ⟨w, hw, hp⟩ := mostW_mem hok (servedL s) (served_ne hok)
 obtain ⟨h1, c, hc⟩ := served_iff.1 hw
 obtain ⟨c', hc', _⟩ := h.crush hok hok' hc
 have hw' : w ∈ servedL s' := served_iff.2 ⟨by rw [h.wl]; exact h1, c', hc'⟩
 have := mostW_le s' (servedL s') w hw'
 have := h.pay w
 omega
theorem servedW_iff {s : Sw} : servedW s = true ↔ ∃ c, crushW s (fullW s) = some c := by
 unfold servedW
 cases e : crushW s (fullW s) with
 | none => rw [crush_no.1 e]; simp
 | some c =>
  refine ⟨fun _ => ⟨c, rfl⟩, fun _ => ?_⟩
  cases h : plansW s (fullW s) with
  | nil => rw [crush_no.2 h] at e; cases e
  | cons => rfl
theorem Better.served {s s' : Sw} (hok : SOk s) (hok' : SOk s') (h : Better s s') (hs : servedW s = true) : servedW s' = true := by
 obtain ⟨c, hc⟩ := servedW_iff.1 hs
 obtain ⟨c', hc', _⟩ := h.crush hok hok' hc
 refine servedW_iff.2 ⟨c', ?_⟩
 rw [show fullW s' = fullW s by unfold fullW; rw [h.wl]]
 exact hc'
theorem moreK_get (s : Sw) (k n j : Nat) : (moreK s k n).stock.getD j 0 = s.stock.getD j 0 + if j = k ∧ k < s.stock.length then (n : Int) else 0 := by
 show (s.stock.modify k (· + (n : Int))).getD j 0 = _
 rw [List.getD_eq_getElem?_getD, List.getElem?_modify, List.getD_eq_getElem?_getD]
 by_cases e : k = j
 ·subst e
  by_cases hb : k < s.stock.length
  ·rw [List.getElem?_eq_getElem hb]; simp [hb]
  ·rw [List.getElem?_eq_none (by omega)]; simp [hb]
 ·rw [if_neg (fun h => e h.1.symm)]; simp [e]
theorem SOk.more {s : Sw} (h : SOk s) (h4 : ∀ x ∈ s.stock, 0 ≤ x ∧ x ≤ 4) (k : Nat) {n : Nat} (hn : n ≤ 4) : SOk (moreK s k n) :=
 ⟨h.l1, h.l3, h.lf, (by show (s.stock.modify k _).length = _; rw [List.length_modify]; exact h.st), fun x hx => by
  obtain ⟨j, hj, rfl⟩ := List.getElem_of_mem hx
  have e := moreK_get s k n j
  rw [List.getD_eq_getElem?_getD, List.getElem?_eq_getElem hj, Option.getD_some] at e
  have hj' : j < s.stock.length := by have : j < (s.stock.modify k (· + (n : Int))).length := hj; rwa [List.length_modify] at this
  rw [e, List.getD_eq_getElem?_getD, List.getElem?_eq_getElem hj', Option.getD_some]
  have := h4 _ (List.getElem_mem hj')
  split <;> omega, h.k0, h.k3, h.w5, h.wt⟩
end Go.Mz


namespace Go.Mz
open Go
def renW (f : Nat → Nat) (x : Want) : Want := if x.kind < 0 then x else { x with kind := (f x.kind.toNat : Nat) }
structure Ren (s s' : Sw) (f g : Nat → Nat) : Prop where
 ll : s'.loaves.length = s.loaves.length
 sl : s'.stock.length = s.stock.length
 f1 : ∀ k, k < s.loaves.length → f k < s.loaves.length ∧ g (f k) = k
 g1 : ∀ k, k < s.loaves.length → g k < s.loaves.length ∧ f (g k) = k
 lo : ∀ k, k < s.loaves.length → s'.loaves.getD (f k) [] = s.loaves.getD k []
 st : ∀ k, k < s.loaves.length → s'.stock.getD (f k) 0 = s.stock.getD k 0
 ke : s'.kerf = s.kerf
 wt : s'.wants = s.wants.map (renW f)
theorem renW_0 {f : Nat → Nat} {x : Want} (h : x.kind < 0) : renW f x = x := if_pos h
theorem renW_n {f : Nat → Nat} {x : Want} {n : Nat} (h : x.kind = (n : Int)) : renW f x = { x with kind := (f n : Nat) } := by
 unfold renW
 rw [if_neg (by omega), h]
 rfl
theorem renW_sort (f : Nat → Nat) (x : Want) : (renW f x).sort = x.sort := by unfold renW; split <;> rfl
theorem renW_amount (f : Nat → Nat) (x : Want) : (renW f x).amount = x.amount := by unfold renW; split <;> rfl
theorem renW_pay (f : Nat → Nat) (x : Want) : (renW f x).pay = x.pay := by unfold renW; split <;> rfl
theorem Ren.symm {s s' : Sw} {f g : Nat → Nat} (hok : SOk s) (h : Ren s s' f g) : Ren s' s g f where
 ll := h.ll.symm
 sl := h.sl.symm
 f1 := fun k hk => by rw [h.ll] at hk ⊢; exact h.g1 k hk
 g1 := fun k hk => by rw [h.ll] at hk ⊢; exact h.f1 k hk
 lo := fun k hk => by
  rw [h.ll] at hk
  have e := h.g1 k hk
  rw [← h.lo _ e.1, e.2]
 st := fun k hk => by
  rw [h.ll] at hk
  have e := h.g1 k hk
  rw [← h.st _ e.1, e.2]
 ke := h.ke.symm
 wt := by
  rw [h.wt, List.map_map]
  refine (List.map_congr_left (f := id) fun x hx => ?_).symm.trans ?_ |>.symm
  ·have hw := hok.wt x hx
   by_cases e : x.kind < 0
   ·show x = renW g (renW f x)
    rw [renW_0 e, renW_0 e]
   ·obtain ⟨n, hn⟩ : ∃ n : Nat, x.kind = (n : Int) := ⟨x.kind.toNat, by omega⟩
    have := hw.k1
    have hg := (h.f1 n (by omega)).2
    show x = renW g (renW f x)
    rw [renW_n hn, renW_n (n := f n) rfl, hg]
    cases x
    simp only at hn
    subst hn
    rfl
  ·exact List.map_id _
theorem wants_ren {s s' : Sw} {f g : Nat → Nat} (h : Ren s s' f g) (w : List Nat) : wantsOf s' w = (wantsOf s w).map (renW f) := by
 unfold wantsOf
 rw [List.map_filterMap, h.wt]
 congr 1
 funext i
 rw [List.getElem?_map]
theorem pay_ren {s s' : Sw} {f g : Nat → Nat} (h : Ren s s' f g) (w : List Nat) : payW s' w = payW s w := by
 unfold payW
 rw [wants_ren h, List.map_map]
 congr 1
 exact List.map_congr_left fun x _ => renW_pay f x
theorem map_on {n : Nat} {f g : Nat → Int} (h : ∀ k, k < n → f k = g k) : (List.range n).map f = (List.range n).map g := List.map_congr_left fun k hk => h k (List.mem_range.1 hk)
theorem sum_ren {n : Nat} (hn : n ≤ 3) {f g : Nat → Nat} (hf : ∀ k, k < n → f k < n ∧ g (f k) = k) (F : Nat → Int) : sumL ((List.range n).map F) = sumL ((List.range n).map fun k => F (f k)) := by
 have c : n = 0 ∨ n = 1 ∨ n = 2 ∨ n = 3 := by omega
 rcases c with rfl | rfl | rfl | rfl
 ·rfl
 ·have := (hf 0 (by omega)).1
  rw [show List.range 1 = [0] from rfl]
  simp only [List.map_cons, List.map_nil, sumL_cons, sumL_nil]
  rw [show f 0 = 0 by omega]
 ·obtain ⟨a1, a2⟩ := hf 0 (by omega)
  obtain ⟨b1, b2⟩ := hf 1 (by omega)
  rw [show List.range 2 = [0, 1] from rfl]
  simp only [List.map_cons, List.map_nil, sumL_cons, sumL_nil]
  generalize f 0 = x at *
  generalize f 1 = y at *
  have hne : x ≠ y := fun e => by subst e; omega
  have c : (x = 0 ∧ y = 1) ∨ (x = 1 ∧ y = 0) := by omega
  rcases c with ⟨rfl, rfl⟩ | ⟨rfl, rfl⟩ <;> omega
 ·obtain ⟨a1, a2⟩ := hf 0 (by omega)
  obtain ⟨b1, b2⟩ := hf 1 (by omega)
  obtain ⟨c1, c2⟩ := hf 2 (by omega)
  rw [show List.range 3 = [0, 1, 2] from rfl]
  simp only [List.map_cons, List.map_nil, sumL_cons, sumL_nil]
  generalize f 0 = x at *
  generalize f 1 = y at *
  generalize f 2 = z at *
  have h1 : x ≠ y := fun e => by subst e; omega
  have h2 : x ≠ z := fun e => by subst e; omega
  have h3 : y ≠ z := fun e => by subst e; omega
  have c : (x = 0 ∧ y = 1 ∧ z = 2) ∨ (x = 0 ∧ y = 2 ∧ z = 1) ∨ (x = 1 ∧ y = 0 ∧ z = 2) ∨ (x = 1 ∧ y = 2 ∧ z = 0) ∨ (x = 2 ∧ y = 0 ∧ z = 1) ∨ (x = 2 ∧ y = 1 ∧ z = 0) := by omega
  rcases c with ⟨rfl, rfl, rfl⟩ | ⟨rfl, rfl, rfl⟩ | ⟨rfl, rfl, rfl⟩ | ⟨rfl, rfl, rfl⟩ | ⟨rfl, rfl, rfl⟩ | ⟨rfl, rfl, rfl⟩ <;> omega
section
variable {s s' : Sw} {f g : Nat → Nat}
theorem Ren.kind (h : Ren s s' f g) {x : Want} (hx : WtOk s.loaves x) {k : Nat} (hk : k < s.loaves.length) : ((renW f x).kind == ((f k : Nat) : Int)) = (x.kind == (k : Int)) := by
 by_cases e : x.kind < 0
 ·rw [renW_0 e, Bool.eq_iff_iff, beq_iff_eq, beq_iff_eq]; omega
 ·obtain ⟨n, hn⟩ : ∃ n : Nat, x.kind = (n : Int) := ⟨x.kind.toNat, by omega⟩
  have := hx.k1
  have g1 := (h.f1 n (by omega)).2
  have g2 := (h.f1 k hk).2
  rw [renW_n hn, hn, Bool.eq_iff_iff, beq_iff_eq, beq_iff_eq]
  show ((f n : Nat) : Int) = _ ↔ _
  constructor
  ·intro e
   have e : f n = f k := by omega
   rw [e] at g1
   omega
  ·intro e
   rw [show n = k by omega]
theorem Ren.neg (h : Ren s s' f g) (x : Want) : (renW f x).kind < 0 ↔ x.kind < 0 := by
 by_cases e : x.kind < 0
 ·rw [renW_0 e]
 ·obtain ⟨n, hn⟩ : ∃ n : Nat, x.kind = (n : Int) := ⟨x.kind.toNat, by omega⟩
  rw [renW_n hn]
  show ((f n : Nat) : Int) < 0 ↔ _
  omega
theorem Ren.rest (h : Ren s s' f g) {x : Want} (hx : WtOk s.loaves x) (h0 : 0 ≤ x.kind) : restW s' (renW f x) = restW s x := by
 obtain ⟨n, hn⟩ : ∃ n : Nat, x.kind = (n : Int) := ⟨x.kind.toNat, by omega⟩
 have := hx.k1
 have hl := h.lo n (by omega)
 unfold restW
 rw [renW_amount, h.ke, show loafAt s' (renW f x).kind = loafAt s x.kind by
  unfold loafAt
  rw [renW_n hn, hn]
  exact hl]
variable {xs : List Want} (hxs : ∀ x ∈ xs, WtOk s.loaves x)
include hxs
theorem Ren.tk (h : Ren s s' f g) {k : Nat} (hk : k < s.loaves.length) : tkN (xs.map (renW f)) (f k) = tkN xs k := by
 unfold tkN
 rw [List.countP_map]
 congr 1
 refine List.countP_congr fun x hx => ?_
 show isTk (f k) (renW f x) = true ↔ _
 unfold isTk
 rw [renW_sort, h.kind (hxs x hx) hk]
theorem Ren.su (h : Ren s s' f g) {k : Nat} (hk : k < s.loaves.length) : suN s' (xs.map (renW f)) (f k) = suN s xs k := by
 induction xs with
 | nil => rfl
 | cons x xs ih =>
  have hx := hxs x List.mem_cons_self
  rw [List.map_cons, suN_cons, suN_cons, ih fun y hy => hxs y (List.mem_cons_of_mem _ hy)]
  have e : isTp (f k) (renW f x) = isTp k x := by unfold isTp; rw [renW_sort, h.kind hx hk]
  rw [e]
  by_cases ht : isTp k x = true
  ·rw [if_pos ht, if_pos ht]
   have : 0 ≤ x.kind := by unfold isTp at ht; simp at ht; omega
   rw [h.rest hx this]
  ·rw [if_neg ht, if_neg ht]
theorem Ren.tks (h : Ren s s' f g) {k : Nat} (hk : k < s.loaves.length) : tksN ((f k : Nat) : Int) (xs.map (renW f)) = tksN (k : Int) xs := by
 induction xs with
 | nil => rfl
 | cons x xs ih =>
  have hx := hxs x List.mem_cons_self
  rw [List.map_cons, tksN_cons, tksN_cons, ih fun y hy => hxs y (List.mem_cons_of_mem _ hy), renW_amount]
  have e : isTks ((f k : Nat) : Int) (renW f x) = isTks (k : Int) x := by
   unfold isTks
   rw [renW_sort, h.kind hx hk, show decide (((f k : Nat) : Int) < 0) = false by simp, show decide ((k : Int) < 0) = false by simp]
  rw [e]
theorem Ren.tks0 (h : Ren s s' f g) : tksN (-1) (xs.map (renW f)) = tksN (-1) xs := by
 induction xs with
 | nil => rfl
 | cons x xs ih =>
  rw [List.map_cons, tksN_cons, tksN_cons, ih fun y hy => hxs y (List.mem_cons_of_mem _ hy), renW_amount]
  have e : isTks (-1) (renW f x) = isTks (-1) x := by unfold isTks; rw [renW_sort]; simp
  rw [e]
end
theorem Ren.ok {s s' : Sw} {f g : Nat → Nat} (hok : SOk s) (h : Ren s s' f g) {w : List Nat} {c : Cr} (hok' : SOk s') (hc : crushW s w = some c) : ∃ c', crushW s' w = some c' ∧ c'.c ≤ c.c := by
 have hw : ∀ x ∈ wantsOf s w, WtOk s.loaves x := fun x hx => wants_mem hok hx
 have hst := hok.st
 have h3 := hok.l3
 refine served_by hok hok' hc fun l hl h0 ho => ⟨(List.range s.loaves.length).map fun k => l.getD (g k) 0, by rw [List.length_map, List.length_range, h.sl, hst], fun k hk => ?_, ?_⟩
 ·rw [List.getD_eq_getElem?_getD, List.getElem?_map, List.getElem?_range (by rw [h.sl] at hk; omega)]
  exact h0 _
 have hg : ∀ k, k < s.loaves.length → ((List.range s.loaves.length).map fun k => l.getD (g k) 0).getD k 0 = l.getD (g k) 0 := fun k hk => by
  rw [List.getD_eq_getElem?_getD, List.getElem?_map, List.getElem?_range hk]; rfl
 have hgf : ∀ k, k < s.loaves.length → ((List.range s.loaves.length).map fun k => l.getD (g k) 0).getD (f k) 0 = l.getD k 0 := fun k hk => by
  rw [hg _ (h.f1 k hk).1, (h.f1 k hk).2]
 generalize ((List.range s.loaves.length).map fun k => l.getD (g k) 0) = l' at *
 rw [wants_ren h]
 have back : ∀ k, k < s'.loaves.length → ∃ j, j < s.loaves.length ∧ f j = k := fun k hk => by rw [h.ll] at hk; exact ⟨g k, h.g1 k hk⟩
 refine ⟨⟨fun k hk => ?_, fun k hk => ?_, ?_⟩, ?_⟩
 ·obtain ⟨j, hj, rfl⟩ := back k hk
  rw [h.tk hw hj, hgf j hj, h.st j hj]
  exact ho.a j hj
 ·obtain ⟨j, hj, rfl⟩ := back k hk
  rw [h.tks hw hj, hgf j hj, h.lo j hj, h.su hw hj]
  exact ho.b j hj
 ·rw [h.tks0 hw]
  have e : sumL (sugarD s' ((wantsOf s w).map (renW f)) l') = sumL (sugarD s (wantsOf s w) l) := by
   unfold sugarD
   rw [h.ll, sum_ren h3 h.f1]
   congr 1
   refine map_on fun k hk => ?_
   rw [hgf k hk, h.lo k hk, h.su hw hk]
  rw [e]
  exact ho.c
 ·rw [h.ll, sum_ren h3 h.f1]
  refine sum_map_le fun k hk => ?_
  rw [h.tk hw hk, hgf k hk]
  exact Int.le_refl _
theorem Ren.most {s s' : Sw} {f g : Nat → Nat} (hok : SOk s) (hok' : SOk s') (h : Ren s s' f g) : mostW s (servedL s) ≤ mostW s' (servedL s') := by
 obtain ⟨w, hw, hp⟩ := mostW_mem hok (servedL s) (served_ne hok)
 obtain ⟨h1, c, hc⟩ := served_iff.1 hw
 obtain ⟨c', hc', _⟩ := h.ok hok hok' hc
 have hw' : w ∈ servedL s' := served_iff.2 ⟨by rw [h.wt, List.length_map]; exact h1, c', hc'⟩
 have := mostW_le s' (servedL s') w hw'
 rw [pay_ren h] at this
 omega
end Go.Mz


namespace Go.Mz
open Go
structure Perm (n : Nat) (o : List Nat) : Prop where
 p : o.Perm (List.range n)
theorem Perm.len {n : Nat} {o : List Nat} (h : Perm n o) : o.length = n := by rw [h.p.length_eq, List.length_range]
theorem Perm.lt {n : Nat} {o : List Nat} (h : Perm n o) : ∀ j ∈ o, j < n := fun j hj => List.mem_range.1 (h.p.mem_iff.1 hj)
theorem Perm.nd {n : Nat} {o : List Nat} (h : Perm n o) : o.Nodup := h.p.nodup_iff.2 List.nodup_range
theorem Perm.inj {n : Nat} {o : List Nat} (h : Perm n o) {i j k : Nat} (hi : o[i]? = some k) (hj : o[j]? = some k) : i = j := by
 obtain ⟨h1, e1⟩ := List.getElem?_eq_some_iff.1 hi
 obtain ⟨h2, e2⟩ := List.getElem?_eq_some_iff.1 hj
 exact (List.getElem_inj h.nd).1 (e1.trans e2.symm)
def layL {α : Type} (l : List α) (o : List Nat) (n : Nat) : List α := (List.range n).foldl (fun m i => match l[i]?, o[i]? with
 | some x, some j => m.set j x
 | _, _ => m) l
def numF (o : List Nat) (k : Nat) : Nat := o.getD k 0
def laySw (s : Sw) (o : List Nat) : Sw := { s with loaves := layL s.loaves o s.loaves.length, stock := layL s.stock o s.stock.length, wants := s.wants.map (renW (numF o)) }
end Go.Mz


namespace Go.Mz
open Go
def eatW (s : Sw) (x : Want) : Int := if x.sort = 1 then x.amount else if x.sort = 0 then sumL (loafAt s x.kind) else sumL ((loafAt s x.kind).drop ((loafAt s x.kind).length - x.amount.toNat))
def lossW (s : Sw) (x : Want) : Int := if x.sort = 2 then sumL (loafAt s x.kind) - restW s x - eatW s x else 0
theorem sum_add {n : Nat} (f g : Nat → Int) : sumL ((List.range n).map fun k => f k + g k) = sumL ((List.range n).map f) + sumL ((List.range n).map g) := by
 induction n with
 | zero => rfl
 | succ n ih =>
  rw [List.range_succ, List.map_append, List.map_append, List.map_append, sumL_append, sumL_append, sumL_append, ih]
  simp only [List.map_cons, List.map_nil, sumL_cons, sumL_nil]; omega
theorem sum_ind {n k : Nat} (hk : k < n) (F : Nat → Int) : sumL ((List.range n).map fun j => if j = k then F j else 0) = F k := by
 induction n with
 | zero => omega
 | succ n ih =>
  rw [List.range_succ, List.map_append, sumL_append]
  simp only [List.map_cons, List.map_nil, sumL_cons, sumL_nil]
  by_cases e : k = n
  ·subst e
   have : sumL ((List.range k).map fun j => if j = k then F j else 0) = 0 := by
    rw [show (List.range k).map (fun j => if j = k then F j else 0) = (List.range k).map fun _ => 0 from map_on fun j hj => if_neg (by omega)]
    clear ih hk
    induction k with
    | zero => rfl
    | succ k ih => rw [List.range_succ, List.map_append, sumL_append, ih]; rfl
   rw [this, if_pos rfl]; omega
  ·rw [ih (by omega), if_neg (by omega)]; omega
theorem sum_zero {n : Nat} {F : Nat → Int} (h : ∀ k, k < n → F k = 0) : sumL ((List.range n).map F) = 0 := by
 induction n with
 | zero => rfl
 | succ n ih => rw [List.range_succ, List.map_append, sumL_append, ih fun k hk => h k (by omega)]; simp only [List.map_cons, List.map_nil, sumL_cons, sumL_nil, h n (by omega)]; omega
end Go.Mz


namespace Go.Mz
open Go
def choS (n k i : Nat) (out : List (List Nat)) : List (List Nat) := out.flatMap fun x =>
 (List.range' (match x.getLast? with | some y => y + 1 | none => 0) (n - k + i + 1 - (match x.getLast? with | some y => y + 1 | none => 0))).map fun y => x ++ [y]
def choI (n k i : Nat) : List (List Nat) := (List.range i).foldl (fun out i => choS n k i out) [[]]
def choL (n k : Nat) : List (List Nat) := choI n k k
def fstC (x : List Nat) : Nat := match x.getLast? with | some y => y + 1 | none => 0
def subsW (n : Nat) : List (List Nat) := (List.range (n + 1)).flatMap fun k => choL n k
def ascB : List Nat → Bool
 | [] => true
 | [_] => true
 | a :: b :: l => decide (a < b) && ascB (b :: l)
end Go.Mz


namespace Go.Mz
open Go
section
variable {s : Sw} (hok : SOk s) {M : List (List Nat)} (hM : ∀ w, w ∈ M ↔ w ∈ picksW s.wants.length s.wants.length)
include hok hM
def topL (s : Sw) (M : List (List Nat)) : List (List Nat) := M.filter fun w => srvB s w && payW s w == payW s (crWants (bestW s fun _ => true))
omit hok in
theorem top_mem {w : List Nat} : w ∈ topL s M ↔ w ∈ picksW s.wants.length s.wants.length ∧ srvB s w = true ∧ payW s w = payW s (crWants (bestW s fun _ => true)) := by
 unfold topL
 rw [List.mem_filter, Bool.and_eq_true, beq_iff_eq, hM]
end
end Go.Mz


namespace Go.Mz
open Go
theorem taken_cnt {s : Sw} : ∀ {xs : List Want}, (∀ x ∈ xs, WtOk s.loaves x) → sumL (takenD s xs) = ((xs.countP fun x => x.sort != 1 : Nat) : Int)
 | [], _ => by
  unfold takenD
  rw [sum_zero fun k _ => by simp [tkN]]
  rfl
 | x :: xs, h => by
  have ih := taken_cnt fun y hy => h y (List.mem_cons_of_mem _ hy)
  have hx := h x List.mem_cons_self
  unfold takenD at ih ⊢
  rw [show ((List.range s.loaves.length).map fun k => tkN (x :: xs) k) = (List.range s.loaves.length).map fun k => tkN xs k + if isTk k x then 1 else 0 from map_on fun k _ => tkN_cons x xs k, sum_add, ih, List.countP_cons]
  by_cases h1 : x.sort = 1
  ·rw [sum_zero fun k _ => by rw [if_neg (by unfold isTk; simp [h1])], if_neg (by simp [h1])]
   omega
  ·have hk0 : 0 ≤ x.kind := by have := hx.k0; unfold wKd at this; rw [if_neg h1] at this; exact this
   obtain ⟨n, hn⟩ : ∃ n : Nat, x.kind = (n : Int) := ⟨x.kind.toNat, by omega⟩
   have hk1 := hx.k1
   have t1 : ∀ k : Nat, (isTk k x = true) ↔ k = n := fun k => by unfold isTk; rw [hn]; simp [h1]; omega
   rw [show ((List.range s.loaves.length).map fun k => if isTk k x then (1 : Int) else 0) = (List.range s.loaves.length).map fun k => if k = n then (1 : Int) else 0 from map_on fun k _ => by
    by_cases e : k = n
    ·rw [if_pos ((t1 k).2 e), if_pos e]
    ·rw [if_neg (mt (t1 k).1 e), if_neg e], sum_ind (by omega) fun _ => (1 : Int), if_pos (by simp [h1])]
   omega
theorem cones_cnt {s : Sw} (hok : SOk s) (w : List Nat) {l : List Int} (hl : l.length = s.loaves.length) : (((wantsOf s w).countP fun x => x.sort != 1 : Nat) : Int) + sumL l = sumL (planW s w l).t := by
 rw [← taken_sum hok w hl, taken_cnt fun x hx => wants_mem hok hx]
theorem crush_in {s : Sw} {w : List Nat} {c : Cr} (h : crushW s w = some c) : c.l ∈ plansW s w := by
 obtain ⟨⟨l, hl, rfl⟩, _⟩ := crush_min h
 exact hl
theorem crush_of {s : Sw} {w : List Nat} {c : Cr} (h : crushW s w = some c) : c = crOf s w c.l := by
 obtain ⟨⟨l, hl, rfl⟩, _⟩ := crush_min h
 rfl
theorem crush_nil_cones {s : Sw} (hok : SOk s) {c : Cr} (hc : crushW s [] = some c) : c.c = 0 := by
 have hg : ∀ k, (List.replicate s.stock.length (0 : Int)).getD k 0 = 0 := fun k => by
  rw [List.getD_eq_getElem?_getD, List.getElem?_replicate]
  split <;> rfl
 have hs0 : ∀ n, sumL (List.replicate n 0) = 0 := fun n => by
  induction n with
  | zero => rfl
  | succ n ih => rw [List.replicate_succ, sumL_cons, ih]; rfl
 have hx : wantsOf s [] = [] := rfl
 have hpl : List.replicate s.stock.length (0 : Int) ∈ plansW s [] := plan_in hok (List.length_replicate ..) (fun k _ => by rw [hg]; exact Int.le_refl 0) ⟨fun k hk => by
   rw [hg, hx]
   have hst : 0 ≤ s.stock.getD k 0 := by
    rw [List.getD_eq_getElem?_getD, List.getElem?_eq_getElem (by rw [hok.st]; exact hk)]
    exact (hok.sr _ (List.getElem_mem _)).1
   simpa [tkN] using hst, fun k hk => by rw [hg, hx]; simp [tksN, suN, sumL], by
   rw [hx]
   unfold sugarD
   rw [sum_zero fun k _ => by rw [hg]; simp [suN, sumL]]
   simp [tksN, sumL]⟩
 obtain ⟨c', hc', hle⟩ := crush_le hpl
 rw [hc] at hc'
 cases hc'
 rw [← cones_cnt hok [] (by rw [List.length_replicate, hok.st]), hs0, hx] at hle
 have h1 := crush_of hc
 obtain ⟨h3, h4, _⟩ := plan_out hok (crush_in hc)
 have h2 : c.c = sumL (planW s [] c.l).t := by rw [h1]; rfl
 rw [← cones_cnt hok [] (by rw [h3, hok.st]), hx] at h2
 have h5 : 0 ≤ sumL c.l := by
  have : ∀ m : List Int, (∀ y ∈ m, 0 ≤ y) → 0 ≤ sumL m := fun m hm => by
   induction m with
   | nil => exact Int.le_refl 0
   | cons a m ih => rw [sumL_cons]; have := hm a List.mem_cons_self; have := ih fun y hy => hm y (List.mem_cons_of_mem _ hy); omega
  refine this _ fun y hy => ?_
  obtain ⟨k, hk, rfl⟩ := List.getElem_of_mem hy
  have := h4 k
  rw [List.getD_eq_getElem?_getD, List.getElem?_eq_getElem hk] at this
  exact this
 simp only [List.countP_nil] at h2 hle
 omega
end Go.Mz


set_option maxRecDepth 100000
namespace Go.Mz
open Go.Conc Go.Proofs
variable {Post : Value → World → Prop} {W0 : World}
theorem asc_less {a b : List Nat} {i : Nat} (h : Asc (a ++ i :: b)) : Asc (a ++ b) := by
 unfold Asc at h ⊢
 rw [List.pairwise_append] at h ⊢
 exact ⟨h.1, (List.pairwise_cons.1 h.2.1).2, fun x hx y hy => h.2.2 x hx y (List.mem_cons_of_mem _ hy)⟩
theorem FwF_run (na : Option Addr) (nc : Nat) (nums : List Int) (L : LH) (hn : IntsAt L na nums) (hgl : GlOk L) (hl2 : nums.length ≤ 140737488355328)
  (hQ : ∀ v L' w, (v = .bool true ∧ Dim L L') → Sub L' w → Same W0 w → Post v w) :
  FGo Tryz.prog Post W0 (G (Frame.enter Tryz.prog 9 [.slice na nums.length nc].toArray .normal) []) L := by
 refine root_enter (n := 93) (s := 2) Tryz.func9 rfl rfl (by kernel_rfl) rfl rfl hQ fun C hX _ hL0 r => ?_
 have drd : ∀ L2, GlOk L2 → Sp C.X 21 [] L2 (fun v L' => v = .bool true ∧ Dim L2 L') := fun L2 h => by rw [hX]; exact cut_sp L2 h
 refine W.go 99 rfl ?_
 refine W.eff rfl rfl rfl (Ef.call rfl (NewHat_sp na nc nums L hn)) ?_
 rintro _ _ _ ⟨_, rfl, rfl, b, rfl, hb, hle1, hh1⟩
 refine W.go 99 rfl ?_
 rename_i L1
 have hb1 := le_but hb hle1
 refine W.eff rfl rfl rfl (Ef.call rfl (SawOf_sp b na nc nums 0 3 5 L1 hh1 (by omega) hl2 (by omega) (by omega) (by omega))) ?_
 rintro _ _ _ ⟨_, rfl, rfl, s, p, m, rfl, ho, hm, hle2, hh2, hsw⟩
 refine W.go 99 rfl ?_
 rename_i L2
 have hok := sawE_0 ho.e
 have hw5 := hok.w5
 refine W.eff rfl rfl rfl (Ef.call rfl (ServedOf2_sp s p b na nc nums m L2 hh2 (by omega) hl2 hok.sm)) ?_
 rintro _ _ _ ⟨_, rfl, rfl, wq, tq, wa, wc, ta, tc, m3, rfl, hsv, hm3, hle3h, hle3, hwq, htq, hwcap⟩
 refine W.go 99 rfl ?_
 rename_i L3
 have hL23 : Le (L2.but b) (L3.but b) := but_but hle3
 have hsw3 := hsw.le (hL23.trans (but_le _ _))
 have hL3 : Le L L3 := hb1.trans ((but_but hle2).trans (hL23.trans (but_le _ _)))
 have hwl5 : wq.length ≤ 5 := by
  have h1 := bits5_len (maskW wq)
  rw [bits5_mask hsv.asc fun x hx => by have := hsv.wn x hx; omega] at h1
  exact h1
 have hcx := Crush_sp (X := C.X) s p wa wc (natI wq) L3 hsw3 hok.sm (hwq.le (but_le _ _)) (by rw [natI_len]; omega)
 rw [natI_len, CrushE_natI ho.e hsv.asc hsv.wn] at hcx
 refine W.eff rfl rfl rfl (Ef.call rfl (hcx)) ?_
 rintro _ _ _ ⟨v7, rfl, rfl, ca, cc, rfl, hci, hl34⟩
 refine W.go 99 rfl ?_
 rename_i L4
 have hL4 := hL3.trans hl34
 refine W.split rfl rfl rfl (fun e1 => ?_) (fun e1 => ?_)
 ·have hw0 : wq = [] := List.length_eq_zero_iff.1 (by have : ((wq.length : Nat) : Int) = 0 := (by simpa using e1); omega)
  subst hw0
  obtain ⟨c, hc⟩ := crush_nil hok
  have hc0 : c.c = 0 := crush_nil_cones hok hc
  rw [show crushE s [] = (c.l, 0, 0) by unfold crushE; rw [hc]; show (c.l, c.c, (0 : Int)) = _; rw [hc0]]
  refine W.go 99 rfl ?_
  refine W.asLit 37 (p := true) rfl rfl ?_
  refine W.go 99 rfl ?_
  refine W.asLit 41 (p := true) rfl rfl ?_
  refine W.go 99 rfl ?_
  refine W.eff rfl rfl rfl (Ef.call rfl (drd L4 (hgl.le hL4))) ?_
  rintro _ _ _ ⟨_, rfl, rfl, rfl, hdm⟩
  refine W.go 99 rfl ?_
  exact W.retO r rfl ⟨rfl, (Dim.of_le hL4).trans hdm⟩
 have hw0 : 0 < wq.length := by have : ¬ ((wq.length : Nat) : Int) = 0 := (by simpa using e1); omega
 refine W.go 99 rfl ?_
 rw [wrap64_in _ (by omega) (by omega), show ((wq.length : Nat) : Int) - 1 = ((wq.length - 1 : Nat) : Int) by omega]
 have hh4 := hle3h.le hl34
 refine W.eff rfl rfl rfl (Ef.call rfl (To_sp b na nc nums m3 (wq.length - 1) L4 hh4 (by omega) hl2 (by omega))) ?_
 rintro _ _ _ ⟨_, rfl, rfl, ⟨k, rfl, hk⟩, hk5, hs5⟩
 rename_i L5
 have f45 : Le (L4.but b) L5 := but_same hk5
 have hkl : k < wq.length := by omega
 have f35 : Le (L3.but b) L5 := (but_but ((but_le _ _).trans hl34)).trans f45
 have hwq5 := hwq.le f35
 have hkt : (natI (wq.take k)).length = k := by rw [natI_len, List.length_take]; omega
 have hdt : (natI (wq.drop (k + 1))).length = wq.length - (k + 1) := by rw [natI_len, List.length_drop]
 have hti : IntsAt L5 wa (natI (wq.take k)) := by rw [show natI (wq.take k) = (natI wq).take k by unfold natI; rw [List.map_take]]; exact hwq5.take k
 have hdi : IntsAt L5 (fromA wa wc (k + 1) 1) (natI (wq.drop (k + 1))) := by rw [show natI (wq.drop (k + 1)) = (natI wq).drop (k + 1) by unfold natI; rw [List.map_drop]]; exact hwq5.drop (by rw [natI_len]; exact hwcap)
 have hd := DupInts_sp (X := C.X) wa wc (natI (wq.take k)) L5 hti (by omega)
 rw [hkt] at hd
 refine W.go 99 rfl ?_
 refine W.drawn (by kernel_rfl) L5 (Le.refl _) ?_
 refine DD.run' [0, 1, 4, 5, 6] rfl ?_
 rw [nat1 (n := k) (by omega)]
 refine DD.vf 2 rfl rfl rfl rfl rfl (Vf.sliceT rfl rfl Tryz.underlying23 size3 (show k ≤ wc by omega)) ?_
 refine DD.vf 7 rfl rfl rfl rfl rfl (Vf.sliceF rfl rfl Tryz.underlying23 size3 (show k + 1 ≤ wq.length by omega)) ?_
 refine DD.act 3 rfl rfl rfl rfl rfl (Ef.call rfl (hd)) ((by rintro _ _ _ ⟨_, rfl, rfl, hg⟩; exact ⟨hg.1, rfl, .inl rfl⟩)) ?_
 rintro _ _ _ ⟨v6, rfl, rfl, hg⟩
 refine DD.act 8 rfl rfl rfl rfl rfl (Ef.grow rfl rfl rfl rfl rfl rfl rfl rfl rfl encI_len encI_sg hg (ls := natI (wq.drop (k + 1))) (.sl (hdi.le hg.1) encI_len (by rw [hdt]; rfl)) (by rw [hkt, hdt]; omega)) ((by rintro _ _ _ ⟨_, rfl, rfl, hg', _⟩; exact ⟨hg'.1, rfl, .inl rfl⟩)) ?_
 rintro _ _ _ ⟨v7, rfl, rfl, hg7, -⟩
 refine DD.run' [9] rfl ?_
 refine .fin rfl ?_
 refine W.go 99 rfl ?_
 rename_i L7
 rw [show natI (wq.take k) ++ natI (wq.drop (k + 1)) = natI (wq.take k ++ wq.drop (k + 1)) by unfold natI; rw [List.map_append]] at hg7
 obtain ⟨fa, fc, rfl, _⟩ := hg7.slice
 have hwe : wq = wq.take k ++ wq[k] :: wq.drop (k + 1) := by rw [← List.drop_eq_getElem_cons hkl, List.take_append_drop]
 have hfa : Asc (wq.take k ++ wq.drop (k + 1)) := by have := hsv.asc; rw [hwe] at this; exact asc_less this
 have hfm : ∀ x ∈ wq.take k ++ wq.drop (k + 1), x ∈ wq := fun x hx => by
  rcases List.mem_append.1 hx with h | h
  ·exact List.mem_of_mem_take h
  ·exact List.mem_of_mem_drop h
 have hfn : WnOk s (wq.take k ++ wq.drop (k + 1)) := fun x hx => hsv.wn x (hfm x hx)
 have hki : wq[k] < s.wants.length := hsv.wn _ (List.getElem_mem hkl)
 have hfew : ∀ c, crushW s wq = some c → ∃ c', crushW s (wq.take k ++ wq.drop (k + 1)) = some c' ∧ c'.c ≤ c.c := fun c hc => by
  rw [hwe] at hc
  exact fewer_crush hok hki hc
 have hfl : (wq.take k ++ wq.drop (k + 1)).length ≤ 5 := by simp; omega
 generalize wq.take k ++ wq.drop (k + 1) = fw at *
 have f37 : Le (L3.but b) L7 := f35.trans hg7.1
 have hcx := Crush_sp (X := C.X) s p fa fc (natI fw) L7 (hsw.le (hL23.trans f37)) hok.sm (hg7.at encI_len).2 (by rw [natI_len]; omega)
 rw [CrushE_natI ho.e hfa hfn] at hcx
 refine W.eff rfl rfl rfl (Ef.call rfl (hcx)) ?_
 rintro _ _ _ ⟨v8, rfl, rfl, cfa, cfc, rfl, hcfi, hl78⟩
 rename_i L8
 have hL8 : Le L L8 := hb1.trans ((but_but hle2).trans (hL23.trans (f37.trans hl78)))
 cases hc : crushW s wq with
 | some c =>
  obtain ⟨c', hc', hle⟩ := hfew c hc
  rw [show crushE s wq = (c.l, c.c, 0) by unfold crushE; rw [hc], show crushE s fw = (c'.l, c'.c, 0) by unfold crushE; rw [hc']]
  refine W.go 99 rfl ?_
  refine W.asLit 67 (p := true) rfl rfl ?_
  refine W.go 99 rfl ?_
  refine W.asLit 70 (p := false) rfl rfl ?_
  refine W.go 99 rfl ?_
  refine W.asLit 76 (p := false) rfl (by show some (decide (c.c < c'.c)) = some false; rw [decide_eq_false (by omega)]) ?_
  refine W.go 99 rfl ?_
  refine W.asLit 79 (p := false) rfl rfl ?_
  refine W.go 99 rfl ?_
  refine W.asLit 84 (p := false) rfl rfl ?_
  refine W.go 99 rfl ?_
  refine W.asLit 87 (p := false) rfl rfl ?_
  refine W.go 99 rfl ?_
  refine W.eff rfl rfl rfl (Ef.call rfl (drd L8 (hgl.le hL8))) ?_
  rintro _ _ _ ⟨_, rfl, rfl, rfl, hdm⟩
  refine W.go 99 rfl ?_
  exact W.retO r rfl ⟨rfl, (Dim.of_le hL8).trans hdm⟩
 | none =>
  rw [show crushE s wq = ([], 0, 11) by unfold crushE; rw [hc]]
  refine W.go 99 rfl ?_
  refine W.asLit 67 (p := false) rfl rfl ?_
  refine W.go 99 rfl ?_
  refine W.asLit 76 (p := false) rfl rfl ?_
  refine W.go 99 rfl ?_
  refine W.asLit 79 (p := true) rfl rfl ?_
  refine W.go 99 rfl ?_
  refine W.asLit 84 (p := false) rfl rfl ?_
  refine W.go 99 rfl ?_
  cases hc' : crushW s fw with
  | some c' =>
   rw [show crushE s fw = (c'.l, c'.c, 0) by unfold crushE; rw [hc']]
   refine W.asLit 87 (p := false) rfl rfl ?_
   refine W.go 99 rfl ?_
   refine W.eff rfl rfl rfl (Ef.call rfl (drd L8 (hgl.le hL8))) ?_
   rintro _ _ _ ⟨_, rfl, rfl, rfl, hdm⟩
   refine W.go 99 rfl ?_
   exact W.retO r rfl ⟨rfl, (Dim.of_le hL8).trans hdm⟩
  | none =>
   rw [show crushE s fw = ([], 0, 11) by unfold crushE; rw [hc']]
   refine W.asLit 87 (p := true) rfl rfl ?_
   refine W.go 99 rfl ?_
   refine W.split rfl rfl rfl (fun c => absurd c (by decide)) (fun c => ?_)
   refine W.go 99 rfl ?_
   refine W.eff rfl rfl rfl (Ef.call rfl (drd L8 (hgl.le hL8))) ?_
   rintro _ _ _ ⟨_, rfl, rfl, rfl, hdm⟩
   refine W.go 99 rfl ?_
   exact W.retO r rfl ⟨rfl, (Dim.of_le hL8).trans hdm⟩
end Go.Mz

