/- Lemmas on which the claim leans. -/
import Derived.Test.YtfnjganjlkoehaaGreatDoorMzLa
namespace Go.Mz
open Go
theorem okW_iff {s : Sw} (hok : SOk s) {w : List Nat} {l : List Int} : okW s w l = true ↔
  (∀ k, k < s.loaves.length → tkN (wantsOf s w) k + l.getD k 0 ≤ s.stock.getD k 0) ∧ (∀ k, k < s.loaves.length → tksN k (wantsOf s w) ≤ l.getD k 0 * sumL (s.loaves.getD k []) + suN s (wantsOf s w) k) ∧ tksN (-1) (wantsOf s w) ≤ sumL (sugarD s (wantsOf s w) l) := by
 unfold okW
 rw [right_eq hok]
 constructor
 ·intro h
  split at h
  ·simp at h
  ·rename_i h1
   split at h
   ·simp at h
   ·rename_i h2
    split at h
    ·simp at h
    ·rename_i h3
     simp only [List.any_eq_true, List.mem_range, decide_eq_true_eq, not_exists, not_and, Int.not_lt] at h1 h2 h3
     exact ⟨fun k hk => h1 k hk, fun k hk => h2 k hk, h3⟩
 ·rintro ⟨h1, h2, h3⟩
  rw [if_neg, if_neg, if_neg (by omega)]; · rfl
  ·simp only [List.any_eq_true, List.mem_range, decide_eq_true_eq, not_exists, not_and, Int.not_lt]
   exact h2
  ·simp only [List.any_eq_true, List.mem_range, decide_eq_true_eq, not_exists, not_and, Int.not_lt]
   exact h1
theorem sum_map_le {n : Nat} {f g : Nat → Int} (h : ∀ k, k < n → f k ≤ g k) : sumL ((List.range n).map f) ≤ sumL ((List.range n).map g) := by
 induction n with
 | zero => exact Int.le_refl _
 | succ n ih =>
  rw [List.range_succ, List.map_append, List.map_append, sumL_append, sumL_append]
  have := ih fun k hk => h k (by omega)
  have := h n (by omega)
  simp only [List.map_cons, List.map_nil, sumL_cons, sumL_nil]; omega
theorem mem_lists : ∀ {st l : List Int}, l.length = st.length → (∀ k, k < st.length → 0 ≤ l.getD k 0 ∧ l.getD k 0 ≤ st.getD k 0) → l ∈ listsW st
 | [], l, hl, _ => by
  have : l = [] := List.length_eq_zero_iff.1 hl
  subst this
  simp [listsW]
 | m :: st, l, hl, h => by
  obtain ⟨x, t, rfl⟩ : ∃ x t, l = x :: t := by
   cases l with
   | nil => simp at hl
   | cons x t => exact ⟨x, t, rfl⟩
  have h0 := h 0 (by simp)
  simp at h0
  rw [listsW, List.mem_flatMap]
  refine ⟨x.toNat, List.mem_range.2 (by omega), ?_⟩
  rw [show ((x.toNat : Nat) : Int) = x by omega]
  refine List.mem_map.2 ⟨t, mem_lists (by simpa using hl) fun k hk => ?_, rfl⟩
  have := h (k + 1) (by simp; omega)
  simpa using this
theorem plans_iff {s : Sw} (hok : SOk s) {w : List Nat} {l : List Int} : l ∈ plansW s w ↔ l ∈ listsW s.stock ∧ okW s w l = true := by
 rw [plansW_doc hok, List.mem_filter]
theorem ltCr_trans (a b c : Cr) (h1 : ltCr a b = true) (h2 : ltCr b c = true) : ltCr a c = true := by
 unfold ltCr at *
 simp at *
 omega
theorem ltCr_irr (a : Cr) : ltCr a a = false := by unfold ltCr; simp
theorem crush_min {s : Sw} {w : List Nat} {c : Cr} (h : crushW s w = some c) : (∃ l ∈ plansW s w, c = crOf s w l) ∧ ∀ l ∈ plansW s w, ltCr (crOf s w l) c = false := by
 obtain ⟨h1, h2⟩ := firstBy_min ltCr_trans ltCr_irr _ _ h
 obtain ⟨l, hl, he⟩ := List.mem_map.1 h1
 exact ⟨⟨l, hl, he.symm⟩, fun l hl => h2 _ (List.mem_map.2 ⟨l, hl, rfl⟩)⟩
theorem crush_le {s : Sw} {w : List Nat} {l : List Int} (hl : l ∈ plansW s w) : ∃ c, crushW s w = some c ∧ c.c ≤ sumL (planW s w l).t := by
 obtain ⟨c, hc⟩ := firstBy_some (lt := ltCr) (l := (plansW s w).map (crOf s w)) (fun h => by
  have h1 := List.mem_map.2 ⟨l, hl, (rfl : crOf s w l = crOf s w l)⟩
  rw [h] at h1; cases h1)
 have hc' : crushW s w = some c := hc
 refine ⟨c, hc', ?_⟩
 have h2 := (crush_min hc').2 l hl
 unfold ltCr at h2
 rw [Bool.or_eq_false_iff, decide_eq_false_iff_not] at h2
 have h3 := h2.1
 have h4 : (crOf s w l).c = sumL (planW s w l).t := rfl
 omega
theorem tksN_app (k : Int) (a b : List Want) : tksN k (a ++ b) = tksN k a + tksN k b := by unfold tksN; rw [List.filter_append, List.map_append, sumL_append]
theorem tksN_cons (k : Int) (x : Want) (xs : List Want) : tksN k (x :: xs) = tksN k xs + if isTks k x then x.amount else 0 := by
 rw [show x :: xs = [x] ++ xs from rfl, tksN_app]
 unfold tksN
 by_cases h : isTks k x <;> simp [List.filter_cons, h, sumL] <;> omega
end Go.Mz


namespace Go.Mz
open Go
structure OkX (s : Sw) (xs : List Want) (l : List Int) : Prop where
 a : ∀ k, k < s.loaves.length → tkN xs k + l.getD k 0 ≤ s.stock.getD k 0
 b : ∀ k, k < s.loaves.length → tksN k xs ≤ l.getD k 0 * sumL (s.loaves.getD k []) + suN s xs k
 c : tksN (-1) xs ≤ sumL (sugarD s xs l)
theorem okX_iff {s : Sw} (hok : SOk s) {w : List Nat} {l : List Int} : okW s w l = true ↔ OkX s (wantsOf s w) l := by
 rw [okW_iff hok]
 exact ⟨fun ⟨h1, h2, h3⟩ => ⟨h1, h2, h3⟩, fun h => ⟨h.a, h.b, h.c⟩⟩
theorem cones_eq {s : Sw} (hok : SOk s) (w : List Nat) (l : List Int) : sumL (planW s w l).t = sumL ((List.range s.loaves.length).map fun k => tkN (wantsOf s w) k + l.getD k 0) := by
 rw [planW_eq hok, sum3]
 have h1 := hok.l1
 have h3 := hok.l3
 have far : ∀ k, s.loaves.length ≤ k → tkN (wantsOf s w) k = 0 := fun k hk => by
  unfold tkN
  rw [show List.countP (isTk k) (wantsOf s w) = 0 from List.countP_eq_zero.2 fun x hx => by
   have := (wants_mem hok hx).k1
   unfold isTk
   simp
   omega]
  rfl
 have : s.loaves.length = 1 ∨ s.loaves.length = 2 ∨ s.loaves.length = 3 := by omega
 rcases this with e | e | e
 ·rw [e]
  simp [List.range_succ, lfN, e, far 1 (by omega), far 2 (by omega), sumL]
 ·rw [e]
  simp [List.range_succ, lfN, e, far 2 (by omega), sumL]
 ·rw [e]
  simp [List.range_succ, lfN, e, sumL]
theorem plan_in {s : Sw} (hok : SOk s) {w : List Nat} {l : List Int} (hl : l.length = s.stock.length) (h0 : ∀ k, k < s.stock.length → 0 ≤ l.getD k 0) (h : OkX s (wantsOf s w) l) : l ∈ plansW s w := by
 refine (plans_iff hok).2 ⟨mem_lists hl fun k hk => ⟨h0 k hk, ?_⟩, (okX_iff hok).2 h⟩
 have := h.a k (by have := hok.st; omega)
 have := (tkN_bd (wantsOf s w) k).1
 omega
theorem plan_out {s : Sw} (hok : SOk s) {w : List Nat} {l : List Int} (h : l ∈ plansW s w) : l.length = s.stock.length ∧ (∀ k, 0 ≤ l.getD k 0) ∧ OkX s (wantsOf s w) l := by
 obtain ⟨h1, h2⟩ := (plans_iff hok).1 h
 obtain ⟨h3, h4⟩ := listsW_mem h1
 exact ⟨h3, fun k => (h4 k).1, (okX_iff hok).1 h2⟩
theorem served_by {s s' : Sw} (hok : SOk s) (hok' : SOk s') {w w' : List Nat} {c : Cr} (hc : crushW s w = some c)
  (H : ∀ l : List Int, l.length = s.stock.length → (∀ k, 0 ≤ l.getD k 0) → OkX s (wantsOf s w) l → ∃ l' : List Int, l'.length = s'.stock.length ∧ (∀ k, k < s'.stock.length → 0 ≤ l'.getD k 0) ∧ OkX s' (wantsOf s' w') l' ∧ sumL ((List.range s'.loaves.length).map fun k => tkN (wantsOf s' w') k + l'.getD k 0) ≤ sumL ((List.range s.loaves.length).map fun k => tkN (wantsOf s w) k + l.getD k 0)) :
  ∃ c', crushW s' w' = some c' ∧ c'.c ≤ c.c := by
 obtain ⟨⟨l, hl, rfl⟩, _⟩ := crush_min hc
 obtain ⟨h1, h2, h3⟩ := plan_out hok hl
 obtain ⟨l', g1, g2, g3, g4⟩ := H l h1 h2 h3
 obtain ⟨c', hc', hle⟩ := crush_le (plan_in hok' g1 g2 g3)
 refine ⟨c', hc', ?_⟩
 rw [cones_eq hok'] at hle
 show c'.c ≤ sumL (planW s w l).t
 rw [cones_eq hok]
 omega
end Go.Mz


namespace Go.Mz
open Go
theorem best_pay {s : Sw} (hok : SOk s) : payW s (crWants (bestW s fun _ => true)) = mostW s (servedL s) := by
 obtain ⟨i, hi⟩ := bestIx_some hok
 obtain ⟨_, h2, h3⟩ := bestIx_eq hok hi
 rw [h2, h3]
end Go.Mz


namespace Go.Mz
open Go
def renW (f : Nat → Nat) (x : Want) : Want := if x.kind < 0 then x else { x with kind := (f x.kind.toNat : Nat) }
structure Ren (s s' : Sw) (f g : Nat → Nat) : Prop where
 ll : s'.loaves.length = s.loaves.length
 sl : s'.stock.length = s.stock.length
 f1 : ∀ k, k < s.loaves.length → f k < s.loaves.length ∧ g (f k) = k
 g1 : ∀ k, k < s.loaves.length → g k < s.loaves.length ∧ f (g k) = k
 lo : ∀ k, k < s.loaves.length → s'.loaves.getD (f k) [] = s.loaves.getD k []
 st : ∀ k, k < s.loaves.length → s'.stock.getD (f k) 0 = s.stock.getD k 0
 ke : s'.kerf = s.kerf
 wt : s'.wants = s.wants.map (renW f)
theorem renW_0 {f : Nat → Nat} {x : Want} (h : x.kind < 0) : renW f x = x := if_pos h
theorem renW_n {f : Nat → Nat} {x : Want} {n : Nat} (h : x.kind = (n : Int)) : renW f x = { x with kind := (f n : Nat) } := by
 unfold renW
 rw [if_neg (by omega), h]
 rfl
theorem renW_sort (f : Nat → Nat) (x : Want) : (renW f x).sort = x.sort := by unfold renW; split <;> rfl
theorem renW_amount (f : Nat → Nat) (x : Want) : (renW f x).amount = x.amount := by unfold renW; split <;> rfl
theorem renW_pay (f : Nat → Nat) (x : Want) : (renW f x).pay = x.pay := by unfold renW; split <;> rfl
theorem Ren.symm {s s' : Sw} {f g : Nat → Nat} (hok : SOk s) (h : Ren s s' f g) : Ren s' s g f where
 ll := h.ll.symm
 sl := h.sl.symm
 f1 := fun k hk => by rw [h.ll] at hk ⊢; exact h.g1 k hk
 g1 := fun k hk => by rw [h.ll] at hk ⊢; exact h.f1 k hk
 lo := fun k hk => by
  rw [h.ll] at hk
  have e := h.g1 k hk
  rw [← h.lo _ e.1, e.2]
 st := fun k hk => by
  rw [h.ll] at hk
  have e := h.g1 k hk
  rw [← h.st _ e.1, e.2]
 ke := h.ke.symm
 wt := by
  rw [h.wt, List.map_map]
  refine (List.map_congr_left (f := id) fun x hx => ?_).symm.trans ?_ |>.symm
  ·have hw := hok.wt x hx
   by_cases e : x.kind < 0
   ·show x = renW g (renW f x)
    rw [renW_0 e, renW_0 e]
   ·obtain ⟨n, hn⟩ : ∃ n : Nat, x.kind = (n : Int) := ⟨x.kind.toNat, by omega⟩
    have := hw.k1
    have hg := (h.f1 n (by omega)).2
    show x = renW g (renW f x)
    rw [renW_n hn, renW_n (n := f n) rfl, hg]
    cases x
    simp only at hn
    subst hn
    rfl
  ·exact List.map_id _
theorem wants_ren {s s' : Sw} {f g : Nat → Nat} (h : Ren s s' f g) (w : List Nat) : wantsOf s' w = (wantsOf s w).map (renW f) := by
 unfold wantsOf
 rw [List.map_filterMap, h.wt]
 congr 1
 funext i
 rw [List.getElem?_map]
theorem pay_ren {s s' : Sw} {f g : Nat → Nat} (h : Ren s s' f g) (w : List Nat) : payW s' w = payW s w := by
 unfold payW
 rw [wants_ren h, List.map_map]
 congr 1
 exact List.map_congr_left fun x _ => renW_pay f x
theorem map_on {n : Nat} {f g : Nat → Int} (h : ∀ k, k < n → f k = g k) : (List.range n).map f = (List.range n).map g := List.map_congr_left fun k hk => h k (List.mem_range.1 hk)
theorem sum_ren {n : Nat} (hn : n ≤ 3) {f g : Nat → Nat} (hf : ∀ k, k < n → f k < n ∧ g (f k) = k) (F : Nat → Int) : sumL ((List.range n).map F) = sumL ((List.range n).map fun k => F (f k)) := by
 have c : n = 0 ∨ n = 1 ∨ n = 2 ∨ n = 3 := by omega
 rcases c with rfl | rfl | rfl | rfl
 ·rfl
 ·have := (hf 0 (by omega)).1
  rw [show List.range 1 = [0] from rfl]
  simp only [List.map_cons, List.map_nil, sumL_cons, sumL_nil]
  rw [show f 0 = 0 by omega]
 ·obtain ⟨a1, a2⟩ := hf 0 (by omega)
  obtain ⟨b1, b2⟩ := hf 1 (by omega)
  rw [show List.range 2 = [0, 1] from rfl]
  simp only [List.map_cons, List.map_nil, sumL_cons, sumL_nil]
  generalize f 0 = x at *
  generalize f 1 = y at *
  have hne : x ≠ y := fun e => by subst e; omega
  have c : (x = 0 ∧ y = 1) ∨ (x = 1 ∧ y = 0) := by omega
  rcases c with ⟨rfl, rfl⟩ | ⟨rfl, rfl⟩ <;> omega
 ·obtain ⟨a1, a2⟩ := hf 0 (by omega)
  obtain ⟨b1, b2⟩ := hf 1 (by omega)
  obtain ⟨c1, c2⟩ := hf 2 (by omega)
  rw [show List.range 3 = [0, 1, 2] from rfl]
  simp only [List.map_cons, List.map_nil, sumL_cons, sumL_nil]
  generalize f 0 = x at *
  generalize f 1 = y at *
  generalize f 2 = z at *
  have h1 : x ≠ y := fun e => by subst e; omega
  have h2 : x ≠ z := fun e => by subst e; omega
  have h3 : y ≠ z := fun e => by subst e; omega
  have c : (x = 0 ∧ y = 1 ∧ z = 2) ∨ (x = 0 ∧ y = 2 ∧ z = 1) ∨ (x = 1 ∧ y = 0 ∧ z = 2) ∨ (x = 1 ∧ y = 2 ∧ z = 0) ∨ (x = 2 ∧ y = 0 ∧ z = 1) ∨ (x = 2 ∧ y = 1 ∧ z = 0) := by omega
  rcases c with ⟨rfl, rfl, rfl⟩ | ⟨rfl, rfl, rfl⟩ | ⟨rfl, rfl, rfl⟩ | ⟨rfl, rfl, rfl⟩ | ⟨rfl, rfl, rfl⟩ | ⟨rfl, rfl, rfl⟩ <;> omega
section
variable {s s' : Sw} {f g : Nat → Nat}
theorem Ren.kind (h : Ren s s' f g) {x : Want} (hx : WtOk s.loaves x) {k : Nat} (hk : k < s.loaves.length) : ((renW f x).kind == ((f k : Nat) : Int)) = (x.kind == (k : Int)) := by
 by_cases e : x.kind < 0
 ·rw [renW_0 e, Bool.eq_iff_iff, beq_iff_eq, beq_iff_eq]; omega
 ·obtain ⟨n, hn⟩ : ∃ n : Nat, x.kind = (n : Int) := ⟨x.kind.toNat, by omega⟩
  have := hx.k1
  have g1 := (h.f1 n (by omega)).2
  have g2 := (h.f1 k hk).2
  rw [renW_n hn, hn, Bool.eq_iff_iff, beq_iff_eq, beq_iff_eq]
  show ((f n : Nat) : Int) = _ ↔ _
  constructor
  ·intro e
   have e : f n = f k := by omega
   rw [e] at g1
   omega
  ·intro e
   rw [show n = k by omega]
theorem Ren.rest (h : Ren s s' f g) {x : Want} (hx : WtOk s.loaves x) (h0 : 0 ≤ x.kind) : restW s' (renW f x) = restW s x := by
 obtain ⟨n, hn⟩ : ∃ n : Nat, x.kind = (n : Int) := ⟨x.kind.toNat, by omega⟩
 have := hx.k1
 have hl := h.lo n (by omega)
 unfold restW
 rw [renW_amount, h.ke, show loafAt s' (renW f x).kind = loafAt s x.kind by
  unfold loafAt
  rw [renW_n hn, hn]
  exact hl]
variable {xs : List Want} (hxs : ∀ x ∈ xs, WtOk s.loaves x)
include hxs
theorem Ren.tk (h : Ren s s' f g) {k : Nat} (hk : k < s.loaves.length) : tkN (xs.map (renW f)) (f k) = tkN xs k := by
 unfold tkN
 rw [List.countP_map]
 congr 1
 refine List.countP_congr fun x hx => ?_
 show isTk (f k) (renW f x) = true ↔ _
 unfold isTk
 rw [renW_sort, h.kind (hxs x hx) hk]
theorem Ren.su (h : Ren s s' f g) {k : Nat} (hk : k < s.loaves.length) : suN s' (xs.map (renW f)) (f k) = suN s xs k := by
 induction xs with
 | nil => rfl
 | cons x xs ih =>
  have hx := hxs x List.mem_cons_self
  rw [List.map_cons, suN_cons, suN_cons, ih fun y hy => hxs y (List.mem_cons_of_mem _ hy)]
  have e : isTp (f k) (renW f x) = isTp k x := by unfold isTp; rw [renW_sort, h.kind hx hk]
  rw [e]
  by_cases ht : isTp k x = true
  ·rw [if_pos ht, if_pos ht]
   have : 0 ≤ x.kind := by unfold isTp at ht; simp at ht; omega
   rw [h.rest hx this]
  ·rw [if_neg ht, if_neg ht]
theorem Ren.tks (h : Ren s s' f g) {k : Nat} (hk : k < s.loaves.length) : tksN ((f k : Nat) : Int) (xs.map (renW f)) = tksN (k : Int) xs := by
 induction xs with
 | nil => rfl
 | cons x xs ih =>
  have hx := hxs x List.mem_cons_self
  rw [List.map_cons, tksN_cons, tksN_cons, ih fun y hy => hxs y (List.mem_cons_of_mem _ hy), renW_amount]
  have e : isTks ((f k : Nat) : Int) (renW f x) = isTks (k : Int) x := by
   unfold isTks
   rw [renW_sort, h.kind hx hk, show decide (((f k : Nat) : Int) < 0) = false by simp, show decide ((k : Int) < 0) = false by simp]
  rw [e]
theorem Ren.tks0 (h : Ren s s' f g) : tksN (-1) (xs.map (renW f)) = tksN (-1) xs := by
 induction xs with
 | nil => rfl
 | cons x xs ih =>
  rw [List.map_cons, tksN_cons, tksN_cons, ih fun y hy => hxs y (List.mem_cons_of_mem _ hy), renW_amount]
  have e : isTks (-1) (renW f x) = isTks (-1) x := by unfold isTks; rw [renW_sort]; simp
  rw [e]
end
theorem Ren.ok {s s' : Sw} {f g : Nat → Nat} (hok : SOk s) (h : Ren s s' f g) {w : List Nat} {c : Cr} (hok' : SOk s') (hc : crushW s w = some c) : ∃ c', crushW s' w = some c' ∧ c'.c ≤ c.c := by
 have hw : ∀ x ∈ wantsOf s w, WtOk s.loaves x := fun x hx => wants_mem hok hx
 have hst := hok.st
 have h3 := hok.l3
 refine served_by hok hok' hc fun l hl h0 ho => ⟨(List.range s.loaves.length).map fun k => l.getD (g k) 0, by rw [List.length_map, List.length_range, h.sl, hst], fun k hk => ?_, ?_⟩
 ·rw [List.getD_eq_getElem?_getD, List.getElem?_map, List.getElem?_range (by rw [h.sl] at hk; omega)]
  exact h0 _
 have hg : ∀ k, k < s.loaves.length → ((List.range s.loaves.length).map fun k => l.getD (g k) 0).getD k 0 = l.getD (g k) 0 := fun k hk => by
  rw [List.getD_eq_getElem?_getD, List.getElem?_map, List.getElem?_range hk]; rfl
 have hgf : ∀ k, k < s.loaves.length → ((List.range s.loaves.length).map fun k => l.getD (g k) 0).getD (f k) 0 = l.getD k 0 := fun k hk => by
  rw [hg _ (h.f1 k hk).1, (h.f1 k hk).2]
 generalize ((List.range s.loaves.length).map fun k => l.getD (g k) 0) = l' at *
 rw [wants_ren h]
 have back : ∀ k, k < s'.loaves.length → ∃ j, j < s.loaves.length ∧ f j = k := fun k hk => by rw [h.ll] at hk; exact ⟨g k, h.g1 k hk⟩
 refine ⟨⟨fun k hk => ?_, fun k hk => ?_, ?_⟩, ?_⟩
 ·obtain ⟨j, hj, rfl⟩ := back k hk
  rw [h.tk hw hj, hgf j hj, h.st j hj]
  exact ho.a j hj
 ·obtain ⟨j, hj, rfl⟩ := back k hk
  rw [h.tks hw hj, hgf j hj, h.lo j hj, h.su hw hj]
  exact ho.b j hj
 ·rw [h.tks0 hw]
  have e : sumL (sugarD s' ((wantsOf s w).map (renW f)) l') = sumL (sugarD s (wantsOf s w) l) := by
   unfold sugarD
   rw [h.ll, sum_ren h3 h.f1]
   congr 1
   refine map_on fun k hk => ?_
   rw [hgf k hk, h.lo k hk, h.su hw hk]
  rw [e]
  exact ho.c
 ·rw [h.ll, sum_ren h3 h.f1]
  refine sum_map_le fun k hk => ?_
  rw [h.tk hw hk, hgf k hk]
  exact Int.le_refl _
theorem Ren.most {s s' : Sw} {f g : Nat → Nat} (hok : SOk s) (hok' : SOk s') (h : Ren s s' f g) : mostW s (servedL s) ≤ mostW s' (servedL s') := by
 obtain ⟨w, hw, hp⟩ := mostW_mem hok (servedL s) (served_ne hok)
 obtain ⟨h1, c, hc⟩ := served_iff.1 hw
 obtain ⟨c', hc', _⟩ := h.ok hok hok' hc
 have hw' : w ∈ servedL s' := served_iff.2 ⟨by rw [h.wt, List.length_map]; exact h1, c', hc'⟩
 have := mostW_le s' (servedL s') w hw'
 rw [pay_ren h] at this
 omega
theorem Ren.best {s s' : Sw} {f g : Nat → Nat} (hok : SOk s) (hok' : SOk s') (h : Ren s s' f g) : payW s (crWants (bestW s fun _ => true)) = payW s' (crWants (bestW s' fun _ => true)) := by
 rw [best_pay hok, best_pay hok']
 have := h.most hok hok'
 have := (h.symm hok).most hok' hok
 omega
theorem Ren.fewest {s s' : Sw} {f g : Nat → Nat} (hok : SOk s) (hok' : SOk s') (h : Ren s s' f g) : (crushE s (fullW s)).2 = (crushE s' (fullW s')).2 := by
 have e : fullW s' = fullW s := by unfold fullW; rw [h.wt, List.length_map]
 rw [e]
 unfold crushE
 cases hc : crushW s (fullW s) with
 | none =>
  cases hc' : crushW s' (fullW s) with
  | none => rfl
  | some c' =>
   obtain ⟨c, h1, _⟩ := (h.symm hok).ok hok' hok hc'
   rw [h1] at hc; cases hc
 | some c =>
  obtain ⟨c', h1, h2⟩ := h.ok hok hok' hc
  obtain ⟨c2, h3, h4⟩ := (h.symm hok).ok hok' hok h1
  rw [hc] at h3
  cases h3
  rw [h1]
  show (c.c, (0 : Int)) = (c'.c, 0)
  rw [show c.c = c'.c by omega]
end Go.Mz


namespace Go.Mz
open Go
structure Perm (n : Nat) (o : List Nat) : Prop where
 p : o.Perm (List.range n)
theorem Perm.len {n : Nat} {o : List Nat} (h : Perm n o) : o.length = n := by rw [h.p.length_eq, List.length_range]
theorem Perm.lt {n : Nat} {o : List Nat} (h : Perm n o) : ∀ j ∈ o, j < n := fun j hj => List.mem_range.1 (h.p.mem_iff.1 hj)
theorem Perm.nd {n : Nat} {o : List Nat} (h : Perm n o) : o.Nodup := h.p.nodup_iff.2 List.nodup_range
theorem Perm.sur {n : Nat} {o : List Nat} (h : Perm n o) {k : Nat} (hk : k < n) : ∃ i, i < n ∧ o[i]? = some k := by
 have hm : k ∈ o := h.p.mem_iff.2 (List.mem_range.2 hk)
 obtain ⟨i, hi⟩ := List.mem_iff_getElem?.1 hm
 exact ⟨i, by have := (List.getElem?_eq_some_iff.1 hi).1; rw [h.len] at this; exact this, hi⟩
theorem Perm.inj {n : Nat} {o : List Nat} (h : Perm n o) {i j k : Nat} (hi : o[i]? = some k) (hj : o[j]? = some k) : i = j := by
 obtain ⟨h1, e1⟩ := List.getElem?_eq_some_iff.1 hi
 obtain ⟨h2, e2⟩ := List.getElem?_eq_some_iff.1 hj
 exact (List.getElem_inj h.nd).1 (e1.trans e2.symm)
theorem perm_range (n : Nat) : Perm n (List.range n) := ⟨.rfl⟩
theorem Perm.swap {n : Nat} {o : List Nat} (h : Perm n o) {i k x y : Nat} (hi : o[i]? = some x) (hk : o[k]? = some y) : Perm n ((o.set i y).set k x) := by
 obtain ⟨h1, rfl⟩ := List.getElem?_eq_some_iff.1 hi
 obtain ⟨h2, rfl⟩ := List.getElem?_eq_some_iff.1 hk
 exact ⟨(List.set_set_perm h1 h2).trans h.p⟩
def layL {α : Type} (l : List α) (o : List Nat) (n : Nat) : List α := (List.range n).foldl (fun m i => match l[i]?, o[i]? with
 | some x, some j => m.set j x
 | _, _ => m) l
theorem layL_succ {α : Type} (l : List α) (o : List Nat) {n j : Nat} {x : α} (hx : l[n]? = some x) (hj : o[n]? = some j) : layL l o (n + 1) = (layL l o n).set j x := by
 unfold layL
 rw [List.range_succ, List.foldl_append, List.foldl_cons, List.foldl_nil, hx, hj]
theorem layL_len {α : Type} (l : List α) (o : List Nat) : ∀ n, (layL l o n).length = l.length
 | 0 => rfl
 | n + 1 => by
  have ih := layL_len l o n
  unfold layL at ih ⊢
  rw [List.range_succ, List.foldl_append, List.foldl_cons, List.foldl_nil]
  split
  ·rw [List.length_set]; exact ih
  ·exact ih
theorem layL_get {α : Type} {l : List α} {o : List Nat} (h : Perm l.length o) : ∀ {n : Nat}, n ≤ l.length → ∀ {i j : Nat}, i < n → o[i]? = some j → (layL l o n)[j]? = l[i]?
 | 0, _, i, j, hi, _ => absurd hi (by omega)
 | n + 1, hn, i, j, hi, hj => by
  have hx : l[n]? = some l[n] := List.getElem?_eq_getElem (by omega)
  have hon : o[n]? = some (o[n]'(by rw [h.len]; omega)) := List.getElem?_eq_getElem _
  rw [layL_succ l o hx hon]
  by_cases e : i = n
  ·subst e
   rw [hon] at hj
   cases hj
   rw [List.getElem?_set_self (by rw [layL_len]; exact h.lt _ (List.getElem_mem _)), hx]
  ·rw [List.getElem?_set_ne (fun e2 => e (h.inj hj (by rw [← e2]; exact hon)))]
   exact layL_get h (by omega) (by omega) hj
theorem layL_mem {α : Type} {l : List α} {o : List Nat} (h : Perm l.length o) {x : α} (hx : x ∈ layL l o l.length) : x ∈ l := by
 obtain ⟨j, hj⟩ := List.mem_iff_getElem?.1 hx
 have hjl := (List.getElem?_eq_some_iff.1 hj).1
 rw [layL_len] at hjl
 obtain ⟨i, hi, ho⟩ := h.sur hjl
 rw [layL_get h (Nat.le_refl _) hi ho] at hj
 exact List.mem_of_getElem? hj
def numF (o : List Nat) (k : Nat) : Nat := o.getD k 0
def laySw (s : Sw) (o : List Nat) : Sw := { s with loaves := layL s.loaves o s.loaves.length, stock := layL s.stock o s.stock.length, wants := s.wants.map (renW (numF o)) }
theorem numF_get {n : Nat} {o : List Nat} (h : Perm n o) {k : Nat} (hk : k < n) : o[k]? = some (numF o k) ∧ numF o k < n := by
 have e : o[k]? = some (o[k]'(by rw [h.len]; exact hk)) := List.getElem?_eq_getElem _
 have : numF o k = o[k]'(by rw [h.len]; exact hk) := by unfold numF; rw [List.getD_eq_getElem?_getD, e]; rfl
 rw [this]
 exact ⟨e, h.lt _ (List.getElem_mem _)⟩
theorem lay_ren {s : Sw} (hok : SOk s) {o : List Nat} (hp : Perm s.loaves.length o) : ∃ g, Ren s (laySw s o) (numF o) g := by
 have hp' : Perm s.stock.length o := by rw [hok.st]; exact hp
 refine ⟨fun k => o.findIdx (· == k), layL_len _ _ _, layL_len _ _ _, fun k hk => ?_, fun k hk => ?_, fun k hk => ?_, fun k hk => ?_, rfl, rfl⟩
 ·obtain ⟨h1, h2⟩ := numF_get hp hk
  refine ⟨h2, ?_⟩
  have hm : o.findIdx (· == numF o k) < o.length := List.findIdx_lt_length_of_exists ⟨_, List.mem_of_getElem? h1, by simp⟩
  have he := List.findIdx_getElem (p := (· == numF o k)) (w := hm)
  rw [beq_iff_eq] at he
  exact hp.inj (i := o.findIdx (· == numF o k)) (by rw [List.getElem?_eq_getElem hm, he]) h1
 ·obtain ⟨i, hi, ho⟩ := hp.sur hk
  have hm : o.findIdx (· == k) < o.length := List.findIdx_lt_length_of_exists ⟨_, List.mem_of_getElem? ho, by simp⟩
  have he := List.findIdx_getElem (p := (· == k)) (w := hm)
  rw [beq_iff_eq] at he
  rw [hp.len] at hm
  refine ⟨hm, ?_⟩
  unfold numF
  rw [List.getD_eq_getElem?_getD, List.getElem?_eq_getElem (by rw [hp.len]; exact hm)]
  exact he
 ·obtain ⟨h1, h2⟩ := numF_get hp hk
  have := layL_get hp (Nat.le_refl _) hk h1
  show (layL s.loaves o s.loaves.length).getD _ _ = _
  rw [List.getD_eq_getElem?_getD, this, ← List.getD_eq_getElem?_getD]
 ·obtain ⟨h1, h2⟩ := numF_get hp hk
  have := layL_get hp' (Nat.le_refl _) (by rw [hok.st]; exact hk) h1
  show (layL s.stock o s.stock.length).getD _ _ = _
  rw [List.getD_eq_getElem?_getD, this, ← List.getD_eq_getElem?_getD]
theorem renW_wt {s : Sw} {o : List Nat} (hp : Perm s.loaves.length o) {x : Want} (h : WtOk s.loaves x) : WtOk (layL s.loaves o s.loaves.length) (renW (numF o) x) := by
 by_cases e : x.kind < 0
 ·rw [renW_0 e]
  have hs : x.sort = 1 := by
   have := h.k0
   unfold wKd at this
   split at this
   ·assumption
   ·omega
  exact ⟨h.s0, h.s2, h.k0, by rw [layL_len]; exact h.k1, h.a0, by have := h.a1; unfold wHi at this ⊢; rw [if_neg (by omega), if_pos hs] at this ⊢; exact this, h.p0, h.p1⟩
 ·obtain ⟨n, hn⟩ : ∃ n : Nat, x.kind = (n : Int) := ⟨x.kind.toNat, by omega⟩
  have hnl : n < s.loaves.length := by have := h.k1; omega
  obtain ⟨h1, h2⟩ := numF_get hp hnl
  have hlo := layL_get hp (Nat.le_refl _) hnl h1
  rw [renW_n hn]
  refine ⟨h.s0, h.s2, ?_, ?_, h.a0, ?_, h.p0, h.p1⟩
  ·show (if x.sort = 1 then (-1 : Int) else 0) ≤ ((numF o n : Nat) : Int)
   split <;> omega
  ·rw [layL_len]
   show ((numF o n : Nat) : Int) < _
   omega
  ·have h3 := h.a1
   show x.amount ≤ (if x.sort = 0 then (0 : Int) else if x.sort = 1 then 60 else (((layL s.loaves o s.loaves.length).getD ((numF o n : Nat) : Int).toNat []).length : Int) - 1)
   unfold wHi at h3
   rw [hn] at h3
   rw [Int.toNat_natCast, List.getD_eq_getElem?_getD, hlo, ← List.getD_eq_getElem?_getD]
   exact h3
end Go.Mz


set_option maxRecDepth 100000
namespace Go.Mz
open Go.Conc Go.Proofs
variable {X : Logic Tryz.prog}
theorem natI_set (o : List Nat) (i y : Nat) : (natI o).set i (y : Int) = natI (o.set i y) := by unfold natI; rw [List.map_set]
theorem flat_I (l : List Int) : l.flatMap encI = l.map (Value.int .i64) := by
 induction l with
 | nil => rfl
 | cons x l ih => rw [List.flatMap_cons, ih]; rfl
theorem Own.set {L : LH} {e : TypeId} {v : Value} {l : List Int} {b d : Nat} {x : Int} (h : Own L 1 e v l.length (l.flatMap encI) (some b)) (hd : d < l.length) :
  ∃ c, L b = some (.cells c e (0, 0), true) ∧ d + 1 ≤ c.size ∧ Own (L.put b (.cells (putRow c d [.int .i64 x]) e)) 1 e v (l.set d x).length ((l.set d x).flatMap encI) (some b) := by
 obtain ⟨cap, c, h1, h2, h3, h4, h5, h6⟩ := h
 refine ⟨c, h2, by omega, cap, putRow c d [.int .i64 x], ?_, put_same _ _ _, by rw [putRow_size]; exact h3, by rw [List.length_set]; exact h4, ?_, ?_⟩
 ·rw [List.length_set]; exact h1
 ·rw [flat_I, List.length_map, Nat.mul_one]
 ·intro i y hy
  rw [flat_I, List.map_set] at hy
  rw [putRow_get]
  rw [flat_I] at h6
  by_cases e : i = d
  ·subst e
   rw [List.getElem?_set_self (by simpa using hd)] at hy
   cases hy
   rw [if_neg (by omega), dif_pos ⟨by simp, by omega⟩]
   simp
  ·rw [List.getElem?_set_ne (Ne.symm e)] at hy
   have := h6 i y hy
   split
   ·exact this
   ·rw [dif_neg (by simp; omega)]; exact this
theorem Shuffle_sp (b : Nat) (ad : Option Addr) (cap : Nat) (l : List Int) (n0 k : Nat) (L : LH) (h : HatAt L b ad cap l n0) (hn : n0 ≤ 900000) (hl : l.length ≤ 140737488355328) (hk : k ≤ 100) :
  Sp X 48 [pt b, .int .i64 k] L (fun v L' => ∃ o a c m, v = .slice a (natI o).length c ∧ Perm k o ∧ m ≤ n0 + k ∧ Le (L.but b) L' ∧ HatAt L' b ad cap l m ∧ IntsAt (L'.but b) a (natI o)) := by
 refine Sp.enter (n := 42) Tryz.func48 rfl rfl rfl rfl fun C hX _ hL0 r => ?_
 refine W.go 99 rfl ?_
 refine W.loop (fun w E B L' => ∃ (i : Nat) (v : Value), w = k - i ∧ i ≤ k ∧ Grow L 1 3 encI L' v (natI (List.range i)) ∧ E = [(0, .v (pt b)), (1, .v (.int .i64 k)), (5, .v v), (6, .v (.int .i64 i))] ∧ B = [])
  ⟨0, _, rfl, by omega, Grow.nil (Le.refl _), rfl, rfl⟩ (by exact ⟨rfl, rfl, rfl, rfl, trivial⟩) trivial ?_
 rintro _ _ _ L1 ⟨i, v, rfl, hi, hg, rfl, rfl⟩ again
 refine W.go 99 rfl ?_
 refine W.split rfl rfl rfl (fun e1 => W.go 99 rfl ?_) (fun e1 => W.go 99 rfl ?_)
 ·have hik : i < k := by simpa using e1
  refine W.eff rfl rfl rfl (Ef.grow rfl rfl rfl rfl rfl rfl rfl rfl rfl encI_len encI_sg hg (ls := [(i : Int)]) (.own rfl rfl rfl rfl) (by simp [natI]; omega)) ?_
  rintro _ _ _ ⟨v', rfl, rfl, hg2, -⟩
  refine W.go 99 rfl ?_
  exact W.again (again _ _ _ _ (by omega) ⟨i + 1, v', rfl, by omega, by rw [List.range_succ, natI_snoc]; exact hg2, rfl, rfl⟩) ⟨rfl, rfl, rfl, congrArg some (inc64 (by omega)), trivial⟩ trivial
 have hik : i = k := by simp at e1; omega
 subst hik
 clear again
 obtain ⟨hL1, ob, hown, hfr⟩ := hg
 have hh1 := h.le hL1
 refine W.loop (fun w E B L' => ∃ (q m : Nat) (o : List Nat), w = q ∧ q ≤ i ∧ m + q = n0 + i ∧ Perm i o ∧ Le (L.but b) L' ∧ HatAt L' b ad cap l m ∧ Own L' 1 3 v (natI o).length ((natI o).flatMap encI) ob ∧
   E = [(0, .v (pt b)), (5, .v v), (7, .v (.int .i64 ((q : Int) - 1)))] ∧ B = [])
  ⟨i, n0, List.range i, rfl, Nat.le_refl _, rfl, perm_range i, (but_le _ _).trans hL1, hh1, hown, rfl, rfl⟩ (by exact ⟨rfl, rfl, congrArg some (w64 rfl (by omega) (by omega)), trivial⟩) trivial ?_
 clear hown
 rintro q _ _ L2 ⟨_, m, o, rfl, hq, hm, hp, hl2, hh2, hown, rfl, rfl⟩ again
 have hol : (natI o).length = i := by rw [natI_len, hp.len]
 refine W.go 99 rfl ?_
 refine W.split rfl rfl rfl (fun e2 => W.go 99 rfl ?_) (fun e2 => W.go 99 rfl ?_)
 ·obtain ⟨q, rfl⟩ : ∃ r, q = r + 1 := ⟨q - 1, by simp at e2; omega⟩
  have hq1 : 0 < q := by simp at e2; omega
  rw [show ((q + 1 : Nat) : Int) - 1 = (q : Int) by omega]
  cases ob with
  | none => obtain ⟨_, h0, _⟩ := hown; omega
  | some bo =>
   have hbo := hfr bo rfl
   have hbb : bo ≠ b := h.off hbo
   obtain ⟨cp, ca, rfl, hL2b, hsz, hlc, hcl, hget⟩ := id hown
   refine W.eff rfl rfl rfl (Ef.call rfl (To_sp b ad cap l m q L2 hh2 (by omega) hl (by omega))) ?_
   rintro _ _ _ ⟨_, rfl, rfl, ⟨y, rfl, hy⟩, hk3, hs3⟩
   rename_i L3
   have hh3 := hh2.next hk3 hs3
   have hown3 : Own L3 1 3 (.slice (some ⟨bo, 0, none⟩) (natI o).length cp) (natI o).length ((natI o).flatMap encI) (some bo) := hown.keep fun b' hb' => by cases hb'; exact hk3 _ hbb
   have hL3b : L3 bo = some (.cells ca 3 (0, 0), true) := (hk3 _ hbb).trans hL2b
   have hiL := hown3.at encI_len
   obtain ⟨xq, hxq⟩ : ∃ x, o[q]? = some x := ⟨_, List.getElem?_eq_getElem (by rw [hp.len]; omega)⟩
   obtain ⟨xy, hxy⟩ : ∃ x, o[y]? = some x := ⟨_, List.getElem?_eq_getElem (by rw [hp.len]; omega)⟩
   have cq : L3.cell? (Addr.add ⟨bo, 0, none⟩ q) = some (.int .i64 xq) := hiL.int (by rw [natI, List.getElem?_map, hxq]; rfl)
   have cy : L3.cell? (Addr.add ⟨bo, 0, none⟩ y) = some (.int .i64 xy) := hiL.int (by rw [natI, List.getElem?_map, hxy]; rfl)
   have hqn : q < (natI o).length := by omega
   have hyn : y < (natI o).length := by omega
   refine W.go 99 rfl ?_
   refine W.drawn (by kernel_rfl) noL (noL_le _) ?_
   refine DD.run' [0, 1, 2, 3, 4, 5, 8, 9] rfl ?_
   refine DD.vf 6 rfl rfl rfl rfl rfl (Vf.idx1 rfl rfl rfl rfl rfl rfl rfl (hyn)) ?_
   refine DD.vf 10 rfl rfl rfl rfl rfl (Vf.idx1 rfl rfl rfl rfl rfl rfl rfl (hqn)) ?_
   have hx1 : Addr.add ⟨bo, 0, none⟩ q = ⟨bo, q, none⟩ := by rw [add_of, Nat.zero_add]
   have hx2 : Addr.add ⟨bo, 0, none⟩ y = ⟨bo, y, none⟩ := by rw [add_of, Nat.zero_add]
   obtain ⟨c4, hc4, hcd, hown4⟩ := hown3.set (d := q) (x := (xy : Int)) hqn
   rw [natI_set] at hown4
   obtain ⟨c5, hc5, hce, hown5⟩ := hown4.set (d := y) (x := (xq : Int)) (by rw [natI_len, List.length_set]; rw [natI_len] at hyn; exact hyn)
   rw [natI_set] at hown5
   have hp5 := hp.swap (i := q) (k := y) hxq hxy
   have hkeep : ∀ (L4 : LH) (x y : Obj), L4 = (L3.put bo x).put bo y → ∀ b', b' ≠ bo → L4 b' = L3 b' := fun L4 x y e b' hb' => by rw [e, put_ne _ _ hb', put_ne _ _ hb']
   have hkeep := hkeep _ (.cells (putRow c4 q [.int .i64 xy]) 3) (.cells (putRow c5 y [.int .i64 xq]) 3) rfl
   have fin : ∃ (q' m' : Nat) (o' : List Nat), q = q' ∧ q' ≤ i ∧ m' + q' = n0 + i ∧ Perm i o' ∧ Le (L.but b) ((L3.put bo (.cells (putRow c4 q [.int .i64 xy]) 3)).put bo (.cells (putRow c5 y [.int .i64 xq]) 3)) ∧ HatAt ((L3.put bo (.cells (putRow c4 q [.int .i64 xy]) 3)).put bo (.cells (putRow c5 y [.int .i64 xq]) 3)) b ad cap l m' ∧ Own ((L3.put bo (.cells (putRow c4 q [.int .i64 xy]) 3)).put bo (.cells (putRow c5 y [.int .i64 xq]) 3)) 1 3 (.slice (some ⟨bo, 0, none⟩) (natI o).length cp) (natI o').length ((natI o').flatMap encI) (some bo) ∧
     [(0, SV.v (pt b)), (5, SV.v (.slice (some ⟨bo, 0, none⟩) (natI o).length cp)), (7, SV.v (.int .i64 ((q : Int) - 1)))] = [(0, .v (pt b)), (5, .v (.slice (some ⟨bo, 0, none⟩) (natI o).length cp)), (7, .v (.int .i64 ((q' : Int) - 1)))] ∧ ([] : List (Option Bx)) = [] := by
    refine ⟨q, m + 1, _, rfl, by omega, by omega, hp5, fun b' x hx => ?_, ⟨?_, ?_⟩, hown5, rfl, rfl⟩
    ·have hb' : b' ≠ bo := fun e => by subst e; rw [but_get hbb, hbo] at hx; cases hx
     rw [hkeep _ hb']
     exact (but_trans hl2 (but_same hk3)) _ _ hx
    ·obtain ⟨sd, g⟩ := hh3.blk
     exact ⟨sd, by rw [hkeep _ (Ne.symm hbb)]; exact g⟩
    ·refine h.ints.le fun b' x hx => ?_
     have hb1 : b' ≠ b := fun e => by subst e; unfold LH.but at hx; rw [if_pos rfl] at hx; cases hx
     have hb' : b' ≠ bo := fun e => by subst e; rw [but_get hbb, hbo] at hx; cases hx
     rw [but_get hb1, hkeep _ hb']
     exact (but_trans hl2 (but_same hk3)) _ _ hx
   refine DD.act2 7 11 rfl rfl rfl rfl rfl rfl rfl rfl (Ef.val rfl (Vf.load rfl rfl rfl (by exact cy))) (Ef.val rfl (Vf.load rfl rfl rfl (by exact cq))) (by rintro _ _ _ ⟨rfl, rfl, rfl⟩; exact ⟨noL_le _, rfl, .inl rfl⟩) (by rintro _ _ _ ⟨rfl, rfl, rfl⟩; exact ⟨noL_le _, rfl, .inl rfl⟩) ?_ ?_
   ·rintro _ _ _ ⟨rfl, rfl, hq'⟩
    obtain rfl := hq'.symm
    refine DD.act 11 rfl rfl rfl rfl rfl (Ef.val rfl (Vf.load rfl rfl rfl (cq))) (by rintro _ _ _ ⟨rfl, rfl, rfl⟩; exact ⟨noL_le _, rfl, .inl rfl⟩) ?_
    rintro _ _ _ ⟨rfl, rfl, rfl⟩
    refine DD.vf 12 rfl rfl rfl rfl rfl (Vf.idx1 rfl rfl rfl rfl rfl rfl rfl (hqn)) ?_
    refine DD.act 13 rfl rfl rfl rfl rfl (Ef.stoF (congrArg (fun a => some (SV.v (.pointer (some a)))) hx1) ⟨_, rfl, rfl⟩ rfl hc4 rfl hcd (singles rfl)) ((by rintro _ _ _ ⟨rfl, rfl, rfl⟩; exact ⟨noL_le _, rfl, .inl rfl⟩)) ?_
    rintro _ _ _ ⟨rfl, rfl, rfl⟩
    refine DD.vf 14 rfl rfl rfl rfl rfl (Vf.idx1 rfl rfl rfl rfl rfl rfl rfl (hyn)) ?_
    refine DD.act 15 rfl rfl rfl rfl rfl (Ef.stoF (congrArg (fun a => some (SV.v (.pointer (some a)))) hx2) ⟨_, rfl, rfl⟩ rfl hc5 rfl hce (singles rfl)) ((by rintro _ _ _ ⟨rfl, rfl, rfl⟩; exact ⟨noL_le _, rfl, .inl rfl⟩)) ?_
    rintro _ _ _ ⟨rfl, rfl, rfl⟩
    refine .fin rfl ?_
    refine W.go 99 rfl ?_
    exact W.again (again _ _ _ _ (by omega) fin) (by exact ⟨rfl, rfl, congrArg some (w64 rfl (by omega) (by omega)), trivial⟩) trivial
   ·rintro _ _ _ ⟨rfl, rfl, hq'⟩
    obtain rfl := hq'.symm
    refine DD.act 7 rfl rfl rfl rfl rfl (Ef.val rfl (Vf.load rfl rfl rfl (cy))) (by rintro _ _ _ ⟨rfl, rfl, rfl⟩; exact ⟨noL_le _, rfl, .inl rfl⟩) ?_
    rintro _ _ _ ⟨rfl, rfl, rfl⟩
    refine DD.vf 12 rfl rfl rfl rfl rfl (Vf.idx1 rfl rfl rfl rfl rfl rfl rfl (hqn)) ?_
    refine DD.act 13 rfl rfl rfl rfl rfl (Ef.stoF (congrArg (fun a => some (SV.v (.pointer (some a)))) hx1) ⟨_, rfl, rfl⟩ rfl hc4 rfl hcd (singles rfl)) ((by rintro _ _ _ ⟨rfl, rfl, rfl⟩; exact ⟨noL_le _, rfl, .inl rfl⟩)) ?_
    rintro _ _ _ ⟨rfl, rfl, rfl⟩
    refine DD.vf 14 rfl rfl rfl rfl rfl (Vf.idx1 rfl rfl rfl rfl rfl rfl rfl (hyn)) ?_
    refine DD.act 15 rfl rfl rfl rfl rfl (Ef.stoF (congrArg (fun a => some (SV.v (.pointer (some a)))) hx2) ⟨_, rfl, rfl⟩ rfl hc5 rfl hce (singles rfl)) ((by rintro _ _ _ ⟨rfl, rfl, rfl⟩; exact ⟨noL_le _, rfl, .inl rfl⟩)) ?_
    rintro _ _ _ ⟨rfl, rfl, rfl⟩
    refine .fin rfl ?_
    refine W.go 99 rfl ?_
    exact W.again (again _ _ _ _ (by omega) fin) (by exact ⟨rfl, rfl, congrArg some (w64 rfl (by omega) (by omega)), trivial⟩) trivial
 ·have hq1 : q ≤ 1 := by simp at e2; omega
  obtain ⟨a, c, rfl, _⟩ := hown.slice
  refine W.ret r rfl rfl ?_
  refine ⟨o, a, c, m, rfl, hp, by omega, hl2, hh2, ?_⟩
  cases ob with
  | none => obtain ⟨_, h0, _⟩ := hown; rw [List.length_eq_zero_iff.1 h0]; exact SlAt.empty
  | some bo =>
   have hbb : bo ≠ b := h.off (hfr bo rfl)
   exact (hown.keep (L' := L2.but b) fun b' hb' => by cases hb'; exact but_get hbb).at encI_len
end Go.Mz


set_option maxRecDepth 100000
namespace Go.Mz
open Go.Conc Go.Proofs
variable {X : Logic Tryz.prog}
theorem Grow.setN {α : Type} {I L : LH} {k : Nat} {e : TypeId} {enc : α → List Value} {v : Value} {l : List α} {d : Nat} (h : Grow I k e enc L v l) (hk : ∀ x, (enc x).length = k) (hd : d < l.length) (x : α) :
  ∃ b cap c, v = .slice (some ⟨b, 0, none⟩) l.length cap ∧ I b = none ∧ L b = some (.cells c e (0, 0), true) ∧ d * k + k ≤ c.size ∧ Grow I k e enc (L.put b (.cells (putRow c (d * k) (enc x)) e)) v (l.set d x) := by
 obtain ⟨hI, ob, ho, hn⟩ := h
 cases ob with
 | none => obtain ⟨_, h, _⟩ := ho; omega
 | some b =>
  obtain ⟨cap, c, h1, h2, h3, h4, h5, h6⟩ := ho
  have hsz : d * k + k ≤ c.size := by
   rw [h3, ← Nat.succ_mul]
   exact Nat.mul_le_mul_right _ (by omega)
  have hb := hn b rfl
  refine ⟨b, cap, c, h1, hb, h2, hsz, fun b' y hy => ?_, some b, ⟨cap, putRow c (d * k) (enc x), ?_, put_same _ _ _, ?_, ?_, ?_, fun i y hy => ?_⟩, fun b' hb' => by cases hb'; exact hb⟩
  ·rw [put_ne _ _ (fun e => by subst e; rw [hb] at hy; cases hy)]; exact hI _ _ hy
  ·rw [List.length_set]; exact h1
  ·rw [putRow_size]; exact h3
  ·rw [List.length_set]; exact h4
  ·have : ∀ l : List α, (l.flatMap enc).length = l.length * k := fun l => by
    induction l with
    | nil => simp
    | cons a l ih => rw [List.flatMap_cons, List.length_append, hk, ih, List.length_cons, Nat.succ_mul]; omega
   exact this _
  ·rw [flat_set_get hk l d x i hd] at hy
   rw [putRow_get]
   split at hy
   ·rename_i h7
    rw [if_neg (by omega)]
    have hlt : i - d * k < (enc x).length := by rw [hk]; omega
    rw [List.getElem?_eq_getElem hlt] at hy
    rw [dif_pos ⟨hlt, by omega⟩]; exact hy
   ·rename_i h7
    have := h6 i y hy
    split
    ·exact this
    ·rw [dif_neg (by rw [hk]; omega)]; exact this
end Go.Mz


set_option maxRecDepth 100000
namespace Go.Mz
open Go.Conc Go.Proofs
variable {X : Logic Tryz.prog}
theorem Own.ne {L : LH} {k : Nat} {e : TypeId} {v : Value} {n : Nat} {cs : List Value} {b : Nat} (h : Own L k e v n cs (some b)) : L b ≠ none := by
 obtain ⟨_, _, _, h, _⟩ := h
 rw [h]
 exact fun e => by cases e
abbrev blk (ad : Option Addr) : Option Nat := ad.map Addr.block
end Go.Mz


set_option maxRecDepth 100000
namespace Go.Mz
open Go.Conc Go.Proofs
variable {X : Logic Tryz.prog}
section
variable {α : Type} {F F' I J L L' : LH} {k : Nat} {e : TypeId} {enc : α → List Value} {v : Value} {l : List α}
theorem Grow.weak (h : Grow I k e enc L v l) (hJ : Le J I) : Grow J k e enc L v l := by
 obtain ⟨h1, ob, h2, h3⟩ := h
 refine ⟨hJ.trans h1, ob, h2, fun b hb => ?_⟩
 have := h3 b hb
 cases hx : J b with
 | none => rfl
 | some x => rw [hJ _ _ hx] at this; cases this
theorem Grow.other {b : Nat} {c : Array Value} {e2 : TypeId} {fz : Nat × Nat} {wr : Bool} (h : Grow I k e enc L v l) (hb : L b = some (.cells c e2 fz, wr)) (he : e2 ≠ e) (hI : I b = none) (o : Obj) : Grow I k e enc (L.put b o) v l := by
 obtain ⟨h1, ob, h2, h3⟩ := h
 refine ⟨fun t x hx => ?_, ob, h2.keep fun t ht => ?_, h3⟩
 ·rw [put_ne _ _ (fun e => by subst e; rw [hI] at hx; cases hx)]; exact h1 _ _ hx
 ·subst ht
  obtain ⟨_, c', _, g, _⟩ := h2
  exact put_ne _ _ fun e => by
   subst e
   rw [g] at hb
   cases hb
   exact he rfl
theorem Grow.up (h : Grow F k e enc L v l) (hl : Le L L') (hF : Le F' L') (hn : ∀ b, F' b ≠ none → F b ≠ none ∨ L b = none) : Grow F' k e enc L' v l := by
 obtain ⟨_, ob, h2, h3⟩ := h
 refine ⟨hF, ob, h2.le hl, fun b hb => Classical.byContradiction fun e => ?_⟩
 rcases hn b e with h | h
 ·exact h (h3 b hb)
 ·subst hb; exact h2.ne h
theorem Grow.blk {ad : Option Addr} {len cap : Nat} (h : Grow I k e enc L (.slice ad len cap) l) (h0 : 0 < l.length) : ∃ b, ad = some ⟨b, 0, none⟩ := by
 obtain ⟨_, ob, h2, _⟩ := h
 cases ob with
 | none => obtain ⟨_, h, _⟩ := h2; omega
 | some b => obtain ⟨_, _, e, _⟩ := h2; cases e; exact ⟨b, rfl⟩
end
theorem DupLists2_sp (pa : Option Addr) (pc : Nat) (ls : List (List Int)) (L : LH) (h : RowsAt L pa 1 encI ls) (hn : ls.length ≤ 1000) (hl : ∀ x ∈ ls, x.length ≤ 1000) : Sp X 71 [.slice pa ls.length pc] L (fun v L' => ∃ a c, v = .slice a ls.length c ∧ Le L L' ∧ GrowL L 23 1 encI L' v ls) := by
 refine Sp.enter (n := 23) Tryz.func71 rfl rfl rfl rfl fun C hX _ hL0 r => ?_
 refine W.go 99 rfl ?_
 refine W.eff rfl rfl rfl (Ef.makeSlice rfl (by omega) Tryz.underlying22 size23 bytes23 zero23 (by decide) rfl) ?_
 rintro _ _ _ ⟨bn, rfl, rfl, hbn, rfl⟩
 refine W.go 99 rfl ?_
 have hLp := Le.put hbn (.cells (Array.replicate ls.length (.slice none 0 0)) 23)
 have h0 := put_same L bn (.cells (Array.replicate ls.length (.slice none 0 0)) 23)
 have e0 : Array.replicate ls.length (Value.slice none 0 0) = (([] ++ List.replicate (ls.length - 0) z0).flatMap encRw).toArray := by
  rw [List.nil_append, Nat.sub_zero, flat_z0]; simp
 refine W.loop (fun m E B L' => ∃ (i : Nat) (rs : List (Rw Int)), m = ls.length - i ∧ i ≤ ls.length ∧ rs.map Prod.snd = ls.take i ∧ Le L L' ∧ L' bn = some (.cells ((rs ++ List.replicate (ls.length - i) z0).flatMap encRw).toArray 23 (0, 0), true) ∧ (∀ x ∈ rs, RwOk (L'.but bn) 1 encI x) ∧
   E = [(0, .v (.slice pa ls.length pc)), (3, .v (.slice (some ⟨bn, 0, none⟩) ls.length ls.length)), (4, .v (.int .i64 i))] ∧ B = [])
  ⟨0, [], rfl, by omega, rfl, hLp, by rw [← e0]; exact h0, (fun x hx => by cases hx), rfl, rfl⟩ (by exact ⟨rfl, rfl, rfl, trivial⟩) trivial ?_
 rintro _ _ _ L1 ⟨i, rs, rfl, hi, hrs, hle, hb, hrk, rfl, rfl⟩ again
 have hrl : rs.length = i := by have := congrArg List.length hrs; simpa [hi] using this
 refine W.go 99 rfl ?_
 refine W.split rfl rfl rfl (fun e1 => W.go 99 rfl ?_) (fun e1 => W.go 99 rfl ?_)
 ·have hil : i < ls.length := by simpa using e1
  obtain ⟨x, hx⟩ : ∃ x, ls[i]? = some x := ⟨_, List.getElem?_eq_getElem hil⟩
  obtain ⟨pa', rfl⟩ := h.addr hil
  obtain ⟨xa, xc, hxc, hxs, hcx⟩ := h.row hx
  refine W.vf rfl rfl rfl rfl (Vf.idx1 rfl rfl rfl rfl rfl rfl rfl (hil)) ?_
  refine W.go 99 rfl ?_
  refine W.vf rfl rfl rfl rfl (Vf.load rfl rfl rfl (hle.cell hxc)) ?_
  refine W.go 99 rfl ?_
  refine W.eff rfl rfl rfl (Ef.call rfl (DupInts_sp xa xc x L1 (hxs.le hle) (by have := hl x (List.mem_of_getElem? hx); omega))) ?_
  rintro _ _ _ ⟨v1, rfl, rfl, hg⟩
  rename_i L2
  obtain ⟨da, dc, rfl, hdc⟩ := hg.slice
  have hb2 := hg.1 _ _ hb
  have hsl := (hg.sl_but encI_len hb2 (by decide)).2
  refine W.go 99 rfl ?_
  refine W.vf rfl rfl rfl rfl (Vf.idx1 rfl rfl rfl rfl rfl rfl rfl (hil)) ?_
  refine W.go 99 rfl ?_
  have hsz : ((rs ++ List.replicate (ls.length - i) z0).flatMap encRw).length = ls.length := by rw [flat_len encRw_len, List.length_append, List.length_replicate, hrl]; omega
  refine W.eff0 rfl rfl (Ef.stoF (b := bn) (off := i * 1) (congrArg (fun a => some (SV.v (.pointer (some a)))) (show Addr.add ⟨bn, 0, none⟩ i = ⟨bn, i * 1, none⟩ by rw [add_of]; simp)) ⟨_, rfl, rfl⟩ rfl hb2 rfl (by rw [List.size_toArray, hsz]; show i * 1 + 1 ≤ _; omega) (singles rfl)) ?_
  rintro _ _ _ ⟨rfl, rfl, rfl⟩
  refine W.go 99 rfl ?_
  have hput : putRow ((rs ++ List.replicate (ls.length - i) z0).flatMap encRw).toArray (i * 1) [.slice da x.length dc] = (((rs ++ [((da, x.length, dc), x)]) ++ List.replicate (ls.length - (i + 1)) z0).flatMap encRw).toArray := by
   rw [show [Value.slice da x.length dc] = encRw ((da, x.length, dc), x) from rfl, putRow_flat encRw_len (by rw [List.length_append, List.length_replicate, hrl]; omega)]
   have hrep : List.replicate (ls.length - i) z0 = z0 :: List.replicate (ls.length - (i + 1)) z0 := by rw [← List.replicate_succ]; congr 1; omega
   rw [hrep, List.set_append_right _ _ (by omega), hrl, Nat.sub_self, List.set_cons_zero, List.append_assoc]
   rfl
  refine W.again (again _ _ _ _ (by omega) ⟨i + 1, rs ++ [((da, x.length, dc), x)], rfl, by omega, ?_, ?_, (congrArg (fun c => some (Obj.cells c 23 (0, 0), true)) hput) ▸ put_same _ _ _, ?_, rfl, rfl⟩) ⟨rfl, rfl, congrArg some (inc64 (by omega)), trivial⟩ trivial
  ·rw [List.map_append, hrs]
   obtain ⟨_, rfl⟩ := List.getElem?_eq_some_iff.1 hx
   exact (List.take_succ_eq_append_getElem hil).symm
  ·exact fun b z hz => by
    have hne : b ≠ bn := fun e => by subst e; rw [hbn] at hz; cases hz
    rw [put_ne _ _ hne]; exact hg.1 _ _ (hle _ _ hz)
  ·have hbb : ∀ o, Le (L2.but bn) ((L2.put bn o).but bn) := fun o b z hz => by
    have hne : b ≠ bn := fun e => by subst e; unfold LH.but at hz; rw [if_pos rfl] at hz; cases hz
    rw [but_get hne] at hz ⊢
    rw [put_ne _ _ hne]; exact hz
   intro y hy
   rcases List.mem_append.1 hy with hy | hy
   ·exact ((hrk y hy).le (but_but ((but_le _ _).trans hg.1))).le (hbb _)
   ·rw [List.mem_singleton.1 hy]
    exact ⟨hsl.le (hbb _), rfl, hdc⟩
 ·have hie : i = ls.length := by simp at e1; omega
  subst hie
  refine W.ret r rfl rfl ?_
  rw [List.take_length] at hrs
  rw [Nat.sub_self, List.replicate_zero, List.append_nil] at hb
  have hfl : (rs.flatMap encRw).length = ls.length * 1 := by rw [flat_len encRw_len, hrl]
  refine ⟨_, _, rfl, hle, L1.but bn, rs, le_but hbn hle, hrs, ⟨but_le _ _, some bn, ⟨ls.length, (rs.flatMap encRw).toArray, by rw [hrl]; rfl, hb, by rw [List.size_toArray, hfl], by omega, by rw [hfl, hrl], fun i x hx => by simpa using hx⟩, fun b hb => by cases hb; unfold LH.but; exact if_pos rfl⟩, hrk⟩
structure DupC (s : Sw) (L L' : LH) (p : Wp) (F : LH) (rs : List (Rw Int)) : Prop where
 le : Le L F
 re : rs.map Prod.snd = s.loaves
 rk : ∀ x ∈ rs, RwOk F 1 encI x
 lo : Grow F 1 23 encRw L' (.slice p.la s.loaves.length p.lc) rs
 st : Grow F 1 3 encI L' (.slice p.sa s.stock.length p.sc) s.stock
 wt : Grow F 4 28 encWt L' (.slice p.wa s.wants.length p.wc) s.wants
 wl : s.wants.length ≤ p.wc
theorem DupSaw3_sp (s : Sw) (p : Wp) (L : LH) (h : SwAt L s p) (hn : Sm s) : Sp X 25 [swA s p] L (fun v L' => ∃ p' F rs, v = swA s p' ∧ DupC s L L' p' F rs) := by
 have n1 := hn.hl
 have n2 := hn.hs
 have n3 := hn.hw
 refine Sp.enter (n := 16) Tryz.func25 rfl rfl rfl rfl fun C hX _ hL0 r => ?_
 refine W.go 99 rfl ?_
 refine W.drawn (by kernel_rfl) _ (Le.refl _) ?_
 refine DD.run' [0, 1, 3, 4, 6, 7, 8, 9, 10] rfl ?_
 refine DD.act 2 rfl rfl rfl rfl rfl (Ef.call rfl (DupLists2_sp p.la p.lc s.loaves L h.lo n1 hn.hr)) ((by rintro _ _ _ ⟨_, rfl, rfl, _, _, rfl, hl, _⟩; exact ⟨hl, rfl, .inl rfl⟩)) ?_
 rintro _ _ _ ⟨v1, rfl, rfl, la, lc, rfl, hl1, J, rs, hJ, hrs, hlo, hrk⟩
 rename_i L1
 refine DD.act 5 rfl rfl rfl rfl rfl (Ef.call rfl (DupInts_sp p.sa p.sc s.stock L1 (h.st.le hl1) (by omega))) ((by rintro _ _ _ ⟨_, rfl, rfl, hg⟩; exact ⟨hl1.trans hg.1, rfl, .inl rfl⟩)) ?_
 rintro _ _ _ ⟨v2, rfl, rfl, hg2⟩
 rename_i L2
 obtain ⟨sa, sc, rfl, _⟩ := hg2.slice
 have hl2 := hl1.trans hg2.1
 have hwt := h.wt.le hl2
 refine DD.act 11 rfl rfl rfl rfl rfl (Ef.pub 11 (.inr ⟨_, _, _, rfl⟩) rfl rfl (fun b11 hb11 _ => Ef.grow rfl rfl rfl rfl rfl rfl rfl rfl rfl encWt_len encWt_sg (Grow.new (Le.put hb11 _) (put_same _ _ _) hb11) (ls := s.wants) (.sl (hwt.le (Le.put hb11 _)) encWt_len rfl) (by simp; omega))) (by rintro _ _ _ ⟨b11, hb11, _, _, rfl, rfl, hg, _⟩; exact ⟨hl2.trans hg.1, rfl, .inl rfl⟩) ?_
 rintro _ _ L3 ⟨b11, hb11, _, v3, rfl, rfl, hg3, _⟩
 rw [List.nil_append] at hg3
 obtain ⟨wa, wc, rfl, hwc⟩ := hg3.slice
 refine DD.run' [12] rfl ?_
 refine DD.act 13 rfl rfl rfl rfl rfl (Ef.sto rfl) (by rintro _ _ _ ⟨rfl, rfl, rfl⟩; exact ⟨hl2.trans hg3.1, rfl, .inr rfl⟩) ?_
 rintro _ _ _ ⟨rfl, rfl, rfl⟩
 refine .fin rfl ?_
 refine W.go 99 rfl ?_
 refine W.ret r rfl rfl ?_
 exact ⟨⟨la, sa, wa, lc, sc, wc⟩, J, rs, rfl, hJ, hrs, hrk, (hlo.le hg2.1).le hg3.1, (hg2.le hg3.1).weak hlo.1, hg3.weak (hlo.1.trans hg2.1), hwc⟩
theorem Grow.setKind {I L : LH} {v : Value} {l : List Want} {w : Nat} {x : Want} (h : Grow I 4 28 encWt L v l) (hx : l[w]? = some x) (y : Int) :
  ∃ b cap c, v = .slice (some ⟨b, 0, none⟩) l.length cap ∧ I b = none ∧ L b = some (.cells c 28 (0, 0), true) ∧ w * 4 + 1 + 1 ≤ c.size ∧ Grow I 4 28 encWt (L.put b (.cells (putRow c (w * 4 + 1) [.int .i64 y]) 28)) v (l.set w { x with kind := y }) := by
 obtain ⟨hw, hxw⟩ := List.getElem?_eq_some_iff.1 hx
 obtain ⟨b, cap, c, hv, h1, h2, h3, h4⟩ := h.setN encWt_len hw { x with kind := y }
 refine ⟨b, cap, c, hv, h1, h2, by omega, ?_⟩
 subst hv
 obtain ⟨a, ha, hc⟩ := (h.at encWt_len).2 w x hx
 cases ha
 have hc' : ∀ j v, (encWt x)[j]? = some v → c[w * 4 + j]? = some v := fun j v hj => by
  have := hc j v hj
  unfold LH.cell? at this
  rw [add_of] at this
  simp only [h2] at this
  simpa using this
 have e : putRow c (w * 4) (encWt { x with kind := y }) = putRow c (w * 4 + 1) [.int .i64 y] := by
  refine Array.ext_getElem? fun j => ?_
  rw [putRow_get, putRow_get]
  by_cases j1 : j < w * 4
  ·rw [if_pos j1, if_pos (by omega)]
  ·rw [if_neg j1]
   by_cases j2 : j < w * 4 + 4
   ·rw [dif_pos ⟨by rw [encWt_len]; omega, by omega⟩]
    obtain ⟨i, rfl⟩ : ∃ i, j = w * 4 + i := ⟨j - w * 4, by omega⟩
    have hz : w * 4 + i - w * 4 = i := by omega
    simp only [hz]
    rcases i with _ | _ | _ | _ | i
    ·rw [if_pos (by omega)]; exact (hc' 0 _ rfl).symm
    ·rw [if_neg (by omega), dif_pos ⟨by simp, by omega⟩]
     have hz : w * 4 + (0 + 1) - (w * 4 + 1) = 0 := by omega
     simp only [hz]
     rfl
    ·rw [if_neg (by omega), dif_neg (by simp)]; exact (hc' 2 _ rfl).symm
    ·rw [if_neg (by omega), dif_neg (by simp)]; exact (hc' 3 _ rfl).symm
    ·omega
   ·rw [dif_neg (by rw [encWt_len]; omega), if_neg (by omega), dif_neg (by simp; omega)]
 rw [← e]
 exact h4
def mapI {α : Type} (f : α → α) (l : List α) (i : Nat) : List α := (l.take i).map f ++ l.drop i
theorem mapI_get {α : Type} {f : α → α} {l : List α} {i : Nat} {x : α} (h : l[i]? = some x) : (mapI f l i)[i]? = some x := by
 obtain ⟨hi, rfl⟩ := List.getElem?_eq_some_iff.1 h
 unfold mapI
 rw [List.getElem?_append_right (by simp; omega)]
 have : i - ((l.take i).map f).length = 0 := by simp; omega
 rw [this, List.drop_eq_getElem_cons hi]; rfl
theorem mapI_succ {α : Type} {f : α → α} {l : List α} {i : Nat} {x : α} (h : l[i]? = some x) : mapI f l (i + 1) = (mapI f l i).set i (f x) := by
 obtain ⟨hi, rfl⟩ := List.getElem?_eq_some_iff.1 h
 unfold mapI
 have hl : ((l.take i).map f).length = i := by simp; omega
 rw [List.take_succ_eq_append_getElem hi, List.map_append, List.set_append_right _ _ (by omega), hl, Nat.sub_self, List.drop_eq_getElem_cons hi, List.set_cons_zero, List.append_assoc]; rfl
theorem mapI_id {α : Type} {f : α → α} {l : List α} {i : Nat} {x : α} (h : l[i]? = some x) (hf : f x = x) : mapI f l (i + 1) = mapI f l i := by
 rw [mapI_succ h, hf]
 obtain ⟨h1, h2⟩ := List.getElem?_eq_some_iff.1 (mapI_get (f := f) h)
 rw [← h2, List.set_getElem_self]
theorem mapI_all {α : Type} (f : α → α) (l : List α) : mapI f l l.length = l.map f := by unfold mapI; simp
end Go.Mz


namespace Go.Mz
open Go
theorem sawE_lo {s : Sw} (h : sawE s = 0) : ∀ x ∈ s.loaves, loafE x = 0 := by
 unfold sawE at h
 split at h
 ·rename_i h1; exact absurd h h1
 ·split at h
  ·rename_i h2; exact absurd h h2
  ·rename_i h2
   simp only [ne_eq, Decidable.not_not, loavesE_0] at h2
   exact h2
theorem sawE_s4 {s : Sw} (h : sawE s = 0) : ∀ x ∈ s.stock, 0 ≤ x ∧ x ≤ 4 := by
 unfold sawE at h
 split at h
 ·rename_i h1; exact absurd h h1
 ·split at h
  ·rename_i h2; exact absurd h h2
  ·split at h
   ·cases h
   ·split at h
    ·cases h
    ·rename_i h4
     simp only [Bool.not_eq_true', Bool.not_eq_false, stockB_iff] at h4
     exact h4
theorem sawE_of {s : Sw} (h : SOk s) (hl : ∀ x ∈ s.loaves, loafE x = 0) (h4 : ∀ x ∈ s.stock, 0 ≤ x ∧ x ≤ 4) : sawE s = 0 :=
 sawE_mk h.l1 h.l3 hl h.st h4 ⟨h.k0, h.k3⟩ h.w5 fun x hx => wantE_0' (h.wt x hx)
theorem lay_saw {s : Sw} (he : sawE s = 0) {o : List Nat} (hp : Perm s.loaves.length o) : sawE (laySw s o) = 0 := by
 have h := sawE_0 he
 have hp' : Perm s.stock.length o := by rw [h.st]; exact hp
 refine sawE_of ⟨?_, ?_, fun l hl => h.lf l (layL_mem hp hl), ?_, fun n hn => h.sr n (layL_mem hp' hn), h.k0, h.k3, ?_, fun x hx => ?_⟩ (fun x hx => sawE_lo he x (layL_mem hp hx)) (fun x hx => sawE_s4 he x (layL_mem hp' hx))
 ·show 1 ≤ (layL s.loaves o s.loaves.length).length
  rw [layL_len]; exact h.l1
 ·show (layL s.loaves o s.loaves.length).length ≤ 3
  rw [layL_len]; exact h.l3
 ·show (layL s.stock o s.stock.length).length = (layL s.loaves o s.loaves.length).length
  rw [layL_len, layL_len]; exact h.st
 ·show (s.wants.map _).length ≤ 5
  rw [List.length_map]; exact h.w5
 ·obtain ⟨y, hy, rfl⟩ := List.mem_map.1 hx
  exact renW_wt hp (h.wt y hy)
end Go.Mz


set_option maxRecDepth 100000
namespace Go.Mz
open Go.Conc Go.Proofs
variable {Post : Value → World → Prop} {W0 : World}
theorem NmF_run (na : Option Addr) (nc : Nat) (nums : List Int) (L : LH) (hn : IntsAt L na nums) (hgl : GlOk L) (hl2 : nums.length ≤ 140737488355328)
  (hQ : ∀ v L' w, (v = .bool true ∧ Dim L L') → Sub L' w → Same W0 w → Post v w) :
  FGo Tryz.prog Post W0 (G (Frame.enter Tryz.prog 11 [.slice na nums.length nc].toArray .normal) []) L := by
 refine root_enter (n := 144) (s := 2) Tryz.func11 rfl rfl (by kernel_rfl) rfl rfl hQ fun C hX _ hL0 rt => ?_
 have drd : ∀ L2, GlOk L2 → Sp C.X 21 [] L2 (fun v L' => v = .bool true ∧ Dim L2 L') := fun L2 h => by rw [hX]; exact cut_sp L2 h
 refine W.go 99 rfl ?_
 refine W.eff rfl rfl rfl (Ef.call rfl (NewHat_sp na nc nums L hn)) ?_
 rintro _ _ _ ⟨_, rfl, rfl, b, rfl, hb, hle1, hh1⟩
 refine W.go 99 rfl ?_
 rename_i L1
 have hb1 := le_but hb hle1
 refine W.eff rfl rfl rfl (Ef.call rfl (SawOf_sp b na nc nums 0 3 4 L1 hh1 (by omega) hl2 (by omega) (by omega) (by omega))) ?_
 rintro _ _ _ ⟨_, rfl, rfl, s, p, m, rfl, ho, hm, hle2, hh2, hsw⟩
 refine W.go 99 rfl ?_
 rename_i L2
 have hok := sawE_0 ho.e
 have hl1 := hok.l1
 have hl3 := hok.l3
 refine W.eff rfl rfl rfl (Ef.call rfl (Shuffle_sp b na nc nums m s.loaves.length L2 hh2 (by omega) hl2 (by omega))) ?_
 rintro _ _ _ ⟨_, rfl, rfl, o, oa, oc, m', rfl, hp, hm', hle3, hh3, hoi⟩
 rename_i L3
 have hsw3 := (hsw.le ((but_but hle3).trans (but_le _ _)))
 have hoi := hoi.le (but_le _ _)
 have hL3 : Le L L3 := hb1.trans ((but_but hle2).trans hle3)
 have hpl := hp.len
 have hol : (natI o).length = s.loaves.length := by rw [natI_len, hpl]
 rw [hol]
 refine W.go 99 rfl ?_
 refine W.eff rfl rfl rfl (Ef.call rfl (DupSaw3_sp s p L3 hsw3 hok.sm)) ?_
 rintro _ _ _ ⟨v4, rfl, rfl, p4, F, rs, e4, hc⟩
 refine W.go 99 rfl ?_
 rename_i L4
 subst e4
 obtain ⟨b4, hb4⟩ := hc.lo.blk (by have := congrArg List.length hc.re; simp at this; omega)
 obtain ⟨c4, hc4⟩ := hc.st.blk (by have := hok.st; omega)
 have hlo4 := hc.lo
 have hst4 := hc.st
 have hwt4 := hc.wt
 have hwl4 := hc.wl
 have hre4 := hc.re
 have hrk4 := hc.rk
 have hF4 := hc.le
 clear hc
 obtain ⟨la, sa, wa, lc, sc, wc⟩ := p4
 dsimp only at hb4 hc4 hlo4 hst4 hwt4 hwl4 ⊢
 subst hb4 hc4
 obtain ⟨pla, psa, pwa, plc, psc, pwc⟩ := p
 have hls := hok.st
 have hlL3 : Le L3 L4 := hF4.trans hlo4.1
 refine W.loop (fun w E B L' => ∃ (i : Nat) (F : LH) (rs : List (Rw Int)), w = s.loaves.length - i ∧ i ≤ s.loaves.length ∧ Le L3 F ∧ rs.map Prod.snd = layL s.loaves o i ∧ (∀ x ∈ rs, RwOk F 1 encI x) ∧
   Grow F 1 23 encRw L' (.slice (some ⟨b4, 0, none⟩) s.loaves.length lc) rs ∧ Grow F 1 3 encI L' (.slice (some ⟨c4, 0, none⟩) s.stock.length sc) (layL s.stock o i) ∧ Grow F 4 28 encWt L' (.slice wa s.wants.length wc) s.wants ∧
   E = [(4, .p 0 0), (5, .v (.slice oa s.loaves.length oc)), (6, .p 1 0), (7, .v (.int .i64 i))] ∧ B = [some ⟨cellsS (.v (swA s ⟨pla, psa, pwa, plc, psc, pwc⟩)), 26⟩, some ⟨cellsS (.v (swA s ⟨some ⟨b4, 0, none⟩, some ⟨c4, 0, none⟩, wa, lc, sc, wc⟩)), 26⟩])
  ⟨0, F, rs, rfl, by omega, hF4, hre4, hrk4, hlo4, hst4, hwt4, rfl, rfl⟩ (by exact ⟨rfl, rfl, rfl, rfl, trivial⟩) (by exact ⟨rfl, rfl, trivial⟩) ?_
 clear hF4 hre4 hrk4 hlo4 hst4 hwt4 hlL3 rs F
 rintro _ _ _ L5 ⟨i, F, rs, rfl, hi, hF, hre, hrk, hlo, hst, hwt, rfl, rfl⟩ again
 have hlL5 : Le L3 L5 := hF.trans hlo.1
 refine W.go 99 rfl ?_
 refine W.split rfl rfl rfl (fun e1 => W.go 99 rfl ?_) (fun e1 => W.go 99 rfl ?_)
 ·have hil : i < s.loaves.length := by simpa using e1
  obtain ⟨x, hx⟩ : ∃ x, s.loaves[i]? = some x := ⟨_, List.getElem?_eq_getElem hil⟩
  obtain ⟨j, hj⟩ : ∃ j, o[i]? = some j := ⟨_, List.getElem?_eq_getElem (by rw [hpl]; exact hil)⟩
  have hjn : j < s.loaves.length := hp.lt _ (List.mem_of_getElem? hj)
  have hki : i < s.stock.length := by omega
  have hy : s.stock[i]? = some (s.stock.getD i 0) := getD_some hki
  have hrl : rs.length = s.loaves.length := by have := congrArg List.length hre; rw [List.length_map, layL_len] at this; exact this
  have hoL := hoi.le hlL5
  have hsw5 := hsw3.le hlL5
  obtain ⟨oa', rfl⟩ := hoi.addr (by rw [hol]; exact hil)
  obtain ⟨qla, e2⟩ := hsw3.lo.addr hil
  obtain ⟨qsa, e3⟩ := hsw3.st.addr hki
  dsimp only at e2 e3
  subst e2 e3
  obtain ⟨xa, xc, hxc, hxs, hcx⟩ := hsw3.lo.row hx
  have hji : (natI o)[i]? = some (j : Int) := by unfold natI; rw [List.getElem?_map, hj]; rfl
  refine W.drawn (by kernel_rfl) L3 hlL5 ?_
  refine DD.run' [0, 1, 2, 3, 6, 7, 8, 9, 12, 13, 14, 18, 19, 20] rfl ?_
  refine DD.vf 4 rfl rfl rfl rfl rfl (Vf.idx1 rfl rfl rfl rfl rfl rfl rfl (hil)) ?_
  refine DD.vf 5 rfl rfl rfl rfl rfl (Vf.load rfl rfl rfl (hoi.int hji)) ?_
  refine DD.vf 10 rfl rfl rfl rfl rfl (Vf.idx1 rfl rfl rfl rfl rfl rfl rfl (hil)) ?_
  refine DD.vf 11 rfl rfl rfl rfl rfl (Vf.load rfl rfl rfl (hoi.int hji)) ?_
  refine DD.vf 15 rfl rfl rfl rfl rfl (Vf.idx1 rfl rfl rfl rfl rfl rfl rfl (hil)) ?_
  refine DD.vf 16 rfl rfl rfl rfl rfl (Vf.load rfl rfl rfl (hxc)) ?_
  refine DD.vf 21 rfl rfl rfl rfl rfl (Vf.idx1 rfl rfl rfl rfl rfl rfl rfl (hki)) ?_
  refine DD.vf 22 rfl rfl rfl rfl rfl (Vf.load rfl rfl rfl (hsw3.st.int hy)) ?_
  refine DD.act 17 rfl rfl rfl rfl rfl (Ef.call rfl ((DupInts_sp xa xc x L5 (hxs.le hlL5) (by have := hok.sm.hr x (List.mem_of_getElem? hx); omega)))) ((by rintro _ _ _ ⟨_, rfl, rfl, hg⟩; exact ⟨hlL5.trans hg.1, rfl, .inl rfl⟩)) ?_
  rintro _ _ _ ⟨v17, rfl, rfl, hg7⟩
  rename_i L6
  obtain ⟨ra, rc, rfl, hrc⟩ := hg7.slice
  obtain ⟨F6, hF6, hF6L, hrx, hnew⟩ := hg7.foot encI_len hlo.1
  have hlo6 := hlo.up hg7.1 hF6L hnew
  have hst6 := hst.up hg7.1 hF6L hnew
  have hwt6 := hwt.up hg7.1 hF6L hnew
  obtain ⟨b5, cap5, c5, hv5, hI5, hb5, hs5, hlo7⟩ := hlo6.setN encRw_len (d := j) (by omega) ((ra, x.length, rc), x)
  obtain ⟨h5, -, -⟩ := Value.slice.inj hv5
  cases h5
  have hst7 := hst6.other hb5 (by decide) hI5 (.cells (putRow c5 (j * 1) (encRw ((ra, x.length, rc), x))) 23)
  have hwt7 := hwt6.other hb5 (by decide) hI5 (.cells (putRow c5 (j * 1) (encRw ((ra, x.length, rc), x))) 23)
  obtain ⟨b6, cap6, c6, hv6, hI6, hb6, hs6, hst8⟩ := hst7.setN encI_len (d := j) (by rw [layL_len]; omega) (s.stock.getD i 0)
  obtain ⟨h6, -, -⟩ := Value.slice.inj hv6
  cases h6
  have hlo8 := hlo7.other hb6 (by decide) hI6 (.cells (putRow c6 (j * 1) (encI (s.stock.getD i 0))) 3)
  have hwt8 := hwt7.other hb6 (by decide) hI6 (.cells (putRow c6 (j * 1) (encI (s.stock.getD i 0))) 3)
  refine DD.vf 23 rfl rfl rfl rfl rfl (Vf.idx1 rfl rfl rfl rfl rfl rfl rfl (hjn)) ?_
  refine DD.act 24 rfl rfl rfl rfl rfl (Ef.stoF (b := b4) (off := j * 1) (congrArg (fun a => some (SV.v (.pointer (some a)))) (show Addr.add ⟨b4, 0, none⟩ j = ⟨b4, j * 1, none⟩ by rw [add_of]; simp)) ⟨_, rfl, rfl⟩ rfl hb5 rfl hs5 (singles rfl)) (by rintro _ _ _ ⟨rfl, rfl, rfl⟩; exact ⟨(hF.trans hF6).trans hlo7.1, rfl, .inl rfl⟩) ?_
  rintro _ _ _ ⟨rfl, rfl, rfl⟩
  refine DD.vf 25 rfl rfl rfl rfl rfl (Vf.idx1 rfl rfl rfl rfl rfl rfl rfl ((show j < s.stock.length by omega))) ?_
  refine DD.act 26 rfl rfl rfl rfl rfl (Ef.stoF (b := c4) (off := j * 1) (congrArg (fun a => some (SV.v (.pointer (some a)))) (show Addr.add ⟨c4, 0, none⟩ j = ⟨c4, j * 1, none⟩ by rw [add_of]; simp)) ⟨_, rfl, rfl⟩ rfl hb6 rfl hs6 (singles rfl)) (by rintro _ _ _ ⟨rfl, rfl, rfl⟩; exact ⟨(hF.trans hF6).trans hlo8.1, rfl, .inl rfl⟩) ?_
  rintro _ _ _ ⟨rfl, rfl, rfl⟩
  refine .fin rfl ?_
  refine W.go 99 rfl ?_
  refine W.again (again _ _ _ _ (by omega) ⟨i + 1, F6, rs.set j ((ra, x.length, rc), x), rfl, by omega, hF.trans hF6, ?_, ?_, hlo8, ?_, hwt8, rfl, rfl⟩) (by exact ⟨rfl, rfl, rfl, congrArg some (inc64 (by omega)), trivial⟩) (by exact ⟨rfl, rfl, trivial⟩)
  ·rw [layL_succ _ _ hx hj, ← hre, List.map_set]
  ·intro z hz
   rcases List.mem_or_eq_of_mem_set hz with h | rfl
   ·exact (hrk z h).le hF6
   ·exact ⟨hrx, rfl, hrc⟩
  ·rw [layL_succ _ _ hy hj]; exact hst8
 have hie : i = s.loaves.length := by simp at e1; omega
 subst hie
 clear again
 refine W.loop (fun w E B L' => ∃ i : Nat, w = s.wants.length - i ∧ i ≤ s.wants.length ∧
   Grow F 1 23 encRw L' (.slice (some ⟨b4, 0, none⟩) s.loaves.length lc) rs ∧ Grow F 1 3 encI L' (.slice (some ⟨c4, 0, none⟩) s.stock.length sc) (layL s.stock o s.loaves.length) ∧ Grow F 4 28 encWt L' (.slice wa s.wants.length wc) (mapI (renW (numF o)) s.wants i) ∧
   E = [(4, .p 0 0), (5, .v (.slice oa s.loaves.length oc)), (6, .p 1 0), (8, .v (.int .i64 i))] ∧ B = [some ⟨cellsS (.v (swA s ⟨pla, psa, pwa, plc, psc, pwc⟩)), 26⟩, some ⟨cellsS (.v (swA s ⟨some ⟨b4, 0, none⟩, some ⟨c4, 0, none⟩, wa, lc, sc, wc⟩)), 26⟩])
  ⟨0, rfl, by omega, hlo, hst, by unfold mapI; simpa using hwt, rfl, rfl⟩ (by exact ⟨rfl, rfl, rfl, rfl, trivial⟩) (by exact ⟨rfl, rfl, trivial⟩) ?_
 clear hlo hst hwt hlL5 L5
 rintro _ _ _ L5 ⟨i, rfl, hi, hlo, hst, hwt, rfl, rfl⟩ again
 have hlL5 : Le L3 L5 := hF.trans hlo.1
 have hw5 := hok.w5
 refine W.go 99 rfl ?_
 refine W.split rfl rfl rfl (fun e1 => W.go 99 rfl ?_) (fun e1 => W.go 99 rfl ?_)
 ·have hil : i < s.wants.length := by simpa using e1
  obtain ⟨x, hx⟩ : ∃ x, s.wants[i]? = some x := ⟨_, List.getElem?_eq_getElem hil⟩
  obtain ⟨qwa, e2⟩ := hsw3.wt.addr hil
  dsimp only at e2
  subst e2
  have hsw5 := hsw3.le hlL5
  have hxo := hok.wt x (List.mem_of_getElem? hx)
  have hky : L5.cell? ((qwa.add (i * 4)).add 1) = some (.int .i64 x.kind) := by rw [add_add]; exact hsw5.wt.get hx (j := 1) rfl
  refine W.vf rfl rfl rfl rfl (Vf.idx rfl rfl rfl rfl rfl rfl (hil)) ?_
  refine W.go 99 rfl ?_
  refine W.vf rfl rfl rfl rfl (Vf.load rfl rfl rfl (hky)) ?_
  refine W.go 99 rfl ?_
  refine W.split rfl rfl rfl (fun e2 => W.go 99 rfl ?_) (fun e2 => W.go 99 rfl ?_)
  ·have hk0 : 0 ≤ x.kind := by simpa using e2
   obtain ⟨k, hk⟩ : ∃ k : Nat, x.kind = k := ⟨x.kind.toNat, by omega⟩
   have hk1 := hxo.k1
   have hkl : k < s.loaves.length := by omega
   obtain ⟨hj, hjn⟩ := numF_get hp hkl
   have hji : (natI o)[k]? = some (numF o k : Int) := by unfold natI; rw [List.getElem?_map, hj]; rfl
   obtain ⟨oa', rfl⟩ := hoi.addr (by rw [hol]; exact hkl)
   obtain ⟨rr, cap, c, hv, hI, hr, hrs, hset⟩ := hwt.setKind (mapI_get hx) (numF o k : Int)
   obtain ⟨h5, -, -⟩ := Value.slice.inj hv
   cases h5
   rw [show ({ x with kind := (numF o k : Int) } : Want) = renW (numF o) x from (renW_n hk).symm, ← mapI_succ hx] at hset
   have hlo' := hlo.other hr (by decide) hI (.cells (putRow c (i * 4 + 1) [.int .i64 (numF o k : Int)]) 28)
   have hst' := hst.other hr (by decide) hI (.cells (putRow c (i * 4 + 1) [.int .i64 (numF o k : Int)]) 28)
   have ha4 : (Addr.add ⟨rr, 0, none⟩ (i * 4)).add 1 = ⟨rr, i * 4 + 1, none⟩ := by rw [add_of, add_of, Nat.zero_add]
   rw [hk]
   refine W.drawn (by kernel_rfl) L3 hlL5 ?_
   refine DD.run' [0, 1, 2, 3, 4] rfl ?_
   refine DD.vf 5 rfl rfl rfl rfl rfl (Vf.idx1 rfl rfl rfl rfl rfl rfl rfl (hkl)) ?_
   refine DD.vf 6 rfl rfl rfl rfl rfl (Vf.load rfl rfl rfl (hoi.int hji)) ?_
   refine DD.vf 7 rfl rfl rfl rfl rfl (Vf.idx rfl rfl rfl rfl rfl rfl (hil)) ?_
   refine DD.run' [8] rfl ?_
   refine DD.act 9 rfl rfl rfl rfl rfl (Ef.stoF (b := rr) (off := i * 4 + 1) (congrArg (fun a => some (SV.v (.pointer (some a)))) ha4) ⟨_, rfl, rfl⟩ rfl hr rfl hrs (singles rfl)) (by rintro _ _ _ ⟨rfl, rfl, rfl⟩; exact ⟨hF.trans hlo'.1, rfl, .inl rfl⟩) ?_
   rintro _ _ _ ⟨rfl, rfl, rfl⟩
   refine .fin rfl ?_
   refine W.go 99 rfl ?_
   exact W.again (again _ _ _ _ (by omega) ⟨i + 1, rfl, by omega, hlo', hst', hset, rfl, rfl⟩) (by exact ⟨rfl, rfl, rfl, congrArg some (inc64 (by omega)), trivial⟩) (by exact ⟨rfl, rfl, trivial⟩)
  ·have hk0 : x.kind < 0 := by simp at e2; omega
   rw [← mapI_id hx (renW_0 hk0)] at hwt
   exact W.again (again _ _ _ _ (by omega) ⟨i + 1, rfl, by omega, hlo, hst, hwt, rfl, rfl⟩) (by exact ⟨rfl, rfl, rfl, congrArg some (inc64 (by omega)), trivial⟩) (by exact ⟨rfl, rfl, trivial⟩)
 have hie : i = s.wants.length := by simp at e1; omega
 subst hie
 clear again
 rw [mapI_all] at hwt
 have hswx : SwAt L5 (laySw s o) ⟨some ⟨b4, 0, none⟩, some ⟨c4, 0, none⟩, wa, lc, sc, wc⟩ := by
  refine ⟨⟨rs, hre, (hlo.at encRw_len).2, fun x hx => (hrk x hx).le hlo.1⟩, ?_, (hwt.at encWt_len).2, by show (s.wants.map _).length ≤ _; rw [List.length_map]; exact hwl4⟩
  show SlAt L5 _ 1 encI (layL s.stock o s.stock.length)
  rw [hls]
  exact (hst.at encI_len).2
 have hswA : swA s ⟨some ⟨b4, 0, none⟩, some ⟨c4, 0, none⟩, wa, lc, sc, wc⟩ = swA (laySw s o) ⟨some ⟨b4, 0, none⟩, some ⟨c4, 0, none⟩, wa, lc, sc, wc⟩ := by
  unfold swA encSw laySw; simp only [layL_len, List.length_map]
 have hxe := lay_saw ho.e hp
 have hokx := sawE_0 hxe
 obtain ⟨g, hren⟩ := lay_ren hok hp
 have hbp := hren.best hok hokx
 have hfp := hren.fewest hok hokx
 have hsw5 := hsw3.le hlL5
 rw [hswA]
 generalize laySw s o = sx at *
 have hbs := Best_sp (Post := Post) (W0 := W0) s ⟨pla, psa, pwa, plc, psc, pwc⟩ L5 hsw5 hok.sm
 have hBE : BestE s = (crWants (bestW s fun _ => true), payW s (crWants (bestW s fun _ => true)), 0) := by unfold BestE; rw [if_neg (by simp [ho.e])]
 rw [← hX, hBE] at hbs
 refine W.eff rfl rfl rfl (Ef.call rfl (hbs)) ?_
 rintro _ _ _ ⟨v12, rfl, rfl, ga, gc, rfl, hgi, hd6⟩
 dsimp only
 rename_i L6
 refine W.go 99 rfl ?_
 have hbs2 := Best_sp (Post := Post) (W0 := W0) sx ⟨some ⟨b4, 0, none⟩, some ⟨c4, 0, none⟩, wa, lc, sc, wc⟩ L6 (hd6.sw hswx) hokx.sm
 have hBE2 : BestE sx = (crWants (bestW sx fun _ => true), payW sx (crWants (bestW sx fun _ => true)), 0) := by unfold BestE; rw [if_neg (by simp [hxe])]
 rw [← hX, hBE2, ← hbp] at hbs2
 refine W.eff rfl rfl rfl (Ef.call rfl (hbs2)) ?_
 rintro _ _ _ ⟨v13, rfl, rfl, ga2, gc2, rfl, hgi2, hd7⟩
 dsimp only
 rename_i L7
 refine W.go 99 rfl ?_
 have hfe : FewestE s = crushE s (fullW s) := by unfold FewestE; rw [if_neg (by simp [ho.e])]
 have hfe2 : FewestE sx = crushE sx (fullW sx) := by unfold FewestE; rw [if_neg (by simp [hxe])]
 have he : (FewestE s).2.2 = 0 ∨ (FewestE s).2.2 = 11 := by
  rw [hfe]
  unfold crushE
  cases crushW s (fullW s) with
  | none => exact .inr rfl
  | some c => exact .inl rfl
 have hf2 : (FewestE sx).2 = (FewestE s).2 := by rw [hfe, hfe2]; exact hfp.symm
 clear hfe hfe2 hfp
 have hd57 := hd6.trans hd7
 refine W.eff rfl rfl rfl (Ef.call rfl (Fewest_sp s ⟨pla, psa, pwa, plc, psc, pwc⟩ L7 (hd57.sw hsw5) hok.sm)) ?_
 rintro _ _ _ ⟨v14, rfl, rfl, fa, fc, rfl, hfi, hl78⟩
 rename_i L8
 refine W.go 99 rfl ?_
 have hd58 := hd57.trans (Dim.of_le hl78)
 refine W.eff rfl rfl rfl (Ef.call rfl (Fewest_sp sx ⟨some ⟨b4, 0, none⟩, some ⟨c4, 0, none⟩, wa, lc, sc, wc⟩ L8 (hd58.sw hswx) hokx.sm)) ?_
 rintro _ _ _ ⟨v15, rfl, rfl, fa2, fc2, rfl, hfi2, hl89⟩
 rename_i L9
 rw [hf2]
 clear hfi hfi2 hf2
 generalize FewestE s = x1 at *
 generalize FewestE sx = x2 at *
 obtain ⟨x11, x12, x13⟩ := x1
 obtain ⟨x21, x22, x23⟩ := x2
 dsimp only at he ⊢
 have hd9 : Dim L L9 := (Dim.of_le (hL3.trans hlL5)).trans (hd58.trans (Dim.of_le hl89))
 rcases he with rfl | rfl
 ·refine W.go 99 rfl ?_
  refine W.asLit 114 (p := true) rfl rfl ?_
  refine W.go 99 rfl ?_
  refine W.asLit 118 (p := true) rfl rfl ?_
  refine W.go 99 rfl ?_
  refine W.asLit 123 (p := true) rfl (congrArg some (beq_self_eq_true _)) ?_
  refine W.go 99 rfl ?_
  refine W.asLit 128 (p := true) rfl (congrArg some (beq_self_eq_true _)) ?_
  refine W.go 99 rfl ?_
  refine W.asLit 133 (p := true) rfl rfl ?_
  refine W.go 99 rfl ?_
  refine W.asLit 136 (p := true) rfl rfl ?_
  refine W.go 99 rfl ?_
  refine W.asLit 141 (p := true) rfl rfl ?_
  refine W.go 99 rfl ?_
  refine W.eff rfl rfl rfl (Ef.call rfl (drd L9 (hd9.cell hgl))) ?_
  rintro _ _ _ ⟨_, rfl, rfl, rfl, hdm⟩
  refine W.go 99 rfl ?_
  exact W.retO rt rfl ⟨rfl, hd9.trans hdm⟩
 ·refine W.go 99 rfl ?_
  refine W.asLit 114 (p := true) rfl rfl ?_
  refine W.go 99 rfl ?_
  refine W.asLit 118 (p := true) rfl rfl ?_
  refine W.go 99 rfl ?_
  refine W.asLit 123 (p := true) rfl (congrArg some (beq_self_eq_true _)) ?_
  refine W.go 99 rfl ?_
  refine W.asLit 128 (p := true) rfl (congrArg some (beq_self_eq_true _)) ?_
  refine W.go 99 rfl ?_
  refine W.asLit 133 (p := true) rfl rfl ?_
  refine W.go 99 rfl ?_
  refine W.asLit 136 (p := false) rfl rfl ?_
  refine W.go 99 rfl ?_
  refine W.asLit 141 (p := true) rfl rfl ?_
  refine W.go 99 rfl ?_
  refine W.eff rfl rfl rfl (Ef.call rfl (drd L9 (hd9.cell hgl))) ?_
  rintro _ _ _ ⟨_, rfl, rfl, rfl, hdm⟩
  refine W.go 99 rfl ?_
  exact W.retO rt rfl ⟨rfl, hd9.trans hdm⟩
end Go.Mz

