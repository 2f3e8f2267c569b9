/- Lemmas on which the claim leans. -/
import Derived.Test.YtfnjganjlkoehaaGreatDoorMzLa
namespace Go.Mz
open Go
structure OkX (s : Sw) (xs : List Want) (l : List Int) : Prop where
 a : ∀ k, k < s.loaves.length → tkN xs k + l.getD k 0 ≤ s.stock.getD k 0
 b : ∀ k, k < s.loaves.length → tksN k xs ≤ l.getD k 0 * sumL (s.loaves.getD k []) + suN s xs k
 c : tksN (-1) xs ≤ sumL (sugarD s xs l)
theorem okX_iff {s : Sw} (hok : SOk s) {w : List Nat} {l : List Int} : okW s w l = true ↔ OkX s (wantsOf s w) l := by
 rw [okW_iff hok]
 exact ⟨fun ⟨h1, h2, h3⟩ => ⟨h1, h2, h3⟩, fun h => ⟨h.a, h.b, h.c⟩⟩
theorem cones_eq {s : Sw} (hok : SOk s) (w : List Nat) (l : List Int) : sumL (planW s w l).t = sumL ((List.range s.loaves.length).map fun k => tkN (wantsOf s w) k + l.getD k 0) := by
 rw [planW_eq hok, sum3]
 have h1 := hok.l1
 have h3 := hok.l3
 have far : ∀ k, s.loaves.length ≤ k → tkN (wantsOf s w) k = 0 := fun k hk => by
  unfold tkN
  rw [show List.countP (isTk k) (wantsOf s w) = 0 from List.countP_eq_zero.2 fun x hx => by
   have := (wants_mem hok hx).k1
   unfold isTk
   simp
   omega]
  rfl
 have : s.loaves.length = 1 ∨ s.loaves.length = 2 ∨ s.loaves.length = 3 := by omega
 rcases this with e | e | e
 ·rw [e]
  simp [List.range_succ, lfN, e, far 1 (by omega), far 2 (by omega), sumL]
 ·rw [e]
  simp [List.range_succ, lfN, e, far 2 (by omega), sumL]
 ·rw [e]
  simp [List.range_succ, lfN, e, sumL]
theorem plan_in {s : Sw} (hok : SOk s) {w : List Nat} {l : List Int} (hl : l.length = s.stock.length) (h0 : ∀ k, k < s.stock.length → 0 ≤ l.getD k 0) (h : OkX s (wantsOf s w) l) : l ∈ plansW s w := by
 refine (plans_iff hok).2 ⟨mem_lists hl fun k hk => ⟨h0 k hk, ?_⟩, (okX_iff hok).2 h⟩
 have := h.a k (by have := hok.st; omega)
 have := (tkN_bd (wantsOf s w) k).1
 omega
theorem plan_out {s : Sw} (hok : SOk s) {w : List Nat} {l : List Int} (h : l ∈ plansW s w) : l.length = s.stock.length ∧ (∀ k, 0 ≤ l.getD k 0) ∧ OkX s (wantsOf s w) l := by
 obtain ⟨h1, h2⟩ := (plans_iff hok).1 h
 obtain ⟨h3, h4⟩ := listsW_mem h1
 exact ⟨h3, fun k => (h4 k).1, (okX_iff hok).1 h2⟩
theorem served_by {s s' : Sw} (hok : SOk s) (hok' : SOk s') {w w' : List Nat} {c : Cr} (hc : crushW s w = some c)
  (H : ∀ l : List Int, l.length = s.stock.length → (∀ k, 0 ≤ l.getD k 0) → OkX s (wantsOf s w) l → ∃ l' : List Int, l'.length = s'.stock.length ∧ (∀ k, k < s'.stock.length → 0 ≤ l'.getD k 0) ∧ OkX s' (wantsOf s' w') l' ∧ sumL ((List.range s'.loaves.length).map fun k => tkN (wantsOf s' w') k + l'.getD k 0) ≤ sumL ((List.range s.loaves.length).map fun k => tkN (wantsOf s w) k + l.getD k 0)) :
  ∃ c', crushW s' w' = some c' ∧ c'.c ≤ c.c := by
 obtain ⟨⟨l, hl, rfl⟩, _⟩ := crush_min hc
 obtain ⟨h1, h2, h3⟩ := plan_out hok hl
 obtain ⟨l', g1, g2, g3, g4⟩ := H l h1 h2 h3
 obtain ⟨c', hc', hle⟩ := crush_le (plan_in hok' g1 g2 g3)
 refine ⟨c', hc', ?_⟩
 rw [cones_eq hok'] at hle
 show c'.c ≤ sumL (planW s w l).t
 rw [cones_eq hok]
 omega
theorem wantsOf_app (s : Sw) (a b : List Nat) : wantsOf s (a ++ b) = wantsOf s a ++ wantsOf s b := by unfold wantsOf; rw [List.filterMap_append]
end Go.Mz


namespace Go.Mz
open Go
def strip (x : Want) : Want := { x with pay := 0 }
structure Better (s s' : Sw) : Prop where
 lo : s'.loaves = s.loaves
 sl : s'.stock.length = s.stock.length
 st : ∀ k, s.stock.getD k 0 ≤ s'.stock.getD k 0
 ke : s'.kerf ≤ s.kerf
 wt : s'.wants.map strip = s.wants.map strip
 py : ∀ (i : Nat) (x y : Want), s.wants[i]? = some x → s'.wants[i]? = some y → x.pay ≤ y.pay
theorem Better.wl {s s' : Sw} (h : Better s s') : s'.wants.length = s.wants.length := by
 have := congrArg List.length h.wt
 simpa using this
theorem wants_strip (s : Sw) (w : List Nat) : (wantsOf s w).map strip = w.filterMap ((s.wants.map strip)[·]?) := by
 unfold wantsOf
 rw [List.map_filterMap]
 congr 1
 funext i
 rw [List.getElem?_map]
theorem tkN_strip (xs : List Want) (k : Nat) : tkN (xs.map strip) k = tkN xs k := by
 unfold tkN
 rw [List.countP_map]
 rfl
theorem tksN_strip (k : Int) (xs : List Want) : tksN k (xs.map strip) = tksN k xs := by
 unfold tksN
 rw [List.filter_map, List.map_map]
 rfl
theorem suN_strip (s : Sw) (xs : List Want) (k : Nat) : suN s (xs.map strip) k = suN s xs k := by
 unfold suN
 rw [List.filter_map, List.map_map]
 rfl
theorem suN_le {s s' : Sw} (h : ∀ x, restW s x ≤ restW s' x) (xs : List Want) (k : Nat) : suN s xs k ≤ suN s' xs k := by
 induction xs with
 | nil => exact Int.le_refl _
 | cons x xs ih => rw [suN_cons, suN_cons]; have := h x; split <;> omega
theorem Better.rest {s s' : Sw} (h : Better s s') (x : Want) : restW s x ≤ restW s' x := by
 unfold restW loafAt
 rw [h.lo]
 have := h.ke
 omega
theorem Better.ok {s s' : Sw} (h : Better s s') {w : List Nat} {l : List Int} (ho : OkX s (wantsOf s w) l) : OkX s' (wantsOf s' w) l := by
 have e : (wantsOf s' w).map strip = (wantsOf s w).map strip := by rw [wants_strip, wants_strip, h.wt]
 have e1 : ∀ k, tkN (wantsOf s' w) k = tkN (wantsOf s w) k := fun k => by rw [← tkN_strip, e, tkN_strip]
 have e2 : ∀ k, tksN k (wantsOf s' w) = tksN k (wantsOf s w) := fun k => by rw [← tksN_strip, e, tksN_strip]
 have e3 : ∀ k, suN s (wantsOf s w) k ≤ suN s' (wantsOf s' w) k := fun k => by
  rw [← suN_strip s' (wantsOf s' w), e, suN_strip]
  exact suN_le h.rest _ k
 refine ⟨fun k hk => ?_, fun k hk => ?_, ?_⟩
 ·rw [e1]; have := ho.a k (by rw [← h.lo]; exact hk); have := h.st k; omega
 ·rw [e2, h.lo]; have := ho.b k (by rw [← h.lo]; exact hk); have := e3 k; omega
 ·rw [e2]
  have h1 := ho.c
  have : sumL (sugarD s (wantsOf s w) l) ≤ sumL (sugarD s' (wantsOf s' w) l) := by
   unfold sugarD
   rw [h.lo]
   exact sum_map_le fun k _ => by have := e3 k; omega
  omega
theorem Better.tk {s s' : Sw} (h : Better s s') (w : List Nat) (k : Nat) : tkN (wantsOf s' w) k = tkN (wantsOf s w) k := by
 rw [← tkN_strip, wants_strip, h.wt, ← wants_strip, tkN_strip]
theorem Better.crush {s s' : Sw} (hok : SOk s) (hok' : SOk s') (h : Better s s') {w : List Nat} {c : Cr} (hc : crushW s w = some c) : ∃ c', crushW s' w = some c' ∧ c'.c ≤ c.c :=
 served_by hok hok' hc fun l hl h0 ho => ⟨l, by rw [hl, h.sl], fun k _ => h0 k, h.ok ho, by rw [h.lo]; exact sum_map_le fun k _ => by rw [h.tk]; exact Int.le_refl _⟩
theorem Better.pay {s s' : Sw} (h : Better s s') : ∀ w : List Nat, payW s w ≤ payW s' w
 | [] => Int.le_refl _
 | i :: w => by
  have ih := Better.pay h w
  have e : ∀ s : Sw, payW s (i :: w) = payW s [i] + payW s w := fun s => by
   unfold payW
   rw [show i :: w = [i] ++ w from rfl, wantsOf_app, List.map_append, sumL_append]
  rw [e s, e s']
  have h1 : payW s [i] ≤ payW s' [i] := by
   have hl := h.wl
   have p1 : ∀ s : Sw, payW s [i] = match s.wants[i]? with | some x => x.pay | none => 0 := fun s => by
    unfold payW wantsOf
    rw [List.filterMap_cons]
    cases s.wants[i]? <;> simp [sumL]
   rw [p1, p1]
   cases e1 : s.wants[i]? with
   | none =>
    rw [List.getElem?_eq_none_iff] at e1
    rw [List.getElem?_eq_none (by omega)]
    exact Int.le_refl _
   | some x =>
    have hi := (List.getElem?_eq_some_iff.1 e1).1
    rw [List.getElem?_eq_getElem (show i < s'.wants.length by omega)]
    exact h.py i x _ e1 (List.getElem?_eq_getElem _)
  omega
theorem Better.most {s s' : Sw} (hok : SOk s) (hok' : SOk s') (h : Better s s') : mostW s (servedL s) ≤ mostW s' (servedL s') := by
 obtain ⟨w, hw, hp⟩ := mostW_mem hok (servedL s) (served_ne hok)
 obtain ⟨h1, c, hc⟩ := served_iff.1 hw
 obtain ⟨c', hc', _⟩ := h.crush hok hok' hc
 have hw' : w ∈ servedL s' := served_iff.2 ⟨by rw [h.wl]; exact h1, c', hc'⟩
 have := mostW_le s' (servedL s') w hw'
 have := h.pay w
 omega
theorem servedW_iff {s : Sw} : servedW s = true ↔ ∃ c, crushW s (fullW s) = some c := by
 unfold servedW
 cases e : crushW s (fullW s) with
 | none => rw [crush_no.1 e]; simp
 | some c =>
  refine ⟨fun _ => ⟨c, rfl⟩, fun _ => ?_⟩
  cases h : plansW s (fullW s) with
  | nil => rw [crush_no.2 h] at e; cases e
  | cons => rfl
theorem Better.served {s s' : Sw} (hok : SOk s) (hok' : SOk s') (h : Better s s') (hs : servedW s = true) : servedW s' = true := by
 obtain ⟨c, hc⟩ := servedW_iff.1 hs
 obtain ⟨c', hc', _⟩ := h.crush hok hok' hc
 refine servedW_iff.2 ⟨c', ?_⟩
 rw [show fullW s' = fullW s by unfold fullW; rw [h.wl]]
 exact hc'
theorem moreK_get (s : Sw) (k n j : Nat) : (moreK s k n).stock.getD j 0 = s.stock.getD j 0 + if j = k ∧ k < s.stock.length then (n : Int) else 0 := by
 show (s.stock.modify k (· + (n : Int))).getD j 0 = _
 rw [List.getD_eq_getElem?_getD, List.getElem?_modify, List.getD_eq_getElem?_getD]
 by_cases e : k = j
 ·subst e
  by_cases hb : k < s.stock.length
  ·rw [List.getElem?_eq_getElem hb]; simp [hb]
  ·rw [List.getElem?_eq_none (by omega)]; simp [hb]
 ·rw [if_neg (fun h => e h.1.symm)]; simp [e]
theorem SOk.more {s : Sw} (h : SOk s) (h4 : ∀ x ∈ s.stock, 0 ≤ x ∧ x ≤ 4) (k : Nat) {n : Nat} (hn : n ≤ 4) : SOk (moreK s k n) :=
 ⟨h.l1, h.l3, h.lf, (by show (s.stock.modify k _).length = _; rw [List.length_modify]; exact h.st), fun x hx => by
  obtain ⟨j, hj, rfl⟩ := List.getElem_of_mem hx
  have e := moreK_get s k n j
  rw [List.getD_eq_getElem?_getD, List.getElem?_eq_getElem hj, Option.getD_some] at e
  have hj' : j < s.stock.length := by have : j < (s.stock.modify k (· + (n : Int))).length := hj; rwa [List.length_modify] at this
  rw [e, List.getD_eq_getElem?_getD, List.getElem?_eq_getElem hj', Option.getD_some]
  have := h4 _ (List.getElem_mem hj')
  split <;> omega, h.k0, h.k3, h.w5, h.wt⟩
end Go.Mz


namespace Go.Mz
open Go
def renW (f : Nat → Nat) (x : Want) : Want := if x.kind < 0 then x else { x with kind := (f x.kind.toNat : Nat) }
structure Ren (s s' : Sw) (f g : Nat → Nat) : Prop where
 ll : s'.loaves.length = s.loaves.length
 sl : s'.stock.length = s.stock.length
 f1 : ∀ k, k < s.loaves.length → f k < s.loaves.length ∧ g (f k) = k
 g1 : ∀ k, k < s.loaves.length → g k < s.loaves.length ∧ f (g k) = k
 lo : ∀ k, k < s.loaves.length → s'.loaves.getD (f k) [] = s.loaves.getD k []
 st : ∀ k, k < s.loaves.length → s'.stock.getD (f k) 0 = s.stock.getD k 0
 ke : s'.kerf = s.kerf
 wt : s'.wants = s.wants.map (renW f)
theorem renW_0 {f : Nat → Nat} {x : Want} (h : x.kind < 0) : renW f x = x := if_pos h
theorem renW_n {f : Nat → Nat} {x : Want} {n : Nat} (h : x.kind = (n : Int)) : renW f x = { x with kind := (f n : Nat) } := by
 unfold renW
 rw [if_neg (by omega), h]
 rfl
theorem renW_sort (f : Nat → Nat) (x : Want) : (renW f x).sort = x.sort := by unfold renW; split <;> rfl
theorem renW_amount (f : Nat → Nat) (x : Want) : (renW f x).amount = x.amount := by unfold renW; split <;> rfl
theorem renW_pay (f : Nat → Nat) (x : Want) : (renW f x).pay = x.pay := by unfold renW; split <;> rfl
theorem Ren.symm {s s' : Sw} {f g : Nat → Nat} (hok : SOk s) (h : Ren s s' f g) : Ren s' s g f where
 ll := h.ll.symm
 sl := h.sl.symm
 f1 := fun k hk => by rw [h.ll] at hk ⊢; exact h.g1 k hk
 g1 := fun k hk => by rw [h.ll] at hk ⊢; exact h.f1 k hk
 lo := fun k hk => by
  rw [h.ll] at hk
  have e := h.g1 k hk
  rw [← h.lo _ e.1, e.2]
 st := fun k hk => by
  rw [h.ll] at hk
  have e := h.g1 k hk
  rw [← h.st _ e.1, e.2]
 ke := h.ke.symm
 wt := by
  rw [h.wt, List.map_map]
  refine (List.map_congr_left (f := id) fun x hx => ?_).symm.trans ?_ |>.symm
  ·have hw := hok.wt x hx
   by_cases e : x.kind < 0
   ·show x = renW g (renW f x)
    rw [renW_0 e, renW_0 e]
   ·obtain ⟨n, hn⟩ : ∃ n : Nat, x.kind = (n : Int) := ⟨x.kind.toNat, by omega⟩
    have := hw.k1
    have hg := (h.f1 n (by omega)).2
    show x = renW g (renW f x)
    rw [renW_n hn, renW_n (n := f n) rfl, hg]
    cases x
    simp only at hn
    subst hn
    rfl
  ·exact List.map_id _
theorem wants_ren {s s' : Sw} {f g : Nat → Nat} (h : Ren s s' f g) (w : List Nat) : wantsOf s' w = (wantsOf s w).map (renW f) := by
 unfold wantsOf
 rw [List.map_filterMap, h.wt]
 congr 1
 funext i
 rw [List.getElem?_map]
theorem pay_ren {s s' : Sw} {f g : Nat → Nat} (h : Ren s s' f g) (w : List Nat) : payW s' w = payW s w := by
 unfold payW
 rw [wants_ren h, List.map_map]
 congr 1
 exact List.map_congr_left fun x _ => renW_pay f x
theorem map_on {n : Nat} {f g : Nat → Int} (h : ∀ k, k < n → f k = g k) : (List.range n).map f = (List.range n).map g := List.map_congr_left fun k hk => h k (List.mem_range.1 hk)
theorem sum_ren {n : Nat} (hn : n ≤ 3) {f g : Nat → Nat} (hf : ∀ k, k < n → f k < n ∧ g (f k) = k) (F : Nat → Int) : sumL ((List.range n).map F) = sumL ((List.range n).map fun k => F (f k)) := by
 have c : n = 0 ∨ n = 1 ∨ n = 2 ∨ n = 3 := by omega
 rcases c with rfl | rfl | rfl | rfl
 ·rfl
 ·have := (hf 0 (by omega)).1
  rw [show List.range 1 = [0] from rfl]
  simp only [List.map_cons, List.map_nil, sumL_cons, sumL_nil]
  rw [show f 0 = 0 by omega]
 ·obtain ⟨a1, a2⟩ := hf 0 (by omega)
  obtain ⟨b1, b2⟩ := hf 1 (by omega)
  rw [show List.range 2 = [0, 1] from rfl]
  simp only [List.map_cons, List.map_nil, sumL_cons, sumL_nil]
  generalize f 0 = x at *
  generalize f 1 = y at *
  have hne : x ≠ y := fun e => by subst e; omega
  have c : (x = 0 ∧ y = 1) ∨ (x = 1 ∧ y = 0) := by omega
  rcases c with ⟨rfl, rfl⟩ | ⟨rfl, rfl⟩ <;> omega
 ·obtain ⟨a1, a2⟩ := hf 0 (by omega)
  obtain ⟨b1, b2⟩ := hf 1 (by omega)
  obtain ⟨c1, c2⟩ := hf 2 (by omega)
  rw [show List.range 3 = [0, 1, 2] from rfl]
  simp only [List.map_cons, List.map_nil, sumL_cons, sumL_nil]
  generalize f 0 = x at *
  generalize f 1 = y at *
  generalize f 2 = z at *
  have h1 : x ≠ y := fun e => by subst e; omega
  have h2 : x ≠ z := fun e => by subst e; omega
  have h3 : y ≠ z := fun e => by subst e; omega
  have c : (x = 0 ∧ y = 1 ∧ z = 2) ∨ (x = 0 ∧ y = 2 ∧ z = 1) ∨ (x = 1 ∧ y = 0 ∧ z = 2) ∨ (x = 1 ∧ y = 2 ∧ z = 0) ∨ (x = 2 ∧ y = 0 ∧ z = 1) ∨ (x = 2 ∧ y = 1 ∧ z = 0) := by omega
  rcases c with ⟨rfl, rfl, rfl⟩ | ⟨rfl, rfl, rfl⟩ | ⟨rfl, rfl, rfl⟩ | ⟨rfl, rfl, rfl⟩ | ⟨rfl, rfl, rfl⟩ | ⟨rfl, rfl, rfl⟩ <;> omega
section
variable {s s' : Sw} {f g : Nat → Nat}
theorem Ren.kind (h : Ren s s' f g) {x : Want} (hx : WtOk s.loaves x) {k : Nat} (hk : k < s.loaves.length) : ((renW f x).kind == ((f k : Nat) : Int)) = (x.kind == (k : Int)) := by
 by_cases e : x.kind < 0
 ·rw [renW_0 e, Bool.eq_iff_iff, beq_iff_eq, beq_iff_eq]; omega
 ·obtain ⟨n, hn⟩ : ∃ n : Nat, x.kind = (n : Int) := ⟨x.kind.toNat, by omega⟩
  have := hx.k1
  have g1 := (h.f1 n (by omega)).2
  have g2 := (h.f1 k hk).2
  rw [renW_n hn, hn, Bool.eq_iff_iff, beq_iff_eq, beq_iff_eq]
  show ((f n : Nat) : Int) = _ ↔ _
  constructor
  ·intro e
   have e : f n = f k := by omega
   rw [e] at g1
   omega
  ·intro e
   rw [show n = k by omega]
theorem Ren.neg (h : Ren s s' f g) (x : Want) : (renW f x).kind < 0 ↔ x.kind < 0 := by
 by_cases e : x.kind < 0
 ·rw [renW_0 e]
 ·obtain ⟨n, hn⟩ : ∃ n : Nat, x.kind = (n : Int) := ⟨x.kind.toNat, by omega⟩
  rw [renW_n hn]
  show ((f n : Nat) : Int) < 0 ↔ _
  omega
theorem Ren.rest (h : Ren s s' f g) {x : Want} (hx : WtOk s.loaves x) (h0 : 0 ≤ x.kind) : restW s' (renW f x) = restW s x := by
 obtain ⟨n, hn⟩ : ∃ n : Nat, x.kind = (n : Int) := ⟨x.kind.toNat, by omega⟩
 have := hx.k1
 have hl := h.lo n (by omega)
 unfold restW
 rw [renW_amount, h.ke, show loafAt s' (renW f x).kind = loafAt s x.kind by
  unfold loafAt
  rw [renW_n hn, hn]
  exact hl]
variable {xs : List Want} (hxs : ∀ x ∈ xs, WtOk s.loaves x)
include hxs
theorem Ren.tk (h : Ren s s' f g) {k : Nat} (hk : k < s.loaves.length) : tkN (xs.map (renW f)) (f k) = tkN xs k := by
 unfold tkN
 rw [List.countP_map]
 congr 1
 refine List.countP_congr fun x hx => ?_
 show isTk (f k) (renW f x) = true ↔ _
 unfold isTk
 rw [renW_sort, h.kind (hxs x hx) hk]
theorem Ren.su (h : Ren s s' f g) {k : Nat} (hk : k < s.loaves.length) : suN s' (xs.map (renW f)) (f k) = suN s xs k := by
 induction xs with
 | nil => rfl
 | cons x xs ih =>
  have hx := hxs x List.mem_cons_self
  rw [List.map_cons, suN_cons, suN_cons, ih fun y hy => hxs y (List.mem_cons_of_mem _ hy)]
  have e : isTp (f k) (renW f x) = isTp k x := by unfold isTp; rw [renW_sort, h.kind hx hk]
  rw [e]
  by_cases ht : isTp k x = true
  ·rw [if_pos ht, if_pos ht]
   have : 0 ≤ x.kind := by unfold isTp at ht; simp at ht; omega
   rw [h.rest hx this]
  ·rw [if_neg ht, if_neg ht]
theorem Ren.tks (h : Ren s s' f g) {k : Nat} (hk : k < s.loaves.length) : tksN ((f k : Nat) : Int) (xs.map (renW f)) = tksN (k : Int) xs := by
 induction xs with
 | nil => rfl
 | cons x xs ih =>
  have hx := hxs x List.mem_cons_self
  rw [List.map_cons, tksN_cons, tksN_cons, ih fun y hy => hxs y (List.mem_cons_of_mem _ hy), renW_amount]
  have e : isTks ((f k : Nat) : Int) (renW f x) = isTks (k : Int) x := by
   unfold isTks
   rw [renW_sort, h.kind hx hk, show decide (((f k : Nat) : Int) < 0) = false by simp, show decide ((k : Int) < 0) = false by simp]
  rw [e]
theorem Ren.tks0 (h : Ren s s' f g) : tksN (-1) (xs.map (renW f)) = tksN (-1) xs := by
 induction xs with
 | nil => rfl
 | cons x xs ih =>
  rw [List.map_cons, tksN_cons, tksN_cons, ih fun y hy => hxs y (List.mem_cons_of_mem _ hy), renW_amount]
  have e : isTks (-1) (renW f x) = isTks (-1) x := by unfold isTks; rw [renW_sort]; simp
  rw [e]
end
theorem Ren.ok {s s' : Sw} {f g : Nat → Nat} (hok : SOk s) (h : Ren s s' f g) {w : List Nat} {c : Cr} (hok' : SOk s') (hc : crushW s w = some c) : ∃ c', crushW s' w = some c' ∧ c'.c ≤ c.c := by
 have hw : ∀ x ∈ wantsOf s w, WtOk s.loaves x := fun x hx => wants_mem hok hx
 have hst := hok.st
 have h3 := hok.l3
 refine served_by hok hok' hc fun l hl h0 ho => ⟨(List.range s.loaves.length).map fun k => l.getD (g k) 0, by rw [List.length_map, List.length_range, h.sl, hst], fun k hk => ?_, ?_⟩
 ·rw [List.getD_eq_getElem?_getD, List.getElem?_map, List.getElem?_range (by rw [h.sl] at hk; omega)]
  exact h0 _
 have hg : ∀ k, k < s.loaves.length → ((List.range s.loaves.length).map fun k => l.getD (g k) 0).getD k 0 = l.getD (g k) 0 := fun k hk => by
  rw [List.getD_eq_getElem?_getD, List.getElem?_map, List.getElem?_range hk]; rfl
 have hgf : ∀ k, k < s.loaves.length → ((List.range s.loaves.length).map fun k => l.getD (g k) 0).getD (f k) 0 = l.getD k 0 := fun k hk => by
  rw [hg _ (h.f1 k hk).1, (h.f1 k hk).2]
 generalize ((List.range s.loaves.length).map fun k => l.getD (g k) 0) = l' at *
 rw [wants_ren h]
 have back : ∀ k, k < s'.loaves.length → ∃ j, j < s.loaves.length ∧ f j = k := fun k hk => by rw [h.ll] at hk; exact ⟨g k, h.g1 k hk⟩
 refine ⟨⟨fun k hk => ?_, fun k hk => ?_, ?_⟩, ?_⟩
 ·obtain ⟨j, hj, rfl⟩ := back k hk
  rw [h.tk hw hj, hgf j hj, h.st j hj]
  exact ho.a j hj
 ·obtain ⟨j, hj, rfl⟩ := back k hk
  rw [h.tks hw hj, hgf j hj, h.lo j hj, h.su hw hj]
  exact ho.b j hj
 ·rw [h.tks0 hw]
  have e : sumL (sugarD s' ((wantsOf s w).map (renW f)) l') = sumL (sugarD s (wantsOf s w) l) := by
   unfold sugarD
   rw [h.ll, sum_ren h3 h.f1]
   congr 1
   refine map_on fun k hk => ?_
   rw [hgf k hk, h.lo k hk, h.su hw hk]
  rw [e]
  exact ho.c
 ·rw [h.ll, sum_ren h3 h.f1]
  refine sum_map_le fun k hk => ?_
  rw [h.tk hw hk, hgf k hk]
  exact Int.le_refl _
theorem Ren.most {s s' : Sw} {f g : Nat → Nat} (hok : SOk s) (hok' : SOk s') (h : Ren s s' f g) : mostW s (servedL s) ≤ mostW s' (servedL s') := by
 obtain ⟨w, hw, hp⟩ := mostW_mem hok (servedL s) (served_ne hok)
 obtain ⟨h1, c, hc⟩ := served_iff.1 hw
 obtain ⟨c', hc', _⟩ := h.ok hok hok' hc
 have hw' : w ∈ servedL s' := served_iff.2 ⟨by rw [h.wt, List.length_map]; exact h1, c', hc'⟩
 have := mostW_le s' (servedL s') w hw'
 rw [pay_ren h] at this
 omega
end Go.Mz


namespace Go.Mz
open Go
structure Perm (n : Nat) (o : List Nat) : Prop where
 p : o.Perm (List.range n)
theorem Perm.len {n : Nat} {o : List Nat} (h : Perm n o) : o.length = n := by rw [h.p.length_eq, List.length_range]
theorem Perm.lt {n : Nat} {o : List Nat} (h : Perm n o) : ∀ j ∈ o, j < n := fun j hj => List.mem_range.1 (h.p.mem_iff.1 hj)
theorem Perm.nd {n : Nat} {o : List Nat} (h : Perm n o) : o.Nodup := h.p.nodup_iff.2 List.nodup_range
theorem Perm.inj {n : Nat} {o : List Nat} (h : Perm n o) {i j k : Nat} (hi : o[i]? = some k) (hj : o[j]? = some k) : i = j := by
 obtain ⟨h1, e1⟩ := List.getElem?_eq_some_iff.1 hi
 obtain ⟨h2, e2⟩ := List.getElem?_eq_some_iff.1 hj
 exact (List.getElem_inj h.nd).1 (e1.trans e2.symm)
def layL {α : Type} (l : List α) (o : List Nat) (n : Nat) : List α := (List.range n).foldl (fun m i => match l[i]?, o[i]? with
 | some x, some j => m.set j x
 | _, _ => m) l
def numF (o : List Nat) (k : Nat) : Nat := o.getD k 0
def laySw (s : Sw) (o : List Nat) : Sw := { s with loaves := layL s.loaves o s.loaves.length, stock := layL s.stock o s.stock.length, wants := s.wants.map (renW (numF o)) }
end Go.Mz


namespace Go.Mz
open Go
def eatW (s : Sw) (x : Want) : Int := if x.sort = 1 then x.amount else if x.sort = 0 then sumL (loafAt s x.kind) else sumL ((loafAt s x.kind).drop ((loafAt s x.kind).length - x.amount.toNat))
def lossW (s : Sw) (x : Want) : Int := if x.sort = 2 then sumL (loafAt s x.kind) - restW s x - eatW s x else 0
end Go.Mz


set_option maxRecDepth 100000
namespace Go.Mz
open Go.Conc Go.Proofs
variable {X : Logic Tryz.prog}
theorem shortB_trans (a b c : List Nat) (h1 : shortB a b = true) (h2 : shortB b c = true) : shortB a c = true := by
 unfold shortB at h1 h2 ⊢
 simp only [Bool.or_eq_true, decide_eq_true_eq, Bool.and_eq_true] at h1 h2 ⊢
 rcases h1 with h1 | ⟨e1, h1⟩
 ·rcases h2 with h2 | ⟨e2, h2⟩ <;> exact .inl (by omega)
 ·rcases h2 with h2 | ⟨e2, h2⟩
  ·exact .inl (by omega)
  ·exact .inr ⟨by omega, ltL_trans h1 h2⟩
theorem shortB_irr (a : List Nat) : shortB a a = false := by unfold shortB; rw [ltL_irr]; simp
theorem others_picks (s : Sw) (w : List Nat) : othersW s w ∈ picksW s.wants.length s.wants.length := by
 rw [picksW_mem (Nat.le_refl _)]
 exact ⟨List.Pairwise.filter _ List.pairwise_lt_range, fun i hi => ⟨by omega, List.mem_range.1 (List.mem_filter.1 hi).1⟩⟩
theorem mem_others {s : Sw} {w : List Nat} {i : Nat} : i ∈ othersW s w ↔ i < s.wants.length ∧ i ∉ w := by
 unfold othersW
 rw [List.mem_filter, List.mem_range]
 simp
theorem asc_eq : ∀ {a b : List Nat}, Asc a → Asc b → (∀ i, i ∈ a ↔ i ∈ b) → a = b
 | [], [], _, _, _ => rfl
 | [], y :: b, _, _, h => absurd ((h y).2 List.mem_cons_self) (by simp)
 | x :: a, [], _, _, h => absurd ((h x).1 List.mem_cons_self) (by simp)
 | x :: a, y :: b, ha, hb, h => by
  obtain ⟨a1, a2⟩ := List.pairwise_cons.1 ha
  obtain ⟨b1, b2⟩ := List.pairwise_cons.1 hb
  have hxy : x = y := by
   have h1 := (h x).1 List.mem_cons_self
   have h2 := (h y).2 List.mem_cons_self
   rcases List.mem_cons.1 h1 with e | h1
   ·exact e
   ·rcases List.mem_cons.1 h2 with e | h2
    ·exact e.symm
    ·have := a1 y h2; have := b1 x h1; omega
  subst hxy
  congr 1
  refine asc_eq a2 b2 fun i => ⟨fun hi => ?_, fun hi => ?_⟩
  ·rcases List.mem_cons.1 ((h i).1 (List.mem_cons_of_mem _ hi)) with e | e
   ·have := a1 i hi; omega
   ·exact e
  ·rcases List.mem_cons.1 ((h i).2 (List.mem_cons_of_mem _ hi)) with e | e
   ·have := b1 i hi; omega
   ·exact e
theorem others_others {s : Sw} {w : List Nat} (h : w ∈ picksW s.wants.length s.wants.length) : othersW s (othersW s w) = w := by
 obtain ⟨ha, hw⟩ := picks_wn h
 refine asc_eq (picks_wn (others_picks s _)).1 ha fun i => ?_
 rw [mem_others, mem_others]
 constructor
 ·rintro ⟨h1, h2⟩
  exact Classical.byContradiction fun e => h2 ⟨h1, e⟩
 ·intro hi
  exact ⟨hw i hi, fun h => h.2 hi⟩
def refB (s : Sw) (w : List Nat) : Bool := srvB s (othersW s w)
def ltLen (a b : List Nat) : Bool := decide ((a.length : Int) < (b.length : Int))
def refD (s : Sw) (j : Nat) : Option (List Nat) := firstBy ltLen (((picksW s.wants.length s.wants.length).take j).filter (refB s))
def RefX (o : Option (List Nat)) (v6 : Value) (fd : Bool) (L : LH) : Prop := match o with
 | none => v6 = .slice none 0 0 ∧ fd = false
 | some w => ∃ ad cap, v6 = .slice ad w.length cap ∧ fd = true ∧ IntsAt L ad (natI w)
theorem RefX.le {o : Option (List Nat)} {v6 : Value} {fd : Bool} {L L' : LH} (h : RefX o v6 fd L) (hl : Le L L') : RefX o v6 fd L' := by
 cases o with
 | none => exact h
 | some w => obtain ⟨ad, cap, h1, h2, h3⟩ := h; exact ⟨ad, cap, h1, h2, h3.le hl⟩
def oth (w : List Nat) (k : Nat) : List Nat := (List.range k).filter fun i => !w.contains i
theorem oth_succ (w : List Nat) (k : Nat) : oth w (k + 1) = oth w k ++ if (!w.contains k) = true then [k] else [] := range_filter (fun i => !w.contains i) k
theorem oth_len (w : List Nat) (k : Nat) : (oth w k).length ≤ k := by
 have := List.length_filter_le (fun i => !w.contains i) (List.range k)
 rw [List.length_range] at this
 exact this
end Go.Mz


namespace Go.Mz
open Go
def choS (n k i : Nat) (out : List (List Nat)) : List (List Nat) := out.flatMap fun x =>
 (List.range' (match x.getLast? with | some y => y + 1 | none => 0) (n - k + i + 1 - (match x.getLast? with | some y => y + 1 | none => 0))).map fun y => x ++ [y]
def choI (n k i : Nat) : List (List Nat) := (List.range i).foldl (fun out i => choS n k i out) [[]]
def choL (n k : Nat) : List (List Nat) := choI n k k
def fstC (x : List Nat) : Nat := match x.getLast? with | some y => y + 1 | none => 0
theorem choI_succ (n k i : Nat) : choI n k (i + 1) = (choI n k i).flatMap fun x => (List.range' (fstC x) (n - k + i + 1 - fstC x)).map fun y => x ++ [y] := by
 unfold choI
 rw [List.range_succ, List.foldl_append]
 rfl
theorem choI_tab : ∀ n, n ≤ 5 → ∀ k, k ≤ n → ∀ i, i ≤ k → (choI n k i).length ≤ 10 ∧ ∀ x ∈ choI n k i, x.length = i ∧ fstC x ≤ 5 := by decide +kernel
def subsW (n : Nat) : List (List Nat) := (List.range (n + 1)).flatMap fun k => choL n k
def ascB : List Nat → Bool
 | [] => true
 | [_] => true
 | a :: b :: l => decide (a < b) && ascB (b :: l)
theorem ascB_asc : ∀ {w : List Nat}, ascB w = true → Asc w
 | [], _ => .nil
 | [a], _ => List.pairwise_singleton _ _
 | a :: b :: l, h => by
  rw [ascB, Bool.and_eq_true, decide_eq_true_eq] at h
  have ih := ascB_asc h.2
  refine List.pairwise_cons.2 ⟨fun y hy => ?_, ih⟩
  rcases List.mem_cons.1 hy with rfl | hy
  ·exact h.1
  ·have := (List.pairwise_cons.1 ih).1 y hy; omega
theorem subs_tab : ∀ n, n ≤ 5 → ((subsW n).all fun w => ascB w && w.all (decide <| · < n)) = true ∧ ((picksW n n).all fun w => (subsW n).contains w) = true ∧ (subsW n).length ≤ 32 := by decide +kernel
theorem subs_sorted : ∀ n, n ≤ 5 → (subsW n).Pairwise fun a b => shortB a b = true := by decide +kernel
theorem subs_mem {n : Nat} (hn : n ≤ 5) {w : List Nat} : w ∈ subsW n ↔ w ∈ picksW n n := by
 obtain ⟨h1, h2, _⟩ := subs_tab n hn
 constructor
 ·intro h
  have := List.all_eq_true.1 h1 w h
  rw [Bool.and_eq_true, List.all_eq_true] at this
  refine (picksW_mem (Nat.le_refl n)).2 ⟨ascB_asc this.1, fun i hi => ⟨by omega, ?_⟩⟩
  simpa using this.2 i hi
 ·intro h
  simpa using List.all_eq_true.1 h2 w h
theorem subs_len {n : Nat} (hn : n ≤ 5) : (subsW n).length ≤ 32 := (subs_tab n hn).2.2
theorem refused_first {s : Sw} (hok : SOk s) {j : Nat} {w : List Nat} (hj : (subsW s.wants.length)[j]? = some w) (hn : ∀ i v, i < j → (subsW s.wants.length)[i]? = some v → crushW s (othersW s v) = none) {c : Cr} (hc : crushW s (othersW s w) = some c) : refusedW s = w := by
 have hw5 := hok.w5
 have hwp : w ∈ picksW s.wants.length s.wants.length := (subs_mem hw5).1 (List.mem_of_getElem? hj)
 have hcw := (crushW_some hc).1
 have hcm : c ∈ (allW s).filterMap id := (cand_iff hok c).2 ⟨by rw [hcw]; exact others_picks _ _, by rw [hcw]; exact hc⟩
 have hwc : w ∈ ((allW s).filterMap id).map fun c => othersW s c.w := List.mem_map.2 ⟨c, hcm, by show othersW s c.w = w; rw [hcw, others_others hwp]⟩
 obtain ⟨x, hx⟩ := firstBy_some (lt := shortB) (List.ne_nil_of_mem hwc)
 have hr : refusedW s = x := by unfold refusedW; rw [hx]; rfl
 obtain ⟨h1, h2⟩ := firstBy_min shortB_trans shortB_irr _ _ hx
 rw [hr]
 obtain ⟨d, hd, rfl⟩ := List.mem_map.1 h1
 obtain ⟨hd1, hd2⟩ := (cand_iff hok d).1 hd
 obtain ⟨i, hi⟩ := List.mem_iff_getElem?.1 ((subs_mem hw5).2 (others_picks s d.w))
 rcases Nat.lt_trichotomy i j with hlt | rfl | hgt
 ·have := hn i _ hlt hi
  rw [others_others hd1, hd2] at this
  cases this
 ·rw [hi] at hj
  exact Option.some.inj hj
 ·obtain ⟨b1, e1⟩ := List.getElem?_eq_some_iff.1 hi
  obtain ⟨b2, e2⟩ := List.getElem?_eq_some_iff.1 hj
  have := List.pairwise_iff_getElem.1 (subs_sorted _ hw5) j i b2 b1 hgt
  rw [e1, e2, h2 w hwc] at this
  cases this
theorem refused_some {s : Sw} (hok : SOk s) (h : ∀ (i : Nat) v, (subsW s.wants.length)[i]? = some v → crushW s (othersW s v) = none) : False := by
 have hw5 := hok.w5
 obtain ⟨i, hi⟩ := List.mem_iff_getElem?.1 ((subs_mem hw5).2 (others_picks s []))
 have h1 := h i _ hi
 rw [others_others (nil_picks _ _)] at h1
 obtain ⟨c, hc⟩ := crush_nil hok
 rw [h1] at hc; cases hc
end Go.Mz


set_option maxRecDepth 100000
namespace Go.Mz
open Go.Conc Go.Proofs
variable {X : Logic Tryz.prog}
theorem GrowL.one_at {α : Type} {L : LH} {k b : Nat} {enc : α → List Value} {l : List α} {a : Option Addr} {c e : Nat} (hl : SlAt L a k enc l) (hcp : l.length ≤ c) (hb : L b = none) : RowsAt (L.put b (.cells #[.slice a l.length c] e)) (some ⟨b, 0, none⟩) k enc [l] :=
 ((GrowL.one (e := e) (c := c) hl hcp (Le.put hb _) (put_same _ _ _) hb).at).2
theorem Choose_sp (n k : Nat) (L : LH) (hn : n ≤ 5) (hk : k ≤ n) :
  Sp X 108 [.int .i64 n, .int .i64 k] L (fun v L' => ∃ a c, v = .slice a ((choL n k).map natI).length c ∧ Le L L' ∧ RowsAt L' a 1 encI ((choL n k).map natI)) := by
 refine Sp.enter (n := 57) Tryz.func108 rfl rfl rfl rfl fun C hX _ hL0 r => ?_
 refine W.go 99 rfl ?_
 refine W.pub 5 (.inr ⟨_, _, _, rfl⟩) rfl rfl ?_
 intro b0 hb0 _
 have hr0 : RowsAt (L.put b0 (.cells #[.slice none 0 0] 23)) (some ⟨b0, 0, none⟩) 1 encI ((choI n k 0).map natI) := GrowL.one_at (l := ([] : List Int)) SlAt.empty (Nat.le_refl _) hb0
 refine W.loop (fun w E B L' => ∃ (i : Nat) (a : Option Addr) (c : Nat), w = k - i ∧ i ≤ k ∧ Le L L' ∧ RowsAt L' a 1 encI ((choI n k i).map natI) ∧
   E = [(0, .v (.int .i64 n)), (1, .v (.int .i64 k)), (5, .v (.slice a ((choI n k i).map natI).length c)), (6, .v (.int .i64 i))] ∧ B = [])
  ⟨0, _, 1, rfl, by omega, Le.put hb0 _, hr0, rfl, rfl⟩ (by exact ⟨rfl, rfl, rfl, rfl, trivial⟩) trivial ?_
 rintro _ _ _ L1 ⟨i, a, c, rfl, hi, hl1, hrows, rfl, rfl⟩ again
 refine W.go 99 rfl ?_
 refine W.split rfl rfl rfl (fun e1 => W.go 99 rfl ?_) (fun e1 => W.go 99 rfl ?_)
 ·have hik : i < k := by simpa using e1
  obtain ⟨hsl, hmem⟩ := choI_tab n hn k hk i hi
  have hstep := choI_succ n k i
  generalize choI n k i = S at hrows hsl hmem hstep
  refine W.loop (fun w E B L' => ∃ (j : Nat) (v : Value) (F : LH) (rs : List (Rw Int)), w = S.length - j ∧ j ≤ S.length ∧ Le L1 F ∧ rs.map Prod.snd = ((S.take j).flatMap fun x => (List.range' (fstC x) (n - k + i + 1 - fstC x)).map fun y => x ++ [y]).map natI ∧ rs.length ≤ j * 6 ∧ Grow F 1 23 encRw L' v rs ∧ (∀ x ∈ rs, RwOk F 1 encI x) ∧
    E = [(0, .v (.int .i64 n)), (1, .v (.int .i64 k)), (5, .v (.slice a (S.map natI).length c)), (6, .v (.int .i64 i)), (7, .v v), (8, .v (.int .i64 j))] ∧ B = [])
   ⟨0, _, L1, [], rfl, by omega, Le.refl _, rfl, by simp, Grow.nil (Le.refl _), (fun x hx => by cases hx), rfl, rfl⟩ (by exact ⟨rfl, rfl, rfl, rfl, rfl, rfl, trivial⟩) trivial ?_
  rintro _ _ _ L2 ⟨j, v, F, rs, rfl, hj, hLF, hrs, hrl, hgr, hrk, rfl, rfl⟩ again2
  refine W.go 99 rfl ?_
  refine W.split rfl rfl rfl (fun e2 => W.go 99 rfl ?_) (fun e2 => W.go 99 rfl ?_)
  ·have hjl : j < S.length := by simp at e2; omega
   obtain ⟨x, hx⟩ : ∃ x, S[j]? = some x := ⟨_, List.getElem?_eq_getElem hjl⟩
   obtain ⟨hxl, hxf⟩ := hmem x (List.mem_of_getElem? hx)
   have hjm : j < (S.map natI).length := by simpa using hjl
   obtain ⟨a', rfl⟩ := hrows.addr hjm
   obtain ⟨xa, xc, hxc, hxs, _⟩ := hrows.row (i := j) (l := natI x) (by rw [List.getElem?_map, hx]; rfl)
   have hnx : (natI x).length = x.length := by simp [natI]
   have hL12 : Le L1 L2 := hLF.trans hgr.1
   apply W.cut (fun E B L' => L2 = L' ∧ SubE E [(0, .v (.int .i64 n)), (1, .v (.int .i64 k)), (5, .v (.slice (some a') (S.map natI).length c)), (6, .v (.int .i64 i)), (7, .v v), (8, .v (.int .i64 j)), (10, .v (.int .i64 (fstC x)))] ∧ PreB B [])
   rotate_left
   ·intro rest
    refine W.split rfl rfl rfl (fun e3 => W.go 99 rfl ?_) (fun e3 => W.go 99 rfl ?_)
    ·have hi0 : 0 < i := by simpa using e3
     have hix : i - 1 < (natI x).length := by omega
     refine W.vf rfl rfl rfl rfl (Vf.idx1 rfl rfl rfl rfl rfl rfl rfl (hjm)) ?_
     refine W.vf rfl rfl rfl rfl (Vf.load rfl rfl rfl (hL12.cell hxc)) ?_
     refine W.go 99 rfl ?_
     rw [wrap64_in _ (by omega) (by omega), show (i : Int) - 1 = ((i - 1 : Nat) : Int) by omega]
     obtain ⟨xa', rfl⟩ := hxs.addr hix
     refine W.vf rfl rfl rfl rfl (Vf.idx1 rfl rfl rfl rfl rfl rfl rfl (hix)) ?_
     have hlast : fstC x = x[i - 1]'(by omega) + 1 := by unfold fstC; rw [List.getLast?_eq_getElem?, show x.length - 1 = i - 1 by omega, List.getElem?_eq_getElem (by omega)]
     refine W.vf rfl rfl rfl rfl (Vf.load rfl rfl rfl ((hxs.le hL12).int (x := ((x[i - 1]'(by omega) : Nat) : Int)) (by rw [natI, List.getElem?_map, List.getElem?_eq_getElem (show i - 1 < x.length by omega)]; rfl))) ?_
     refine W.go 99 rfl ?_
     have hw : IntKind.i64.wrap (((x[i - 1]'(by omega) : Nat) : Int) + 1) = (fstC x : Int) := by rw [hlast, wrap64_in _ (by omega) (by omega)]; omega
     rw [hw]
     exact rest _ _ _ ⟨rfl, by exact ⟨rfl, rfl, rfl, rfl, rfl, rfl, rfl, trivial⟩, by trivial⟩
    ·have hi0 : i = 0 := by simp at e3; omega
     have hx0 : fstC x = 0 := by
      have : x = [] := List.length_eq_zero_iff.1 (by omega)
      rw [this]; rfl
     exact rest _ _ _ ⟨rfl, by exact ⟨rfl, rfl, rfl, rfl, rfl, rfl, congrArg (fun (n : Nat) => some (SV.v (.int .i64 n))) hx0.symm, trivial⟩, by trivial⟩
   rintro E B _ ⟨rfl, hE, hB⟩
   refine W.weak hE hB ?_
   refine W.loop (fun w E B L' => ∃ (y : Nat) (v : Value) (F' : LH) (rs' : List (Rw Int)), w = n - k + i + 1 - fstC x - y ∧ y ≤ n - k + i + 1 - fstC x ∧ Le F F' ∧ rs'.map Prod.snd = rs.map Prod.snd ++ ((List.range' (fstC x) y).map fun y => x ++ [y]).map natI ∧ rs'.length = rs.length + y ∧ Grow F' 1 23 encRw L' v rs' ∧ (∀ x ∈ rs', RwOk F' 1 encI x) ∧
     E = [(0, .v (.int .i64 n)), (1, .v (.int .i64 k)), (5, .v (.slice (some a') (S.map natI).length c)), (6, .v (.int .i64 i)), (7, .v v), (8, .v (.int .i64 j)), (10, .v (.int .i64 ((fstC x + y : Nat) : Int)))] ∧ B = [])
    ⟨0, v, F, rs, rfl, by omega, Le.refl _, by simp, by omega, hgr, hrk, rfl, rfl⟩ (by exact ⟨rfl, rfl, rfl, rfl, rfl, rfl, rfl, trivial⟩) trivial ?_
   clear hgr hrk
   rintro _ _ _ L3 ⟨y, v, F3, rs3, rfl, hy, hFF3, hrs3, hrl3, hgr3, hrk3, rfl, rfl⟩ again3
   have hL13 : Le L1 L3 := hLF.trans (hFF3.trans hgr3.1)
   refine W.go 99 rfl ?_
   rw [wrap64_in ((n : Int) - k) (by omega) (by omega), wrap64_in ((n : Int) - k + i) (by omega) (by omega)]
   refine W.split rfl rfl rfl (fun e3 => W.go 99 rfl ?_) (fun e3 => W.go 99 rfl ?_)
   ·have hyn : y < n - k + i + 1 - fstC x := by simp at e3; omega
    refine W.vf rfl rfl rfl rfl (Vf.idx1 rfl rfl rfl rfl rfl rfl rfl (hjm)) ?_
    refine W.vf rfl rfl rfl rfl (Vf.load rfl rfl rfl (hL13.cell hxc)) ?_
    refine W.go 99 rfl ?_
    refine W.eff rfl rfl rfl (Ef.call rfl (DupInts_sp xa xc (natI x) L3 (hxs.le hL13) (by omega))) ?_
    rintro _ _ _ ⟨_, rfl, rfl, hg1⟩
    rename_i L4 _
    obtain ⟨da, dc, rfl, -⟩ := hg1.slice
    refine W.go 99 rfl ?_
    refine W.eff rfl rfl rfl (Ef.grow rfl rfl rfl rfl rfl rfl rfl rfl rfl encI_len encI_sg hg1 (ls := [((fstC x + y : Nat) : Int)]) (.own rfl rfl rfl rfl) (by simp; omega)) ?_
    rintro _ _ _ ⟨v1, rfl, rfl, hg2, -⟩
    rename_i L5
    have hg2 : Grow L3 1 3 encI L5 v1 (natI (x ++ [fstC x + y])) := by rw [natI_snoc]; exact hg2
    obtain ⟨wa, wc, rfl, hwc⟩ := hg2.slice
    obtain ⟨F5, hFF5, hF5L, hw5, hf5⟩ := hg2.foot encI_len hgr3.1
    have hgr5 : Grow F5 1 23 encRw L5 v rs3 := hgr3.rebase hg2.1 hF5L hf5
    refine W.go 99 rfl ?_
    refine W.eff rfl rfl rfl (Ef.grow rfl rfl rfl rfl rfl rfl rfl rfl rfl encRw_len encRw_sg hgr5 (ls := [((wa, (natI (x ++ [fstC x + y])).length, wc), natI (x ++ [fstC x + y]))]) (.own rfl rfl rfl rfl) (by simp; omega)) ?_
    rintro _ _ _ ⟨v2, rfl, rfl, hg6, -⟩
    refine W.go 99 rfl ?_
    refine W.again (again3 _ _ _ _ (by omega) ⟨y + 1, v2, F5, _, rfl, by omega, hFF3.trans hFF5, ?_, by simp; omega, hg6, ?_, rfl, rfl⟩) ⟨rfl, rfl, rfl, rfl, rfl, rfl, congrArg some (inc64 (by omega)), trivial⟩ trivial
    ·rw [List.map_append, hrs3, List.range'_concat]
     simp only [List.map_append, List.map_cons, List.map_nil, List.append_assoc, Nat.one_mul]
    ·intro z hz
     rcases List.mem_append.1 hz with hz | hz
     ·exact (hrk3 z hz).le hFF5
     ·rw [List.mem_singleton.1 hz]; exact ⟨hw5, rfl, hwc⟩
   ·have hye : y = n - k + i + 1 - fstC x := by simp at e3; omega
    refine W.again (again2 _ _ _ _ (by omega) ⟨j + 1, v, F3, rs3, rfl, by omega, hLF.trans hFF3, ?_, by omega, hgr3, hrk3, rfl, rfl⟩) ⟨rfl, rfl, rfl, rfl, rfl, congrArg some (inc64 (by omega)), trivial⟩ trivial
    obtain ⟨_, rfl⟩ := List.getElem?_eq_some_iff.1 hx
    rw [hrs3, hrs, List.take_succ_eq_append_getElem hjl, List.flatMap_append, List.flatMap_singleton, List.map_append, hye]
  ·have hje : j = S.length := by simp at e2; omega
   subst hje
   rw [List.take_length, ← hstep] at hrs
   have hgL : GrowL L1 23 1 encI L2 v ((choI n k (i + 1)).map natI) := ⟨F, rs, hLF, hrs, hgr, hrk⟩
   obtain ⟨va, vc, rfl⟩ := hgL.slice
   refine W.again (again _ _ _ _ (by omega) ⟨i + 1, va, vc, rfl, by omega, hl1.trans hgL.hle, hgL.at.2, rfl, rfl⟩) ⟨rfl, rfl, rfl, congrArg some (inc64 (by omega)), trivial⟩ trivial
 ·have hie : i = k := by simp at e1; omega
  subst hie
  refine W.ret r rfl rfl ?_
  exact ⟨a, c, rfl, hl1, hrows⟩
end Go.Mz


set_option maxRecDepth 100000
namespace Go.Mz
open Go.Conc Go.Proofs
variable {X : Logic Tryz.prog}
theorem findI_lt (w : List Nat) (k : Nat) : decide (findI (natI w) k < 0) = !w.contains k := by
 unfold findI
 rw [Bool.eq_iff_iff]
 cases h : (natI w).findIdx? (· == (k : Int)) with
 | none =>
  rw [List.findIdx?_eq_none_iff] at h
  have : w.contains k = false := by
   rw [← Bool.not_eq_true, List.contains_iff_mem]
   intro hm
   have := h k (List.mem_map.2 ⟨k, hm, rfl⟩)
   simp at this
  rw [this]
  simp
 | some i =>
  obtain ⟨x, hx, he⟩ := List.findIdx?_eq_some_iff_getElem.1 h
  have hm := List.getElem_mem x
  obtain ⟨y, hy, e⟩ := List.mem_map.1 hm
  have : w.contains k = true := by
   rw [List.contains_iff_mem]
   rw [beq_iff_eq, ← e] at hx
   have : y = k := by omega
   rw [← this]; exact hy
  rw [this]
  simp
theorem others_sp (s : Sw) (p : Wp) (wa : Option Addr) (wc : Nat) (w : List Nat) (L : LH) (hwl : IntsAt L wa (natI w)) (n1 : w.length ≤ 1000) (n2 : s.wants.length ≤ 1000) :
  Sp X 46 [swA s p, .slice wa w.length wc] L (fun v L' => Grow L 1 3 encI L' v (natI (othersW s w))) := by
 refine Sp.enter (n := 23) Tryz.func46 rfl rfl rfl rfl fun C hX _ hL0 r => ?_
 refine W.go 99 rfl ?_
 refine W.loop (fun m E B L' => ∃ (k : Nat) (v : Value), m = s.wants.length - k ∧ k ≤ s.wants.length ∧ Grow L 1 3 encI L' v (natI (oth w k)) ∧
   E = [(1, .v (.slice wa w.length wc)), (2, .p 0 0), (5, .v v), (6, .v (.int .i64 k))] ∧ B = [some ⟨cellsS (.v (swA s p)), 26⟩])
  ⟨0, _, rfl, by omega, Grow.nil (Le.refl _), rfl, rfl⟩ (by exact ⟨rfl, rfl, rfl, rfl, trivial⟩) (by exact ⟨rfl, trivial⟩) ?_
 rintro _ _ _ L3 ⟨k, v, rfl, hk, hg, rfl, rfl⟩ again
 have hl := hg.1
 refine W.go 99 rfl ?_
 refine W.split rfl rfl rfl (fun e2 => W.go 99 rfl ?_) (fun e2 => W.go 99 rfl ?_)
 ·have hkl : k < s.wants.length := by simpa using e2
  have hol := oth_len w k
  have hf := Find_sp (X := C.X) wa wc (natI w) k L3 (hwl.le hl) (by rw [natI_len]; omega)
  rw [natI_len] at hf
  refine W.eff rfl rfl rfl (Ef.call rfl (hf)) ?_
  rintro _ _ _ ⟨_, rfl, rfl, rfl, rfl⟩
  refine W.go 99 rfl ?_
  have hfe := findI_lt w k
  refine W.split rfl rfl rfl (fun e3 => ?_) (fun e3 => ?_)
  ·have e3' : w.contains k = false := by
    have : decide (findI (natI w) k < 0) = true := e3
    rw [hfe] at this
    simpa using this
   obtain ⟨va, vc, rfl, _⟩ := hg.slice
   refine W.go 99 rfl ?_
   refine W.eff rfl rfl rfl (Ef.grow rfl rfl rfl rfl rfl rfl rfl rfl rfl encI_len encI_sg hg (ls := [(k : Int)]) (.own rfl rfl rfl rfl) (by rw [natI_len]; simp; omega)) ?_
   rintro _ _ _ ⟨v5, rfl, rfl, hg5, _⟩
   rw [← natI_snoc] at hg5
   refine W.go 99 rfl ?_
   exact W.again (again _ _ _ _ (by omega) ⟨k + 1, v5, rfl, by omega, by rw [oth_succ, if_pos (by rw [e3']; rfl)]; exact hg5, rfl, rfl⟩) (by exact ⟨rfl, rfl, rfl, congrArg some (inc64 (by omega)), trivial⟩) (by exact ⟨rfl, trivial⟩)
  ·have e3' : w.contains k = true := by
    have : decide (findI (natI w) k < 0) = false := e3
    rw [hfe] at this
    simpa using this
   refine W.go 99 rfl ?_
   exact W.again (again _ _ _ _ (by omega) ⟨k + 1, v, rfl, by omega, by rw [oth_succ, if_neg (by rw [e3']; decide), List.append_nil]; exact hg, rfl, rfl⟩) (by exact ⟨rfl, rfl, rfl, congrArg some (inc64 (by omega)), trivial⟩) (by exact ⟨rfl, trivial⟩)
 have hke : k = s.wants.length := by simp at e2; omega
 subst hke
 refine W.ret r rfl rfl ?_
 exact hg
theorem subs_flat (n k : Nat) (hk : k ≤ n) (h : n ≤ 5) : ((List.range k).flatMap fun k => choL n k).length ≤ k * 10 := by
 have := flat_le (l := List.range k) (f := fun k => choL n k) (k := 10)
 induction k with
 | zero => simp
 | succ k ih =>
  rw [List.range_succ, List.flatMap_append, List.flatMap_singleton, List.length_append]
  have h1 := ih (by omega) (flat_le (l := List.range k) (f := fun k => choL n k) (k := 10))
  have h2 := (choI_tab n h k (by omega) k (Nat.le_refl _)).1
  have : (choL n k).length ≤ 10 := h2
  omega
theorem subsets_sp (n : Nat) (L : LH) (hn : n ≤ 5) : Sp X 45 [.int .i64 n] L (NewRows L ((subsW n).map natI)) := by
 refine Sp.enter (n := 16) Tryz.func45 rfl rfl rfl rfl fun C hX _ hL0 r => ?_
 refine W.go 99 rfl ?_
 refine W.loop (fun w E B L' => ∃ (k : Nat) (v : Value), w = n + 1 - k ∧ k ≤ n + 1 ∧ GrowL L 23 1 encI L' v (((List.range k).flatMap fun k => choL n k).map natI) ∧
   E = [(0, .v (.int .i64 n)), (3, .v v), (4, .v (.int .i64 k))] ∧ B = [])
  ⟨0, _, rfl, by omega, GrowL.nil (Le.refl _), rfl, rfl⟩ (by exact ⟨rfl, rfl, rfl, trivial⟩) trivial ?_
 rintro _ _ _ L1 ⟨k, v, rfl, hk, hgr, rfl, rfl⟩ again
 refine W.go 99 rfl ?_
 refine W.split rfl rfl rfl (fun e2 => W.go 99 rfl ?_) (fun e2 => W.go 99 rfl ?_)
 ·have hkn : k ≤ n := by have : (k : Int) ≤ n := (by simpa using e2); omega
  obtain ⟨J, rs, hLJ, hrs, hgo, hrk⟩ := hgr
  have hch := Choose_sp (X := C.X) n k J hn hkn
  refine W.eff rfl rfl rfl (Ef.call rfl (hch.frame hgo.1)) ?_
  rintro _ _ _ ⟨v3, rfl, rfl, J2, ⟨oa, oc, rfl, hFJ, rs2, hrs2, hsl2, hrk2⟩, hpo⟩
  rename_i L4
  have hgJ := hgo.call hpo
  have hn2 := (choI_tab n hn k hkn k (Nat.le_refl _)).1
  have hrl2 : rs2.length = ((choL n k).map natI).length := by rw [← hrs2, List.length_map]
  have hrl : rs.length ≤ k * 10 := by
   have : rs.length = (((List.range k).flatMap fun k => choL n k).map natI).length := by rw [← hrs, List.length_map]
   rw [this, List.length_map]
   exact subs_flat n k hkn hn
  have hc10 : ((choL n k).map natI).length ≤ 10 := by rw [List.length_map]; exact hn2
  obtain ⟨va, vc, rfl, _⟩ := hgJ.slice
  refine W.go 99 rfl ?_
  refine W.eff rfl rfl rfl (Ef.grow rfl rfl rfl rfl rfl rfl rfl rfl rfl encRw_len encRw_sg hgJ (ls := rs2) (.sl (hsl2.le hpo.le) encRw_len (by rw [hrl2]; rfl)) (by omega)) ?_
  rintro _ _ _ ⟨v4, rfl, rfl, hg5, _⟩
  refine W.go 99 rfl ?_
  refine W.again (again _ _ _ _ (by omega) ⟨k + 1, v4, rfl, by omega, ⟨J2, rs ++ rs2, hLJ.trans hFJ, ?_, hg5, ?_⟩, rfl, rfl⟩) (by exact ⟨rfl, rfl, congrArg some (inc64 (by omega)), trivial⟩) trivial
  ·rw [List.map_append, hrs, hrs2, List.range_succ, List.flatMap_append, List.flatMap_singleton, List.map_append]
  ·intro z hz
   rcases List.mem_append.1 hz with hz | hz
   ·exact (hrk z hz).le hFJ
   ·exact hrk2 z hz
 ·have hkn : k = n + 1 := by have : ¬ (k : Int) ≤ n := (by simpa using e2); omega
  subst hkn
  obtain ⟨va, vc, rfl⟩ := hgr.slice
  refine W.ret r rfl rfl ?_
  exact ⟨va, vc, rfl, hgr.hle, hgr.at.2⟩
end Go.Mz


set_option maxRecDepth 100000
namespace Go.Mz
open Go.Conc Go.Proofs
variable {X : Logic Tryz.prog}
structure ServH (s : Sw) (w : List Nat) (l : List Int) : Prop where
 asc : Asc w
 wn : WnOk s w
 len : l.length = s.loaves.length
 l2 : ∀ x ∈ l, 0 ≤ x ∧ x ≤ 2
end Go.Mz


namespace Go.Mz
open Go
section
variable {s : Sw} (hok : SOk s) {M : List (List Nat)} (hM : ∀ w, w ∈ M ↔ w ∈ picksW s.wants.length s.wants.length)
include hok hM
def topL (s : Sw) (M : List (List Nat)) : List (List Nat) := M.filter fun w => srvB s w && payW s w == payW s (crWants (bestW s fun _ => true))
omit hok in
theorem top_mem {w : List Nat} : w ∈ topL s M ↔ w ∈ picksW s.wants.length s.wants.length ∧ srvB s w = true ∧ payW s w = payW s (crWants (bestW s fun _ => true)) := by
 unfold topL
 rw [List.mem_filter, Bool.and_eq_true, beq_iff_eq, hM]
end
end Go.Mz


namespace Go.Mz
open Go
end Go.Mz


set_option maxRecDepth 100000
namespace Go.Mz
open Go.Conc Go.Proofs
variable {Post : Value → World → Prop} {W0 : World}
theorem RfR_run (na : Option Addr) (nc : Nat) (nums : List Int) (L : LH) (hn : IntsAt L na nums) (hgl : GlOk L) (hl2 : nums.length ≤ 140737488355328)
  (hQ : ∀ v L' w, (v = .bool true ∧ Dim L L') → Sub L' w → Same W0 w → Post v w) :
  FGo Tryz.prog Post W0 (G (Frame.enter Tryz.prog 7 [.slice na nums.length nc].toArray .normal) []) L := by
 refine root_enter (n := 58) (s := 2) Tryz.func7 rfl rfl (by kernel_rfl) rfl rfl hQ fun C hX _ hL0 r => ?_
 have drd : ∀ L2, GlOk L2 → Sp C.X 21 [] L2 (fun v L' => v = .bool true ∧ Dim L2 L') := fun L2 h => by rw [hX]; exact cut_sp L2 h
 refine W.go 99 rfl ?_
 refine W.eff rfl rfl rfl (Ef.call rfl (NewHat_sp na nc nums L hn)) ?_
 rintro _ _ _ ⟨_, rfl, rfl, b, rfl, hb, hle1, hh1⟩
 refine W.go 99 rfl ?_
 rename_i L1
 have hb1 := le_but hb hle1
 refine W.eff rfl rfl rfl (Ef.call rfl (SawOf_sp b na nc nums 0 3 5 L1 hh1 (by omega) hl2 (by omega) (by omega) (by omega))) ?_
 rintro _ _ _ ⟨_, rfl, rfl, s, p, m, rfl, ho, hm, hle2, hh2, hsw⟩
 refine W.go 99 rfl ?_
 rename_i L2
 have hok := sawE_0 ho.e
 have hL2 : Le L L2 := hb1.trans ((but_but hle2).trans (but_le _ _))
 have hw5 := hok.w5
 have hsw := hsw.le (but_le _ _)
 have hrf := Refused_sp (Post := Post) (W0 := W0) s p L2 hsw hok.sm
 rw [← hX, show RefusedE s = (refusedW s, 0) by unfold RefusedE; rw [if_neg (by simp [ho.e])]] at hrf
 refine W.eff rfl rfl rfl (Ef.call rfl (hrf)) ?_
 rintro _ _ _ ⟨_, rfl, rfl, ga, gc, rfl, hgi, hd3⟩
 refine W.go 99 rfl ?_
 rename_i L3
 have hdL3 := (Dim.of_le hL2).trans hd3
 have hsw3 := hd3.sw hsw
 refine W.eff rfl rfl rfl (Ef.call rfl (subsets_sp s.wants.length L3 hw5)) ?_
 rintro _ _ _ ⟨_, rfl, rfl, pa, pc, rfl, hl34, hrows⟩
 refine W.go 99 rfl ?_
 rename_i L4
 rw [List.length_map]
 have hfirst := fun j w c => refused_first (s := s) hok (j := j) (w := w) (c := c)
 have hnever := refused_some (s := s) hok
 have hP32 := subs_len hw5
 have hmw : ∀ w ∈ subsW s.wants.length, w.length ≤ 5 := fun w hw => picks_5 hok ((subs_mem hw5).1 hw)
 generalize subsW s.wants.length = P at *
 refine W.loop (fun m E B L' => ∃ (j : Nat), m = P.length - j ∧ j ≤ P.length ∧ Le L4 L' ∧ (∀ i v, i < j → P[i]? = some v → crushW s (othersW s v) = none) ∧
   E = [(3, .p 0 0), (4, .v (.slice ga (refusedW s).length gc)), (5, .v (.int .i64 0)), (6, .v (.slice pa P.length pc)), (7, .v (.int .i64 j))] ∧ B = [some ⟨cellsS (.v (swA s p)), 26⟩])
  ⟨0, rfl, by omega, Le.refl _, (fun i v h => by omega), rfl, rfl⟩ (by exact ⟨rfl, rfl, rfl, rfl, rfl, trivial⟩) (by exact ⟨rfl, trivial⟩) ?_
 rintro _ _ _ L5 ⟨j, rfl, hj, hl45, hno, rfl, rfl⟩ again
 have hl35 := hl34.trans hl45
 refine W.go 99 rfl ?_
 refine W.split rfl rfl rfl (fun e1 => W.go 99 rfl ?_) (fun e1 => W.go 99 rfl ?_)
 ·have hjl : j < P.length := by simpa using e1
  obtain ⟨w, hw⟩ : ∃ w, P[j]? = some w := ⟨_, List.getElem?_eq_getElem hjl⟩
  have hw5' := hmw w (List.mem_of_getElem? hw)
  have hwm : (P.map natI)[j]? = some (natI w) := by rw [List.getElem?_map, hw]; rfl
  obtain ⟨pa', rfl⟩ := hrows.addr (i := j) (by simpa using hjl)
  obtain ⟨xa, xc, hxc, hxs, _⟩ := hrows.row hwm
  rw [natI_len] at hxc
  obtain ⟨hoa, hon⟩ := picks_wn (others_picks s w)
  have hol : (othersW s w).length ≤ 5 := by have := oth_len w s.wants.length; have e : oth w s.wants.length = othersW s w := rfl; rw [e] at this; omega
  refine W.drawn (by kernel_rfl) L5 (Le.refl _) ?_
  refine DD.run' [0, 1, 2, 3] rfl ?_
  refine DD.vf 4 rfl rfl rfl rfl rfl (Vf.idx1 rfl rfl rfl rfl rfl rfl rfl (hjl)) ?_
  refine DD.vf 5 rfl rfl rfl rfl rfl (Vf.load rfl rfl rfl (hl45.cell hxc)) ?_
  refine DD.act 6 rfl rfl rfl rfl rfl (Ef.call rfl ((others_sp s p xa xc w L5 (hxs.le hl45) (by omega) (by omega)))) ((by rintro _ _ _ ⟨_, rfl, rfl, hg⟩; exact ⟨hg.1, rfl, .inl rfl⟩)) ?_
  rintro _ _ _ ⟨v6, rfl, rfl, hg⟩
  rename_i L6
  obtain ⟨oa, oc, rfl, _⟩ := hg.slice
  have hcx := Crush_sp (X := C.X) s p oa oc (natI (othersW s w)) L6 ((hsw3.le hl35).le hg.1) hok.sm (hg.at encI_len).2 (by rw [natI_len]; omega)
  rw [CrushE_natI ho.e hoa hon] at hcx
  refine DD.act 7 rfl rfl rfl rfl rfl (Ef.call rfl (hcx)) ((by rintro _ _ _ ⟨_, rfl, rfl, _, _, rfl, _, hl⟩; exact ⟨hg.1.trans hl, rfl, .inl rfl⟩)) ?_
  rintro _ _ _ ⟨v7, rfl, rfl, ca, cc, rfl, hci, hl67⟩
  rename_i L7
  have hl57 := hg.1.trans hl67
  cases hc : crushW s (othersW s w) with
  | none =>
   rw [show crushE s (othersW s w) = ([], 0, 11) by unfold crushE; rw [hc]]
   refine DD.run' [8, 9, 10, 11, 12, 13, 14] rfl ?_
   refine .fin rfl ?_
   refine W.go 99 rfl ?_
   refine W.split rfl rfl rfl (fun c => absurd c (by decide)) (fun c => ?_)
   refine W.go 99 rfl ?_
   refine W.split rfl rfl rfl (fun c => absurd c (by decide)) (fun c => ?_)
   refine W.go 99 rfl ?_
   refine W.again (again _ _ _ _ (by omega) ⟨j + 1, rfl, by omega, hl45.trans hl57, (fun i v hi hv => ?_), rfl, rfl⟩) (by exact ⟨rfl, rfl, rfl, rfl, congrArg some (inc64 (by omega)), trivial⟩) (by exact ⟨rfl, trivial⟩)
   rcases Nat.lt_or_ge i j with h | h
   ·exact hno i v h hv
   ·have : i = j := by omega
    subst this
    rw [hw] at hv; cases hv
    exact hc
  | some c =>
   rw [show crushE s (othersW s w) = (c.l, c.c, 0) by unfold crushE; rw [hc]]
   have hrw := hfirst j w c hw hno hc
   refine DD.run' [8, 9, 10, 11, 12, 13, 14] rfl ?_
   refine .fin rfl ?_
   refine W.go 99 rfl ?_
   refine W.split rfl rfl rfl (fun _ => ?_) (fun h => absurd h (by simp))
   refine W.go 99 rfl ?_
   refine W.asLit 45 (p := true) rfl rfl ?_
   refine W.go 99 rfl ?_
   refine W.vf rfl rfl rfl rfl (Vf.idx1 rfl rfl rfl rfl rfl rfl rfl (hjl)) ?_
   refine W.go 99 rfl ?_
   refine W.vf rfl rfl rfl rfl (Vf.load rfl rfl rfl ((hl45.trans hl57).cell hxc)) ?_
   refine W.go 99 rfl ?_
   have hei := EqInts_sp (X := C.X) ga xa gc xc (natI (refusedW s)) (natI w) L7 (hgi.le (hl35.trans hl57)) (hxs.le (hl45.trans hl57)) (by rw [hrw, natI_len]; omega) (by rw [natI_len]; omega)
   rw [decide_eq_true (show natI (refusedW s) = natI w by rw [hrw]), natI_len, natI_len] at hei
   refine W.eff rfl rfl rfl (Ef.call rfl (hei)) ?_
   rintro _ _ _ ⟨_, rfl, rfl, rfl, rfl⟩
   refine W.go 99 rfl ?_
   refine W.asLit 53 (p := true) rfl rfl ?_
   refine W.go 99 rfl ?_
   refine W.eff rfl rfl rfl (Ef.call rfl (drd L7 ((show GlOk L3 from hdL3.cell hgl).le (hl35.trans hl57)))) ?_
   rintro _ _ _ ⟨_, rfl, rfl, rfl, hdm⟩
   refine W.go 99 rfl ?_
   exact W.retO r rfl ⟨rfl, (hdL3.trans (Dim.of_le (hl35.trans hl57))).trans hdm⟩
 ·have hje : j = P.length := by simp at e1; omega
  subst hje
  exact (hnever fun i v hv => hno i v (List.getElem?_eq_some_iff.1 hv).1 hv).elim
end Go.Mz

