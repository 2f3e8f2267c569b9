/- Lemmas on which the claim leans. -/
import Derived.Test.YtfnjganjlkoehaaGreatDoorMzLa
namespace Go.Mz
open Go
structure OkX (s : Sw) (xs : List Want) (l : List Int) : Prop where
 a : ∀ k, k < s.loaves.length → tkN xs k + l.getD k 0 ≤ s.stock.getD k 0
 b : ∀ k, k < s.loaves.length → tksN k xs ≤ l.getD k 0 * sumL (s.loaves.getD k []) + suN s xs k
 c : tksN (-1) xs ≤ sumL (sugarD s xs l)
theorem okX_iff {s : Sw} (hok : SOk s) {w : List Nat} {l : List Int} : okW s w l = true ↔ OkX s (wantsOf s w) l := by
 rw [okW_iff hok]
 exact ⟨fun ⟨h1, h2, h3⟩ => ⟨h1, h2, h3⟩, fun h => ⟨h.a, h.b, h.c⟩⟩
theorem cones_eq {s : Sw} (hok : SOk s) (w : List Nat) (l : List Int) : sumL (planW s w l).t = sumL ((List.range s.loaves.length).map fun k => tkN (wantsOf s w) k + l.getD k 0) := by
 rw [planW_eq hok, sum3]
 have h1 := hok.l1
 have h3 := hok.l3
 have far : ∀ k, s.loaves.length ≤ k → tkN (wantsOf s w) k = 0 := fun k hk => by
  unfold tkN
  rw [show List.countP (isTk k) (wantsOf s w) = 0 from List.countP_eq_zero.2 fun x hx => by
   have := (wants_mem hok hx).k1
   unfold isTk
   simp
   omega]
  rfl
 have : s.loaves.length = 1 ∨ s.loaves.length = 2 ∨ s.loaves.length = 3 := by omega
 rcases this with e | e | e
 ·rw [e]
  simp [List.range_succ, lfN, e, far 1 (by omega), far 2 (by omega), sumL]
 ·rw [e]
  simp [List.range_succ, lfN, e, far 2 (by omega), sumL]
 ·rw [e]
  simp [List.range_succ, lfN, e, sumL]
theorem plan_in {s : Sw} (hok : SOk s) {w : List Nat} {l : List Int} (hl : l.length = s.stock.length) (h0 : ∀ k, k < s.stock.length → 0 ≤ l.getD k 0) (h : OkX s (wantsOf s w) l) : l ∈ plansW s w := by
 refine (plans_iff hok).2 ⟨mem_lists hl fun k hk => ⟨h0 k hk, ?_⟩, (okX_iff hok).2 h⟩
 have := h.a k (by have := hok.st; omega)
 have := (tkN_bd (wantsOf s w) k).1
 omega
theorem plan_out {s : Sw} (hok : SOk s) {w : List Nat} {l : List Int} (h : l ∈ plansW s w) : l.length = s.stock.length ∧ (∀ k, 0 ≤ l.getD k 0) ∧ OkX s (wantsOf s w) l := by
 obtain ⟨h1, h2⟩ := (plans_iff hok).1 h
 obtain ⟨h3, h4⟩ := listsW_mem h1
 exact ⟨h3, fun k => (h4 k).1, (okX_iff hok).1 h2⟩
theorem served_by {s s' : Sw} (hok : SOk s) (hok' : SOk s') {w w' : List Nat} {c : Cr} (hc : crushW s w = some c)
  (H : ∀ l : List Int, l.length = s.stock.length → (∀ k, 0 ≤ l.getD k 0) → OkX s (wantsOf s w) l → ∃ l' : List Int, l'.length = s'.stock.length ∧ (∀ k, k < s'.stock.length → 0 ≤ l'.getD k 0) ∧ OkX s' (wantsOf s' w') l' ∧ sumL ((List.range s'.loaves.length).map fun k => tkN (wantsOf s' w') k + l'.getD k 0) ≤ sumL ((List.range s.loaves.length).map fun k => tkN (wantsOf s w) k + l.getD k 0)) :
  ∃ c', crushW s' w' = some c' ∧ c'.c ≤ c.c := by
 obtain ⟨⟨l, hl, rfl⟩, _⟩ := crush_min hc
 obtain ⟨h1, h2, h3⟩ := plan_out hok hl
 obtain ⟨l', g1, g2, g3, g4⟩ := H l h1 h2 h3
 obtain ⟨c', hc', hle⟩ := crush_le (plan_in hok' g1 g2 g3)
 refine ⟨c', hc', ?_⟩
 rw [cones_eq hok'] at hle
 show c'.c ≤ sumL (planW s w l).t
 rw [cones_eq hok]
 omega
theorem wantsOf_app (s : Sw) (a b : List Nat) : wantsOf s (a ++ b) = wantsOf s a ++ wantsOf s b := by unfold wantsOf; rw [List.filterMap_append]
end Go.Mz


namespace Go.Mz
open Go
def strip (x : Want) : Want := { x with pay := 0 }
structure Better (s s' : Sw) : Prop where
 lo : s'.loaves = s.loaves
 sl : s'.stock.length = s.stock.length
 st : ∀ k, s.stock.getD k 0 ≤ s'.stock.getD k 0
 ke : s'.kerf ≤ s.kerf
 wt : s'.wants.map strip = s.wants.map strip
 py : ∀ (i : Nat) (x y : Want), s.wants[i]? = some x → s'.wants[i]? = some y → x.pay ≤ y.pay
theorem Better.wl {s s' : Sw} (h : Better s s') : s'.wants.length = s.wants.length := by
 have := congrArg List.length h.wt
 simpa using this
theorem wants_strip (s : Sw) (w : List Nat) : (wantsOf s w).map strip = w.filterMap ((s.wants.map strip)[·]?) := by
 unfold wantsOf
 rw [List.map_filterMap]
 congr 1
 funext i
 rw [List.getElem?_map]
theorem tkN_strip (xs : List Want) (k : Nat) : tkN (xs.map strip) k = tkN xs k := by
 unfold tkN
 rw [List.countP_map]
 rfl
theorem tksN_strip (k : Int) (xs : List Want) : tksN k (xs.map strip) = tksN k xs := by
 unfold tksN
 rw [List.filter_map, List.map_map]
 rfl
theorem suN_strip (s : Sw) (xs : List Want) (k : Nat) : suN s (xs.map strip) k = suN s xs k := by
 unfold suN
 rw [List.filter_map, List.map_map]
 rfl
theorem suN_le {s s' : Sw} (h : ∀ x, restW s x ≤ restW s' x) (xs : List Want) (k : Nat) : suN s xs k ≤ suN s' xs k := by
 induction xs with
 | nil => exact Int.le_refl _
 | cons x xs ih => rw [suN_cons, suN_cons]; have := h x; split <;> omega
theorem Better.rest {s s' : Sw} (h : Better s s') (x : Want) : restW s x ≤ restW s' x := by
 unfold restW loafAt
 rw [h.lo]
 have := h.ke
 omega
theorem Better.ok {s s' : Sw} (h : Better s s') {w : List Nat} {l : List Int} (ho : OkX s (wantsOf s w) l) : OkX s' (wantsOf s' w) l := by
 have e : (wantsOf s' w).map strip = (wantsOf s w).map strip := by rw [wants_strip, wants_strip, h.wt]
 have e1 : ∀ k, tkN (wantsOf s' w) k = tkN (wantsOf s w) k := fun k => by rw [← tkN_strip, e, tkN_strip]
 have e2 : ∀ k, tksN k (wantsOf s' w) = tksN k (wantsOf s w) := fun k => by rw [← tksN_strip, e, tksN_strip]
 have e3 : ∀ k, suN s (wantsOf s w) k ≤ suN s' (wantsOf s' w) k := fun k => by
  rw [← suN_strip s' (wantsOf s' w), e, suN_strip]
  exact suN_le h.rest _ k
 refine ⟨fun k hk => ?_, fun k hk => ?_, ?_⟩
 ·rw [e1]; have := ho.a k (by rw [← h.lo]; exact hk); have := h.st k; omega
 ·rw [e2, h.lo]; have := ho.b k (by rw [← h.lo]; exact hk); have := e3 k; omega
 ·rw [e2]
  have h1 := ho.c
  have : sumL (sugarD s (wantsOf s w) l) ≤ sumL (sugarD s' (wantsOf s' w) l) := by
   unfold sugarD
   rw [h.lo]
   exact sum_map_le fun k _ => by have := e3 k; omega
  omega
theorem Better.tk {s s' : Sw} (h : Better s s') (w : List Nat) (k : Nat) : tkN (wantsOf s' w) k = tkN (wantsOf s w) k := by
 rw [← tkN_strip, wants_strip, h.wt, ← wants_strip, tkN_strip]
theorem Better.crush {s s' : Sw} (hok : SOk s) (hok' : SOk s') (h : Better s s') {w : List Nat} {c : Cr} (hc : crushW s w = some c) : ∃ c', crushW s' w = some c' ∧ c'.c ≤ c.c :=
 served_by hok hok' hc fun l hl h0 ho => ⟨l, by rw [hl, h.sl], fun k _ => h0 k, h.ok ho, by rw [h.lo]; exact sum_map_le fun k _ => by rw [h.tk]; exact Int.le_refl _⟩
theorem Better.pay {s s' : Sw} (h : Better s s') : ∀ w : List Nat, payW s w ≤ payW s' w
 | [] => Int.le_refl _
 | i :: w => by
  have ih := Better.pay h w
  have e : ∀ s : Sw, payW s (i :: w) = payW s [i] + payW s w := fun s => by
   unfold payW
   rw [show i :: w = [i] ++ w from rfl, wantsOf_app, List.map_append, sumL_append]
  rw [e s, e s']
  have h1 : payW s [i] ≤ payW s' [i] := by
   have hl := h.wl
   have p1 : ∀ s : Sw, payW s [i] = match s.wants[i]? with | some x => x.pay | none => 0 := fun s => by
    unfold payW wantsOf
    rw [List.filterMap_cons]
    cases s.wants[i]? <;> simp [sumL]
   rw [p1, p1]
   cases e1 : s.wants[i]? with
   | none =>
    rw [List.getElem?_eq_none_iff] at e1
    rw [List.getElem?_eq_none (by omega)]
    exact Int.le_refl _
   | some x =>
    have hi := (List.getElem?_eq_some_iff.1 e1).1
    rw [List.getElem?_eq_getElem (show i < s'.wants.length by omega)]
    exact h.py i x _ e1 (List.getElem?_eq_getElem _)
  omega
theorem Better.most {s s' : Sw} (hok : SOk s) (hok' : SOk s') (h : Better s s') : mostW s (servedL s) ≤ mostW s' (servedL s') := by
 obtain ⟨w, hw, hp⟩ := mostW_mem hok (servedL s) (served_ne hok)
 obtain ⟨h1, c, hc⟩ := served_iff.1 hw
 obtain ⟨c', hc', _⟩ := h.crush hok hok' hc
 have hw' : w ∈ servedL s' := served_iff.2 ⟨by rw [h.wl]; exact h1, c', hc'⟩
 have := mostW_le s' (servedL s') w hw'
 have := h.pay w
 omega
theorem servedW_iff {s : Sw} : servedW s = true ↔ ∃ c, crushW s (fullW s) = some c := by
 unfold servedW
 cases e : crushW s (fullW s) with
 | none => rw [crush_no.1 e]; simp
 | some c =>
  refine ⟨fun _ => ⟨c, rfl⟩, fun _ => ?_⟩
  cases h : plansW s (fullW s) with
  | nil => rw [crush_no.2 h] at e; cases e
  | cons => rfl
theorem Better.served {s s' : Sw} (hok : SOk s) (hok' : SOk s') (h : Better s s') (hs : servedW s = true) : servedW s' = true := by
 obtain ⟨c, hc⟩ := servedW_iff.1 hs
 obtain ⟨c', hc', _⟩ := h.crush hok hok' hc
 refine servedW_iff.2 ⟨c', ?_⟩
 rw [show fullW s' = fullW s by unfold fullW; rw [h.wl]]
 exact hc'
theorem moreK_get (s : Sw) (k n j : Nat) : (moreK s k n).stock.getD j 0 = s.stock.getD j 0 + if j = k ∧ k < s.stock.length then (n : Int) else 0 := by
 show (s.stock.modify k (· + (n : Int))).getD j 0 = _
 rw [List.getD_eq_getElem?_getD, List.getElem?_modify, List.getD_eq_getElem?_getD]
 by_cases e : k = j
 ·subst e
  by_cases hb : k < s.stock.length
  ·rw [List.getElem?_eq_getElem hb]; simp [hb]
  ·rw [List.getElem?_eq_none (by omega)]; simp [hb]
 ·rw [if_neg (fun h => e h.1.symm)]; simp [e]
theorem more_better (s : Sw) (k : Nat) {n m : Nat} (h : n ≤ m) : Better (moreK s k n) (moreK s k m) :=
 ⟨rfl, by show (s.stock.modify _ _).length = (s.stock.modify _ _).length; rw [List.length_modify, List.length_modify], fun j => by rw [moreK_get, moreK_get]; split <;> omega, Int.le_refl _, rfl, fun i x y hx hy => by
  have hx' : s.wants[i]? = some x := hx
  have hy' : s.wants[i]? = some y := hy
  rw [hx'] at hy'
  cases hy'
  exact Int.le_refl _⟩
theorem SOk.more {s : Sw} (h : SOk s) (h4 : ∀ x ∈ s.stock, 0 ≤ x ∧ x ≤ 4) (k : Nat) {n : Nat} (hn : n ≤ 4) : SOk (moreK s k n) :=
 ⟨h.l1, h.l3, h.lf, (by show (s.stock.modify k _).length = _; rw [List.length_modify]; exact h.st), fun x hx => by
  obtain ⟨j, hj, rfl⟩ := List.getElem_of_mem hx
  have e := moreK_get s k n j
  rw [List.getD_eq_getElem?_getD, List.getElem?_eq_getElem hj, Option.getD_some] at e
  have hj' : j < s.stock.length := by have : j < (s.stock.modify k (· + (n : Int))).length := hj; rwa [List.length_modify] at this
  rw [e, List.getD_eq_getElem?_getD, List.getElem?_eq_getElem hj', Option.getD_some]
  have := h4 _ (List.getElem_mem hj')
  split <;> omega, h.k0, h.k3, h.w5, h.wt⟩
theorem need_iff {s : Sw} (hok : SOk s) (h4 : ∀ x ∈ s.stock, 0 ≤ x ∧ x ≤ 4) (k : Nat) {m : Nat} (hm : m ≤ 4) : servedW (moreK s k m) = true ↔ ∃ n, needW s k = some n ∧ n ≤ m := by
 constructor
 ·intro h
  cases e : needW s k with
  | none =>
   unfold needW at e
   have := List.find?_eq_none.1 e m (List.mem_range.2 (by omega))
   exact absurd h this
  | some n =>
   unfold needW at e
   rw [List.find?_range_eq_some] at e
   refine ⟨n, rfl, ?_⟩
   rcases Nat.lt_or_ge m n with hlt | hge
   ·have := e.2.2 m hlt
    rw [h] at this; cases this
   ·exact hge
 ·rintro ⟨n, e, hle⟩
  unfold needW at e
  rw [List.find?_range_eq_some] at e
  have hn := List.mem_range.1 e.2.1
  exact (more_better s k hle).served (hok.more h4 k (by omega)) (hok.more h4 k hm) e.1
theorem kerf_better (s : Sw) {n m : Nat} (h : n ≤ m) : Better (kerfK s m) (kerfK s n) :=
 ⟨rfl, rfl, fun j => Int.le_refl _, (by show (n : Int) ≤ (m : Int); omega), rfl, fun i x y hx hy => by
  have hx' : s.wants[i]? = some x := hx
  have hy' : s.wants[i]? = some y := hy
  rw [hx'] at hy'
  cases hy'
  exact Int.le_refl _⟩
theorem kerf_iff {s : Sw} (hok : SOk s) {m : Nat} (hm : m ≤ 3) : servedW (kerfK s m) = true ↔ ∃ n, kerfW s = some n ∧ m ≤ n := by
 have e : kerfW s = [3, 2, 1, 0].find? fun n => servedW (kerfK s n) := rfl
 have dn : ∀ {a b : Nat}, a ≤ b → b ≤ 3 → servedW (kerfK s b) = true → servedW (kerfK s a) = true := fun {a b} h hb hs => (kerf_better s h).served (hok.kerf hb) (hok.kerf (by omega)) hs
 have up : ∀ {a b : Nat}, a ≤ b → b ≤ 3 → servedW (kerfK s a) = false → servedW (kerfK s b) = false := fun {a b} h hb hs => by
  cases hv : servedW (kerfK s b) with
  | false => rfl
  | true => rw [dn h hb hv] at hs; cases hs
 constructor
 ·intro h
  rw [e]
  simp only [List.find?_cons]
  cases h3 : servedW (kerfK s 3) with
  | true => exact ⟨3, rfl, hm⟩
  | false =>
   cases h2 : servedW (kerfK s 2) with
   | true => exact ⟨2, rfl, Nat.le_of_not_lt fun g => by have := up (a := 3) (b := m) (by omega) hm h3; rw [h] at this; cases this⟩
   | false =>
    cases h1 : servedW (kerfK s 1) with
    | true => exact ⟨1, rfl, Nat.le_of_not_lt fun g => by have := up (a := 2) (b := m) (by omega) hm h2; rw [h] at this; cases this⟩
    | false =>
     cases h0 : servedW (kerfK s 0) with
     | true => exact ⟨0, rfl, Nat.le_of_not_lt fun g => by have := up (a := 1) (b := m) (by omega) hm h1; rw [h] at this; cases this⟩
     | false => have := up (a := 0) (b := m) (by omega) hm h0; rw [h] at this; cases this
 ·rintro ⟨n, hn, hle⟩
  rw [e] at hn
  have h1 := List.find?_some hn
  have h2 := List.mem_of_find?_eq_some hn
  have h3 : n ≤ 3 := by simp at h2; omega
  exact dn hle h3 h1
end Go.Mz


namespace Go.Mz
open Go
def renW (f : Nat → Nat) (x : Want) : Want := if x.kind < 0 then x else { x with kind := (f x.kind.toNat : Nat) }
structure Ren (s s' : Sw) (f g : Nat → Nat) : Prop where
 ll : s'.loaves.length = s.loaves.length
 sl : s'.stock.length = s.stock.length
 f1 : ∀ k, k < s.loaves.length → f k < s.loaves.length ∧ g (f k) = k
 g1 : ∀ k, k < s.loaves.length → g k < s.loaves.length ∧ f (g k) = k
 lo : ∀ k, k < s.loaves.length → s'.loaves.getD (f k) [] = s.loaves.getD k []
 st : ∀ k, k < s.loaves.length → s'.stock.getD (f k) 0 = s.stock.getD k 0
 ke : s'.kerf = s.kerf
 wt : s'.wants = s.wants.map (renW f)
theorem renW_0 {f : Nat → Nat} {x : Want} (h : x.kind < 0) : renW f x = x := if_pos h
theorem renW_n {f : Nat → Nat} {x : Want} {n : Nat} (h : x.kind = (n : Int)) : renW f x = { x with kind := (f n : Nat) } := by
 unfold renW
 rw [if_neg (by omega), h]
 rfl
theorem renW_sort (f : Nat → Nat) (x : Want) : (renW f x).sort = x.sort := by unfold renW; split <;> rfl
theorem renW_amount (f : Nat → Nat) (x : Want) : (renW f x).amount = x.amount := by unfold renW; split <;> rfl
theorem renW_pay (f : Nat → Nat) (x : Want) : (renW f x).pay = x.pay := by unfold renW; split <;> rfl
theorem Ren.symm {s s' : Sw} {f g : Nat → Nat} (hok : SOk s) (h : Ren s s' f g) : Ren s' s g f where
 ll := h.ll.symm
 sl := h.sl.symm
 f1 := fun k hk => by rw [h.ll] at hk ⊢; exact h.g1 k hk
 g1 := fun k hk => by rw [h.ll] at hk ⊢; exact h.f1 k hk
 lo := fun k hk => by
  rw [h.ll] at hk
  have e := h.g1 k hk
  rw [← h.lo _ e.1, e.2]
 st := fun k hk => by
  rw [h.ll] at hk
  have e := h.g1 k hk
  rw [← h.st _ e.1, e.2]
 ke := h.ke.symm
 wt := by
  rw [h.wt, List.map_map]
  refine (List.map_congr_left (f := id) fun x hx => ?_).symm.trans ?_ |>.symm
  ·have hw := hok.wt x hx
   by_cases e : x.kind < 0
   ·show x = renW g (renW f x)
    rw [renW_0 e, renW_0 e]
   ·obtain ⟨n, hn⟩ : ∃ n : Nat, x.kind = (n : Int) := ⟨x.kind.toNat, by omega⟩
    have := hw.k1
    have hg := (h.f1 n (by omega)).2
    show x = renW g (renW f x)
    rw [renW_n hn, renW_n (n := f n) rfl, hg]
    cases x
    simp only at hn
    subst hn
    rfl
  ·exact List.map_id _
theorem wants_ren {s s' : Sw} {f g : Nat → Nat} (h : Ren s s' f g) (w : List Nat) : wantsOf s' w = (wantsOf s w).map (renW f) := by
 unfold wantsOf
 rw [List.map_filterMap, h.wt]
 congr 1
 funext i
 rw [List.getElem?_map]
theorem pay_ren {s s' : Sw} {f g : Nat → Nat} (h : Ren s s' f g) (w : List Nat) : payW s' w = payW s w := by
 unfold payW
 rw [wants_ren h, List.map_map]
 congr 1
 exact List.map_congr_left fun x _ => renW_pay f x
theorem map_on {n : Nat} {f g : Nat → Int} (h : ∀ k, k < n → f k = g k) : (List.range n).map f = (List.range n).map g := List.map_congr_left fun k hk => h k (List.mem_range.1 hk)
theorem sum_ren {n : Nat} (hn : n ≤ 3) {f g : Nat → Nat} (hf : ∀ k, k < n → f k < n ∧ g (f k) = k) (F : Nat → Int) : sumL ((List.range n).map F) = sumL ((List.range n).map fun k => F (f k)) := by
 have c : n = 0 ∨ n = 1 ∨ n = 2 ∨ n = 3 := by omega
 rcases c with rfl | rfl | rfl | rfl
 ·rfl
 ·have := (hf 0 (by omega)).1
  rw [show List.range 1 = [0] from rfl]
  simp only [List.map_cons, List.map_nil, sumL_cons, sumL_nil]
  rw [show f 0 = 0 by omega]
 ·obtain ⟨a1, a2⟩ := hf 0 (by omega)
  obtain ⟨b1, b2⟩ := hf 1 (by omega)
  rw [show List.range 2 = [0, 1] from rfl]
  simp only [List.map_cons, List.map_nil, sumL_cons, sumL_nil]
  generalize f 0 = x at *
  generalize f 1 = y at *
  have hne : x ≠ y := fun e => by subst e; omega
  have c : (x = 0 ∧ y = 1) ∨ (x = 1 ∧ y = 0) := by omega
  rcases c with ⟨rfl, rfl⟩ | ⟨rfl, rfl⟩ <;> omega
 ·obtain ⟨a1, a2⟩ := hf 0 (by omega)
  obtain ⟨b1, b2⟩ := hf 1 (by omega)
  obtain ⟨c1, c2⟩ := hf 2 (by omega)
  rw [show List.range 3 = [0, 1, 2] from rfl]
  simp only [List.map_cons, List.map_nil, sumL_cons, sumL_nil]
  generalize f 0 = x at *
  generalize f 1 = y at *
  generalize f 2 = z at *
  have h1 : x ≠ y := fun e => by subst e; omega
  have h2 : x ≠ z := fun e => by subst e; omega
  have h3 : y ≠ z := fun e => by subst e; omega
  have c : (x = 0 ∧ y = 1 ∧ z = 2) ∨ (x = 0 ∧ y = 2 ∧ z = 1) ∨ (x = 1 ∧ y = 0 ∧ z = 2) ∨ (x = 1 ∧ y = 2 ∧ z = 0) ∨ (x = 2 ∧ y = 0 ∧ z = 1) ∨ (x = 2 ∧ y = 1 ∧ z = 0) := by omega
  rcases c with ⟨rfl, rfl, rfl⟩ | ⟨rfl, rfl, rfl⟩ | ⟨rfl, rfl, rfl⟩ | ⟨rfl, rfl, rfl⟩ | ⟨rfl, rfl, rfl⟩ | ⟨rfl, rfl, rfl⟩ <;> omega
section
variable {s s' : Sw} {f g : Nat → Nat}
theorem Ren.kind (h : Ren s s' f g) {x : Want} (hx : WtOk s.loaves x) {k : Nat} (hk : k < s.loaves.length) : ((renW f x).kind == ((f k : Nat) : Int)) = (x.kind == (k : Int)) := by
 by_cases e : x.kind < 0
 ·rw [renW_0 e, Bool.eq_iff_iff, beq_iff_eq, beq_iff_eq]; omega
 ·obtain ⟨n, hn⟩ : ∃ n : Nat, x.kind = (n : Int) := ⟨x.kind.toNat, by omega⟩
  have := hx.k1
  have g1 := (h.f1 n (by omega)).2
  have g2 := (h.f1 k hk).2
  rw [renW_n hn, hn, Bool.eq_iff_iff, beq_iff_eq, beq_iff_eq]
  show ((f n : Nat) : Int) = _ ↔ _
  constructor
  ·intro e
   have e : f n = f k := by omega
   rw [e] at g1
   omega
  ·intro e
   rw [show n = k by omega]
theorem Ren.neg (h : Ren s s' f g) (x : Want) : (renW f x).kind < 0 ↔ x.kind < 0 := by
 by_cases e : x.kind < 0
 ·rw [renW_0 e]
 ·obtain ⟨n, hn⟩ : ∃ n : Nat, x.kind = (n : Int) := ⟨x.kind.toNat, by omega⟩
  rw [renW_n hn]
  show ((f n : Nat) : Int) < 0 ↔ _
  omega
theorem Ren.rest (h : Ren s s' f g) {x : Want} (hx : WtOk s.loaves x) (h0 : 0 ≤ x.kind) : restW s' (renW f x) = restW s x := by
 obtain ⟨n, hn⟩ : ∃ n : Nat, x.kind = (n : Int) := ⟨x.kind.toNat, by omega⟩
 have := hx.k1
 have hl := h.lo n (by omega)
 unfold restW
 rw [renW_amount, h.ke, show loafAt s' (renW f x).kind = loafAt s x.kind by
  unfold loafAt
  rw [renW_n hn, hn]
  exact hl]
variable {xs : List Want} (hxs : ∀ x ∈ xs, WtOk s.loaves x)
include hxs
theorem Ren.tk (h : Ren s s' f g) {k : Nat} (hk : k < s.loaves.length) : tkN (xs.map (renW f)) (f k) = tkN xs k := by
 unfold tkN
 rw [List.countP_map]
 congr 1
 refine List.countP_congr fun x hx => ?_
 show isTk (f k) (renW f x) = true ↔ _
 unfold isTk
 rw [renW_sort, h.kind (hxs x hx) hk]
theorem Ren.su (h : Ren s s' f g) {k : Nat} (hk : k < s.loaves.length) : suN s' (xs.map (renW f)) (f k) = suN s xs k := by
 induction xs with
 | nil => rfl
 | cons x xs ih =>
  have hx := hxs x List.mem_cons_self
  rw [List.map_cons, suN_cons, suN_cons, ih fun y hy => hxs y (List.mem_cons_of_mem _ hy)]
  have e : isTp (f k) (renW f x) = isTp k x := by unfold isTp; rw [renW_sort, h.kind hx hk]
  rw [e]
  by_cases ht : isTp k x = true
  ·rw [if_pos ht, if_pos ht]
   have : 0 ≤ x.kind := by unfold isTp at ht; simp at ht; omega
   rw [h.rest hx this]
  ·rw [if_neg ht, if_neg ht]
theorem Ren.tks (h : Ren s s' f g) {k : Nat} (hk : k < s.loaves.length) : tksN ((f k : Nat) : Int) (xs.map (renW f)) = tksN (k : Int) xs := by
 induction xs with
 | nil => rfl
 | cons x xs ih =>
  have hx := hxs x List.mem_cons_self
  rw [List.map_cons, tksN_cons, tksN_cons, ih fun y hy => hxs y (List.mem_cons_of_mem _ hy), renW_amount]
  have e : isTks ((f k : Nat) : Int) (renW f x) = isTks (k : Int) x := by
   unfold isTks
   rw [renW_sort, h.kind hx hk, show decide (((f k : Nat) : Int) < 0) = false by simp, show decide ((k : Int) < 0) = false by simp]
  rw [e]
theorem Ren.tks0 (h : Ren s s' f g) : tksN (-1) (xs.map (renW f)) = tksN (-1) xs := by
 induction xs with
 | nil => rfl
 | cons x xs ih =>
  rw [List.map_cons, tksN_cons, tksN_cons, ih fun y hy => hxs y (List.mem_cons_of_mem _ hy), renW_amount]
  have e : isTks (-1) (renW f x) = isTks (-1) x := by unfold isTks; rw [renW_sort]; simp
  rw [e]
end
theorem Ren.ok {s s' : Sw} {f g : Nat → Nat} (hok : SOk s) (h : Ren s s' f g) {w : List Nat} {c : Cr} (hok' : SOk s') (hc : crushW s w = some c) : ∃ c', crushW s' w = some c' ∧ c'.c ≤ c.c := by
 have hw : ∀ x ∈ wantsOf s w, WtOk s.loaves x := fun x hx => wants_mem hok hx
 have hst := hok.st
 have h3 := hok.l3
 refine served_by hok hok' hc fun l hl h0 ho => ⟨(List.range s.loaves.length).map fun k => l.getD (g k) 0, by rw [List.length_map, List.length_range, h.sl, hst], fun k hk => ?_, ?_⟩
 ·rw [List.getD_eq_getElem?_getD, List.getElem?_map, List.getElem?_range (by rw [h.sl] at hk; omega)]
  exact h0 _
 have hg : ∀ k, k < s.loaves.length → ((List.range s.loaves.length).map fun k => l.getD (g k) 0).getD k 0 = l.getD (g k) 0 := fun k hk => by
  rw [List.getD_eq_getElem?_getD, List.getElem?_map, List.getElem?_range hk]; rfl
 have hgf : ∀ k, k < s.loaves.length → ((List.range s.loaves.length).map fun k => l.getD (g k) 0).getD (f k) 0 = l.getD k 0 := fun k hk => by
  rw [hg _ (h.f1 k hk).1, (h.f1 k hk).2]
 generalize ((List.range s.loaves.length).map fun k => l.getD (g k) 0) = l' at *
 rw [wants_ren h]
 have back : ∀ k, k < s'.loaves.length → ∃ j, j < s.loaves.length ∧ f j = k := fun k hk => by rw [h.ll] at hk; exact ⟨g k, h.g1 k hk⟩
 refine ⟨⟨fun k hk => ?_, fun k hk => ?_, ?_⟩, ?_⟩
 ·obtain ⟨j, hj, rfl⟩ := back k hk
  rw [h.tk hw hj, hgf j hj, h.st j hj]
  exact ho.a j hj
 ·obtain ⟨j, hj, rfl⟩ := back k hk
  rw [h.tks hw hj, hgf j hj, h.lo j hj, h.su hw hj]
  exact ho.b j hj
 ·rw [h.tks0 hw]
  have e : sumL (sugarD s' ((wantsOf s w).map (renW f)) l') = sumL (sugarD s (wantsOf s w) l) := by
   unfold sugarD
   rw [h.ll, sum_ren h3 h.f1]
   congr 1
   refine map_on fun k hk => ?_
   rw [hgf k hk, h.lo k hk, h.su hw hk]
  rw [e]
  exact ho.c
 ·rw [h.ll, sum_ren h3 h.f1]
  refine sum_map_le fun k hk => ?_
  rw [h.tk hw hk, hgf k hk]
  exact Int.le_refl _
theorem Ren.most {s s' : Sw} {f g : Nat → Nat} (hok : SOk s) (hok' : SOk s') (h : Ren s s' f g) : mostW s (servedL s) ≤ mostW s' (servedL s') := by
 obtain ⟨w, hw, hp⟩ := mostW_mem hok (servedL s) (served_ne hok)
 obtain ⟨h1, c, hc⟩ := served_iff.1 hw
 obtain ⟨c', hc', _⟩ := h.ok hok hok' hc
 have hw' : w ∈ servedL s' := served_iff.2 ⟨by rw [h.wt, List.length_map]; exact h1, c', hc'⟩
 have := mostW_le s' (servedL s') w hw'
 rw [pay_ren h] at this
 omega
end Go.Mz


namespace Go.Mz
open Go
structure Perm (n : Nat) (o : List Nat) : Prop where
 p : o.Perm (List.range n)
theorem Perm.len {n : Nat} {o : List Nat} (h : Perm n o) : o.length = n := by rw [h.p.length_eq, List.length_range]
theorem Perm.lt {n : Nat} {o : List Nat} (h : Perm n o) : ∀ j ∈ o, j < n := fun j hj => List.mem_range.1 (h.p.mem_iff.1 hj)
theorem Perm.nd {n : Nat} {o : List Nat} (h : Perm n o) : o.Nodup := h.p.nodup_iff.2 List.nodup_range
theorem Perm.inj {n : Nat} {o : List Nat} (h : Perm n o) {i j k : Nat} (hi : o[i]? = some k) (hj : o[j]? = some k) : i = j := by
 obtain ⟨h1, e1⟩ := List.getElem?_eq_some_iff.1 hi
 obtain ⟨h2, e2⟩ := List.getElem?_eq_some_iff.1 hj
 exact (List.getElem_inj h.nd).1 (e1.trans e2.symm)
def layL {α : Type} (l : List α) (o : List Nat) (n : Nat) : List α := (List.range n).foldl (fun m i => match l[i]?, o[i]? with
 | some x, some j => m.set j x
 | _, _ => m) l
def numF (o : List Nat) (k : Nat) : Nat := o.getD k 0
def laySw (s : Sw) (o : List Nat) : Sw := { s with loaves := layL s.loaves o s.loaves.length, stock := layL s.stock o s.stock.length, wants := s.wants.map (renW (numF o)) }
end Go.Mz


namespace Go.Mz
open Go
theorem sawE_lo {s : Sw} (h : sawE s = 0) : ∀ x ∈ s.loaves, loafE x = 0 := by
 unfold sawE at h
 split at h
 ·rename_i h1; exact absurd h h1
 ·split at h
  ·rename_i h2; exact absurd h h2
  ·rename_i h2
   simp only [ne_eq, Decidable.not_not, loavesE_0] at h2
   exact h2
theorem sawE_s4 {s : Sw} (h : sawE s = 0) : ∀ x ∈ s.stock, 0 ≤ x ∧ x ≤ 4 := by
 unfold sawE at h
 split at h
 ·rename_i h1; exact absurd h h1
 ·split at h
  ·rename_i h2; exact absurd h h2
  ·split at h
   ·cases h
   ·split at h
    ·cases h
    ·rename_i h4
     simp only [Bool.not_eq_true', Bool.not_eq_false, stockB_iff] at h4
     exact h4
theorem sawE_of {s : Sw} (h : SOk s) (hl : ∀ x ∈ s.loaves, loafE x = 0) (h4 : ∀ x ∈ s.stock, 0 ≤ x ∧ x ≤ 4) : sawE s = 0 :=
 sawE_mk h.l1 h.l3 hl h.st h4 ⟨h.k0, h.k3⟩ h.w5 fun x hx => wantE_0' (h.wt x hx)
def eatW (s : Sw) (x : Want) : Int := if x.sort = 1 then x.amount else if x.sort = 0 then sumL (loafAt s x.kind) else sumL ((loafAt s x.kind).drop ((loafAt s x.kind).length - x.amount.toNat))
def lossW (s : Sw) (x : Want) : Int := if x.sort = 2 then sumL (loafAt s x.kind) - restW s x - eatW s x else 0
end Go.Mz


set_option maxRecDepth 100000
namespace Go.Mz
open Go.Conc Go.Proofs
variable {X : Logic Tryz.prog}
theorem CloneG_sp (ad : Option Addr) (c : Nat) (l : List Int) (L : LH) (h : SlAt L ad 1 encI l) (hn : l.length ≤ 1000000) : Sp X 113 [.slice ad l.length c] L (fun v L' => Grow L 1 3 encI L' v l) := by
 refine Sp.enter (n := 8) Tryz.func113 rfl rfl rfl rfl fun C hX _ hL0 r => ?_
 refine W.go 99 rfl ?_
 refine W.split rfl rfl rfl (fun d1 => W.go 99 rfl ?_) (fun d1 => W.go 99 rfl ?_)
 ·have e : ad = none := by cases ad with | none => rfl | some a => simp at d1
  subst e
  obtain rfl := h.nil
  refine W.ret r rfl rfl ?_
  exact Grow.nil (Le.refl _)
 refine W.pub 5 (.inr ⟨_, _, _, rfl⟩) rfl rfl ?_
 intro b hb _
 refine W.eff rfl rfl rfl (Ef.grow rfl rfl rfl rfl rfl rfl rfl rfl rfl encI_len encI_sg (Grow.new (Le.put hb _) (put_same _ _ _) hb) (ls := l) (.sl (h.le (Le.put hb _)) encI_len rfl) (by simp; omega)) ?_
 rintro _ _ _ ⟨v', rfl, rfl, hg', _⟩
 refine W.go 99 rfl ?_
 refine W.ret r rfl rfl ?_
 exact hg'
theorem moreK_step {s : Sw} {k n : Nat} (hk : k < s.stock.length) : (moreK s k n).stock.set k (s.stock.getD k 0 + ((n + 1 : Nat) : Int)) = (moreK s k (n + 1)).stock := by
 show (s.stock.modify k (· + (n : Int))).set k _ = s.stock.modify k (· + ((n + 1 : Nat) : Int))
 apply List.ext_getElem?
 intro j
 rw [List.getElem?_set, List.getElem?_modify, List.length_modify]
 by_cases e : k = j
 ·subst e
  rw [if_pos rfl, if_pos hk, List.getD_eq_getElem?_getD, List.getElem?_eq_getElem hk]
  simp [List.getElem?_eq_getElem hk]
 ·rw [if_neg e, List.getElem?_modify]; simp [e]
theorem more0 (s : Sw) (k : Nat) : (moreK s k 0).stock = s.stock := by
 show s.stock.modify k (· + (0 : Int)) = s.stock
 apply List.ext_getElem?
 intro j
 rw [List.getElem?_modify]
 cases s.stock[j]? <;> simp
theorem more_len (s : Sw) (k n : Nat) : (moreK s k n).stock.length = s.stock.length := by
 show (s.stock.modify k _).length = _
 rw [List.length_modify]
theorem need_some {s : Sw} {k n : Nat} (h5 : n < 5) (hn : servedW (moreK s k n) = true) (hno : ∀ m, m < n → servedW (moreK s k m) = false) : needW s k = some n := find_range h5 hn hno
theorem need_none {s : Sw} {k : Nat} (hno : ∀ m, m < 5 → servedW (moreK s k m) = false) : needW s k = none := find_range_none hno
theorem Need_sp (s : Sw) (p : Wp) (k : Int) (L : LH) (h : SwAt L s p) (hn : Sm s) : Sp X 53 [swA s p, .int .i64 k] L (fun v L' => v = .tuple #[.int .i64 (NeedE s k).1, .int .i64 (NeedE s k).2] ∧ Le L L') := by
 refine Sp.enter (n := 37) Tryz.func53 rfl rfl rfl rfl fun C hX _ hL0 r => ?_
 refine W.go 99 rfl ?_
 refine W.pub 12 (.inr ⟨_, _, _, rfl⟩) rfl rfl ?_
 intro b12 hb12 _
 have f1 := Le.put hb12 (.cells #[.int .i64 k] 3)
 have g1 := put_same L b12 (.cells #[.int .i64 k] 3)
 change W _ _ _ _ _ _ (L.put b12 (.cells #[.int .i64 k] 3))
 generalize L.put b12 (.cells #[.int .i64 k] 3) = L1 at f1 g1 ⊢
 refine W.eff rfl rfl rfl (Ef.call rfl (open_sp s p (some ⟨b12, 0, none⟩) none 1 0 [k] [] L1 (h.le f1) hn (ints1 g1) SlAt.empty (by simp) (by simp))) ?_
 rintro _ _ _ ⟨v0, rfl, rfl, hle, hq⟩
 refine W.go 99 rfl ?_
 rename_i L2
 have hl2 := f1.trans hle
 rcases hq with ⟨he, rfl⟩ | ⟨he, rfl⟩
 ·refine W.go 99 rfl ?_
  refine W.split rfl rfl rfl (fun e1 => W.go 99 rfl ?_) (fun e1 => W.go 99 rfl ?_)
  ·refine W.ret r rfl rfl ?_
   have : NeedE s k = (0, openW s [k] []) := by unfold NeedE; rw [if_pos he]
   rw [this]
   exact ⟨rfl, hl2⟩
  ·simp at e1; exact absurd e1 he
 have hSE : NeedE s k = match needW s k.toNat with | some n => ((n : Int), 0) | none => (0, 11) := by unfold NeedE; rw [if_neg (by simp [he])]; rfl
 rw [hSE] at r
 obtain ⟨h0, hk, _⟩ := openW_0 he
 have hok := sawE_0 h0
 have hk := hk k (by simp)
 have hst := hok.st
 have hl3 := hok.l3
 have h4 := sawE_s4 h0
 obtain ⟨i, rfl⟩ : ∃ i : Nat, k = (i : Int) := ⟨k.toNat, by omega⟩
 have hi : i < s.stock.length := by omega
 rw [Int.toNat_natCast] at r
 refine W.go 99 rfl ?_
 refine W.split rfl rfl rfl (fun e1 => ?_) (fun e1 => ?_)
 ·simp at e1
 refine W.weak (E' := [(1, .v (.int .i64 i)), (2, .p 0 0), (17, .lit false)]) (B' := [some ⟨cellsS (.v (swA s p)), 26⟩]) (by exact ⟨rfl, rfl, rfl, trivial⟩) (by exact ⟨rfl, trivial⟩) ?_
 refine W.go 99 rfl ?_
 refine W.eff rfl rfl rfl (Ef.call rfl (CloneG_sp p.sa p.sc s.stock L2 (h.st.le hl2) (by omega))) ?_
 rintro _ _ _ ⟨v2, rfl, rfl, hg⟩
 rename_i L3 _
 obtain ⟨sa, sc, rfl, hsc⟩ := hg.slice
 refine W.go 99 rfl ?_
 refine W.loop (fun w E B L' => ∃ n : Nat, w = 5 - n ∧ n ≤ 5 ∧ Grow L2 1 3 encI L' (.slice sa s.stock.length sc) (moreK s i n).stock ∧ (∀ m, m < n → servedW (moreK s i m) = false) ∧
   E = [(1, .v (.int .i64 i)), (2, .p 0 0), (23, .v (.int .i64 n))] ∧ B = [some ⟨[.v (.slice p.la s.loaves.length p.lc), .v (.slice sa s.stock.length sc), .v (.int .i64 s.kerf), .v (.slice p.wa s.wants.length p.wc)], 26⟩])
  ⟨0, rfl, by omega, by rw [more0]; exact hg, (fun m hm => by omega), rfl, rfl⟩ (by exact ⟨rfl, rfl, rfl, trivial⟩) (by exact ⟨rfl, trivial⟩) ?_
 clear hg
 rintro _ _ _ L4 ⟨n, rfl, hn5, hg, hno, rfl, rfl⟩ again
 refine W.go 99 rfl ?_
 refine W.split rfl rfl rfl (fun e2 => W.go 99 rfl ?_) (fun e2 => W.go 99 rfl ?_)
 ·have hn5 : n < 5 := by have : (n : Int) < 5 := (by simpa using e2); omega
  have hsl := (hg.at encI_len).2
  have hsw : SwAt L4 (moreK s i n) ⟨p.la, sa, p.wa, p.lc, sc, p.wc⟩ := ⟨h.lo.le (hl2.trans hg.1), hsl, h.wt.le (hl2.trans hg.1), h.cap⟩
  have hsp := served_sp (X := C.X) (moreK s i n) ⟨p.la, sa, p.wa, p.lc, sc, p.wc⟩ L4 hsw (hok.more h4 i (by omega))
  rw [show swA (moreK s i n) ⟨p.la, sa, p.wa, p.lc, sc, p.wc⟩ = .agg #[.slice p.la s.loaves.length p.lc, .slice sa s.stock.length sc, .int .i64 s.kerf, .slice p.wa s.wants.length p.wc] by show Value.agg #[_, .slice sa (moreK s i n).stock.length sc, _, _] = _; rw [more_len]; rfl] at hsp
  refine W.eff rfl rfl rfl (Ef.call rfl (hsp)) ?_
  rintro _ _ _ ⟨v5, rfl, rfl, rfl, hl5⟩
  rename_i L5
  refine W.go 99 rfl ?_
  cases es : servedW (moreK s i n) with
  | true =>
   refine W.split rfl rfl rfl (fun c => ?_) (fun c => absurd c (by decide))
   refine W.go 99 rfl ?_
   refine W.ret r rfl rfl ?_
   rw [need_some hn5 es hno]
   exact ⟨rfl, hl2.trans (hg.1.trans hl5)⟩
  | false =>
   refine W.split rfl rfl rfl (fun c => absurd c (by decide)) (fun c => ?_)
   have hg5 := hg.le hl5
   have hin : i < (moreK s i n).stock.length := by rw [more_len]; exact hi
   have hget : (moreK s i n).stock[i]? = some (s.stock.getD i 0 + (n : Int)) := by
    rw [getD_some hin, moreK_get, if_pos ⟨rfl, hi⟩]
   have hb4 : 0 ≤ s.stock.getD i 0 ∧ s.stock.getD i 0 ≤ 4 := by
    have := h4 _ (List.getElem_mem hi)
    rw [List.getD_eq_getElem?_getD, List.getElem?_eq_getElem hi]
    exact this
   obtain ⟨b, cap, c, hv, _, hbc, hsz, hg6⟩ := hg5.setN encI_len hin (s.stock.getD i 0 + ((n + 1 : Nat) : Int))
   rw [moreK_step hi] at hg6
   rw [more_len] at hv
   cases hv
   have hown := (hg5.at encI_len).2
   refine W.go 99 rfl ?_
   refine W.vf rfl rfl rfl rfl (Vf.idx1 rfl rfl rfl rfl rfl rfl rfl (hi)) ?_
   refine W.go 99 rfl ?_
   refine W.vf rfl rfl rfl rfl (Vf.load rfl rfl rfl (hown.int hget)) ?_
   refine W.go 99 rfl ?_
   refine W.vf rfl rfl rfl rfl (Vf.idx1 rfl rfl rfl rfl rfl rfl rfl (hi)) ?_
   rw [wrap64_in _ (by omega) (by omega)]
   refine W.eff0 rfl rfl (Ef.stoF (b := b) (off := i * 1) (congrArg (fun a => some (SV.v (.pointer (some a)))) (show Addr.add ⟨b, 0, none⟩ i = ⟨b, i * 1, none⟩ by rw [add_of]; simp)) ⟨_, rfl, rfl⟩ rfl hbc rfl hsz (singles rfl)) ?_
   rintro _ _ _ ⟨rfl, rfl, rfl⟩
   refine W.go 99 rfl ?_
   refine W.again (again _ _ _ _ (by omega) ⟨n + 1, rfl, by omega, ?_, (fun m hm => ?_), rfl, rfl⟩) (by exact ⟨rfl, rfl, congrArg some (inc64 (by omega)), trivial⟩) (by exact ⟨rfl, trivial⟩)
   ·rw [show s.stock.getD i 0 + (n : Int) + 1 = s.stock.getD i 0 + ((n + 1 : Nat) : Int) by omega]
    exact hg6
   ·rcases Nat.lt_or_ge m n with h | h
    ·exact hno m h
    ·rw [show m = n by omega]; exact es
 ·have hn5 : n = 5 := by simp at e2; omega
  subst hn5
  refine W.ret r rfl rfl ?_
  rw [need_none hno]
  exact ⟨rfl, hl2.trans hg.1⟩
end Go.Mz


set_option maxRecDepth 100000
namespace Go.Mz
open Go.Conc Go.Proofs
variable {X : Logic Tryz.prog}
theorem more_set {s : Sw} {k n : Nat} (hk : k < s.stock.length) : s.stock.set k (s.stock.getD k 0 + (n : Int)) = (moreK s k n).stock := by
 show _ = s.stock.modify k (· + (n : Int))
 apply List.ext_getElem?
 intro j
 rw [List.getElem?_set, List.getElem?_modify]
 by_cases e : k = j
 ·subst e
  rw [if_pos rfl, if_pos hk, List.getD_eq_getElem?_getD, List.getElem?_eq_getElem hk]
  simp
 ·rw [if_neg e]; simp [e]
theorem rMore_sp (s : Sw) (p : Wp) (k n : Nat) (L : LH) (h : SwAt L s p) (hok : SOk s) (hk : k < s.stock.length) (hn : n ≤ 10) :
  Sp X 54 [swA s p, .int .i64 k, .int .i64 n] L (fun v L' => ∃ p', v = swA (moreK s k n) p' ∧ Le L L' ∧ SwAt L' (moreK s k n) p') := by
 have hst := hok.st
 have hl3 := hok.l3
 refine Sp.enter (n := 24) Tryz.func54 rfl rfl rfl rfl fun C hX _ hL0 r => ?_
 refine W.go 99 rfl ?_
 refine W.pub 7 (.inr ⟨_, _, _, rfl⟩) rfl rfl ?_
 intro b hb _
 refine W.eff rfl rfl rfl (Ef.grow rfl rfl rfl rfl rfl rfl rfl rfl rfl encI_len encI_sg (Grow.new (Le.put hb _) (put_same _ _ _) hb) (ls := s.stock) (.sl (h.st.le (Le.put hb _)) encI_len rfl) (by simp; omega)) ?_
 rintro _ _ _ ⟨v1, rfl, rfl, hg, _⟩
 rename_i L1 _
 rw [List.nil_append] at hg
 obtain ⟨sa, sc, rfl, hsc⟩ := hg.slice
 refine W.go 99 rfl ?_
 have hx : s.stock[k]? = some (s.stock.getD k 0) := getD_some hk
 have hb8 : 0 ≤ s.stock.getD k 0 ∧ s.stock.getD k 0 ≤ 8 := by
  rw [List.getD_eq_getElem?_getD, List.getElem?_eq_getElem hk]
  exact hok.sr _ (List.getElem_mem hk)
 obtain ⟨q, cap, c, hv, _, hq, hqs, hset⟩ := hg.setN encI_len hk (s.stock.getD k 0 + (n : Int))
 cases hv
 have hown := (hg.at encI_len).2
 refine W.drawn (by kernel_rfl) L hg.1 ?_
 refine DD.run' [0, 1, 2, 3, 4, 5, 8] rfl ?_
 refine DD.vf 6 rfl rfl rfl rfl rfl (Vf.idx1 rfl rfl rfl rfl rfl rfl rfl (hk)) ?_
 refine DD.act 7 rfl rfl rfl rfl rfl (Ef.val rfl (Vf.load rfl rfl rfl (hown.int hx))) (by rintro _ _ _ ⟨rfl, rfl, rfl⟩; exact ⟨hg.1, rfl, .inl rfl⟩) ?_
 rintro _ _ _ ⟨rfl, rfl, rfl⟩
 refine DD.run' [9] rfl ?_
 rw [wrap64_in _ (by omega) (by omega)]
 refine DD.vf 10 rfl rfl rfl rfl rfl (Vf.idx1 rfl rfl rfl rfl rfl rfl rfl (hk)) ?_
 refine DD.act 11 rfl rfl rfl rfl rfl (Ef.stoF (b := q) (off := k * 1) (congrArg (fun a => some (SV.v (.pointer (some a)))) (show Addr.add ⟨q, 0, none⟩ k = ⟨q, k * 1, none⟩ by rw [add_of]; simp)) ⟨_, rfl, rfl⟩ rfl hq rfl hqs (singles rfl)) (by rintro _ _ _ ⟨rfl, rfl, rfl⟩; exact ⟨hset.1, rfl, .inl rfl⟩) ?_
 rintro _ _ _ ⟨rfl, rfl, rfl⟩
 refine .fin rfl ?_
 refine W.go 99 rfl ?_
 refine W.ret r rfl rfl ?_
 have hms := more_set (n := n) hk
 rw [hms] at hset
 refine ⟨⟨p.la, some ⟨q, 0, none⟩, p.wa, p.lc, sc, p.wc⟩, ?_, hset.1, ⟨h.lo.le hset.1, ?_, h.wt.le hset.1, h.cap⟩⟩
 ·show _ = Value.agg #[.slice p.la s.loaves.length p.lc, .slice (some ⟨q, 0, none⟩) (moreK s k n).stock.length sc, .int .i64 s.kerf, .slice p.wa s.wants.length p.wc]
  rw [more_len]; rfl
 ·exact (hset.at encI_len).2
end Go.Mz


namespace Go.Mz
open Go
def choS (n k i : Nat) (out : List (List Nat)) : List (List Nat) := out.flatMap fun x =>
 (List.range' (match x.getLast? with | some y => y + 1 | none => 0) (n - k + i + 1 - (match x.getLast? with | some y => y + 1 | none => 0))).map fun y => x ++ [y]
def choI (n k i : Nat) : List (List Nat) := (List.range i).foldl (fun out i => choS n k i out) [[]]
def choL (n k : Nat) : List (List Nat) := choI n k k
def fstC (x : List Nat) : Nat := match x.getLast? with | some y => y + 1 | none => 0
def subsW (n : Nat) : List (List Nat) := (List.range (n + 1)).flatMap fun k => choL n k
def ascB : List Nat → Bool
 | [] => true
 | [_] => true
 | a :: b :: l => decide (a < b) && ascB (b :: l)
end Go.Mz


namespace Go.Mz
open Go
section
variable {s : Sw} (hok : SOk s) {M : List (List Nat)} (hM : ∀ w, w ∈ M ↔ w ∈ picksW s.wants.length s.wants.length)
include hok hM
def topL (s : Sw) (M : List (List Nat)) : List (List Nat) := M.filter fun w => srvB s w && payW s w == payW s (crWants (bestW s fun _ => true))
omit hok in
theorem top_mem {w : List Nat} : w ∈ topL s M ↔ w ∈ picksW s.wants.length s.wants.length ∧ srvB s w = true ∧ payW s w = payW s (crWants (bestW s fun _ => true)) := by
 unfold topL
 rw [List.mem_filter, Bool.and_eq_true, beq_iff_eq, hM]
end
end Go.Mz


namespace Go.Mz
open Go
theorem crushE_err (s : Sw) (w : List Nat) : (crushE s w).2.2 = if srvB s w then 0 else 11 := by
 unfold crushE srvB
 cases crushW s w <;> rfl
end Go.Mz


set_option maxRecDepth 100000
namespace Go.Mz
open Go.Conc Go.Proofs
variable {Post : Value → World → Prop} {W0 : World}
theorem fewest_err {s : Sw} (h : sawE s = 0) : (FewestE s).2.2 = if servedW s then 0 else 11 := by
 unfold FewestE
 rw [if_neg (by simp [h]), crushE_err]
 cases e : servedW s with
 | true =>
  obtain ⟨c, hc⟩ := servedW_iff.1 e
  rw [if_pos (by unfold srvB; rw [hc]; rfl)]; rfl
 | false =>
  rw [if_neg]
  ·rfl
  ·intro hs
   unfold srvB at hs
   obtain ⟨c, hc⟩ := Option.isSome_iff_exists.1 hs
   rw [servedW_iff.2 ⟨c, hc⟩] at e
   cases e
theorem more_saw {s : Sw} (he : sawE s = 0) {k n : Nat} (hn : s.stock.getD k 0 + (n : Int) ≤ 4) (hk : k < s.stock.length) : sawE (moreK s k n) = 0 := by
 have hok := sawE_0 he
 have h4 := sawE_s4 he
 have h0 : 0 ≤ s.stock.getD k 0 := by
  rw [List.getD_eq_getElem?_getD, List.getElem?_eq_getElem hk]
  exact (h4 _ (List.getElem_mem hk)).1
 refine sawE_of (hok.more h4 k (by omega)) (fun x hx => sawE_lo he x hx) fun x hx => ?_
 obtain ⟨j, hj, rfl⟩ := List.getElem_of_mem hx
 have e := moreK_get s k n j
 rw [List.getD_eq_getElem?_getD, List.getElem?_eq_getElem hj, Option.getD_some] at e
 have hj' : j < s.stock.length := by rw [more_len] at hj; exact hj
 rw [e]
 have h5 := h4 _ (List.getElem_mem hj')
 have e2 : s.stock.getD j 0 = s.stock[j] := by rw [List.getD_eq_getElem?_getD, List.getElem?_eq_getElem hj']; rfl
 rw [e2]
 split
 ·rename_i hh
  obtain ⟨rfl, _⟩ := hh
  rw [e2] at hn
  omega
 ·omega
theorem kerf_saw {s : Sw} (he : sawE s = 0) {n : Nat} (hn : n ≤ 3) : sawE (kerfK s n) = 0 := sawE_of ((sawE_0 he).kerf hn) (fun x hx => sawE_lo he x hx) (fun x hx => sawE_s4 he x hx)
theorem NdF_run (na : Option Addr) (nc : Nat) (nums : List Int) (L : LH) (hn : IntsAt L na nums) (hgl : GlOk L) (hl2 : nums.length ≤ 140737488355328)
  (hQ : ∀ v L' w, (v = .bool true ∧ Dim L L') → Sub L' w → Same W0 w → Post v w) :
  FGo Tryz.prog Post W0 (G (Frame.enter Tryz.prog 14 [.slice na nums.length nc].toArray .normal) []) L := by
 refine root_enter (n := 146) (s := 2) Tryz.func14 rfl rfl (by kernel_rfl) rfl rfl hQ fun C hX _ hL0 r => ?_
 have drd : ∀ L2, GlOk L2 → Sp C.X 21 [] L2 (fun v L' => v = .bool true ∧ Dim L2 L') := fun L2 h => by rw [hX]; exact cut_sp L2 h
 refine W.go 99 rfl ?_
 refine W.eff rfl rfl rfl (Ef.call rfl (NewHat_sp na nc nums L hn)) ?_
 rintro _ _ _ ⟨_, rfl, rfl, b, rfl, hb, hle1, hh1⟩
 refine W.go 99 rfl ?_
 rename_i L1
 have hb1 := le_but hb hle1
 refine W.eff rfl rfl rfl (Ef.call rfl (SawOf_sp b na nc nums 0 2 4 L1 hh1 (by omega) hl2 (by omega) (by omega) (by omega))) ?_
 rintro _ _ _ ⟨_, rfl, rfl, s, p, m, rfl, ho, hm, hle2, hh2, hsw⟩
 refine W.go 99 rfl ?_
 rename_i L2
 have hok := sawE_0 ho.e
 have hw5 := hok.w5
 have hl1 := hok.l1
 have hl3 := hok.l3
 have hst := hok.st
 rw [wrap64_in _ (by omega) (by omega), show (s.loaves.length : Int) - 1 = ((s.loaves.length - 1 : Nat) : Int) by omega]
 refine W.eff rfl rfl rfl (Ef.call rfl (To_sp b na nc nums m (s.loaves.length - 1) L2 hh2 (by omega) hl2 (by omega))) ?_
 rintro _ _ _ ⟨_, rfl, rfl, ⟨kd, rfl, hkd⟩, hk3, hs3⟩
 rename_i L3
 have f3 : Le (L2.but b) L3 := but_same hk3
 have hsw3 := hsw.le f3
 have hL3 : Le L L3 := hb1.trans ((but_but hle2).trans f3)
 have hki : kd < s.stock.length := by omega
 obtain ⟨sad, hsa⟩ := hsw3.st.addr hki
 obtain ⟨qa, qb, qc, qd, qe, qf⟩ := p
 obtain rfl : qb = some sad := hsa
 clear hk3 hs3 hh2 hh1
 refine W.go 99 rfl ?_
 have hnd := Need_sp (X := C.X) s ⟨qa, some sad, qc, qd, qe, qf⟩ kd L3 hsw3 hok.sm
 have hop : openW s [(kd : Int)] [] = 0 := by rw [openW_k ho.e, if_pos (inB_iff.2 (by omega))]
 obtain ⟨nv, ev, hNE, hiff, hev⟩ : ∃ nv ev : Int, NeedE s kd = (nv, ev) ∧ (∀ m : Nat, m ≤ 4 → (servedW (moreK s kd m) = true ↔ ev = 0 ∧ nv ≤ m)) ∧ ((ev = 0 ∧ 0 ≤ nv ∧ nv ≤ 4) ∨ (ev = 11 ∧ nv = 0)) := by
  have hni := fun m => need_iff hok ho.s4 kd (m := m)
  have hNE : NeedE s kd = match needW s kd with | some n => ((n : Int), 0) | none => (0, 11) := by unfold NeedE; rw [hop]; rfl
  cases hnw : needW s kd with
  | none =>
   rw [hnw] at hNE hni
   exact ⟨0, 11, hNE, fun m hm => by rw [hni m hm]; exact ⟨fun ⟨n, h, _⟩ => (by cases h), fun h => absurd h.1 (by decide)⟩, .inr ⟨rfl, rfl⟩⟩
  | some n =>
   rw [hnw] at hNE hni
   have hn4 : n ≤ 4 := by
    unfold needW at hnw
    rw [List.find?_range_eq_some] at hnw
    have := List.mem_range.1 hnw.2.1
    omega
   exact ⟨n, 0, hNE, fun m hm => by rw [hni m hm]; exact ⟨fun ⟨n', h, h2⟩ => (by cases h; exact ⟨rfl, by omega⟩), fun h => ⟨n, rfl, by have := h.2; omega⟩⟩, .inl ⟨rfl, by omega, by omega⟩⟩
 rw [hNE] at hnd
 refine W.eff rfl rfl rfl (Ef.call rfl (hnd)) ?_
 rintro _ _ _ ⟨_, rfl, rfl, rfl, hl34⟩
 rename_i L4
 have hx : s.stock[kd]? = some (s.stock.getD kd 0) := getD_some hki
 have hb4 : 0 ≤ s.stock.getD kd 0 ∧ s.stock.getD kd 0 ≤ 4 := by
  rw [List.getD_eq_getElem?_getD, List.getElem?_eq_getElem hki]
  exact ho.s4 _ (List.getElem_mem hki)
 have hL4 := hL3.trans hl34
 have hsw4 := hsw3.le hl34
 apply W.cut (fun E B L' => L4 = L' ∧ SubE E [(4, .p 0 0), (5, .v (.int .i64 kd)), (6, .v (.int .i64 nv)), (7, .v (.int .i64 ev)), (8, .v (.int .i64 0))] ∧ PreB B [some ⟨cellsS (.v (swA s ⟨qa, some sad, qc, qd, qe, qf⟩)), 26⟩])
 rotate_left
 ·intro rest
  rcases hev with ⟨rfl, h0, h4⟩ | ⟨rfl, rfl⟩
  ·refine W.go 99 rfl ?_
   refine W.asLit 37 (p := false) rfl rfl ?_
   refine W.go 99 rfl ?_
   refine W.asLit 41 (p := false) rfl rfl ?_
   refine W.go 99 rfl ?_
   refine W.asLit 45 (p := false) rfl (by show some (decide (nv < 0)) = some false; rw [decide_eq_false (by omega)]) ?_
   refine W.go 99 rfl ?_
   refine W.asLit 49 (p := false) rfl (by show some (decide (4 < nv)) = some false; rw [decide_eq_false (by omega)]) ?_
   refine W.go 99 rfl ?_
   refine W.asLit 52 (p := false) rfl rfl ?_
   refine W.go 99 rfl ?_
   exact rest _ _ _ ⟨rfl, by exact ⟨rfl, rfl, rfl, rfl, rfl, trivial⟩, by exact ⟨rfl, trivial⟩⟩
  ·refine W.go 99 rfl ?_
   refine W.asLit 37 (p := true) rfl rfl ?_
   refine W.go 99 rfl ?_
   refine W.asLit 41 (p := false) rfl rfl ?_
   refine W.go 99 rfl ?_
   refine W.asLit 45 (p := false) rfl rfl ?_
   refine W.go 99 rfl ?_
   refine W.asLit 49 (p := false) rfl rfl ?_
   refine W.go 99 rfl ?_
   refine W.asLit 52 (p := true) rfl rfl ?_
   refine W.go 99 rfl ?_
   refine W.split rfl rfl rfl (fun c => absurd c (by decide)) (fun c => ?_)
   refine W.go 99 rfl ?_
   exact rest _ _ _ ⟨rfl, by exact ⟨rfl, rfl, rfl, rfl, rfl, trivial⟩, by exact ⟨rfl, trivial⟩⟩
 rintro E B _ ⟨rfl, hE, hB⟩
 refine W.weak hE hB ?_
 refine W.loop (fun w E B L' => ∃ j : Nat, w = 5 - j ∧ j ≤ 5 ∧ s.stock.getD kd 0 + (j : Int) ≤ 5 ∧ Le L4 L' ∧ E = [(4, .p 0 0), (5, .v (.int .i64 kd)), (6, .v (.int .i64 nv)), (7, .v (.int .i64 ev)), (8, .v (.int .i64 j))] ∧ B = [some ⟨cellsS (.v (swA s ⟨qa, some sad, qc, qd, qe, qf⟩)), 26⟩])
  ⟨0, rfl, by omega, by omega, Le.refl _, rfl, rfl⟩ (by exact ⟨rfl, rfl, rfl, rfl, rfl, trivial⟩) (by exact ⟨rfl, trivial⟩) ?_
 rintro _ _ _ L5 ⟨j, rfl, hj, hjs, hl45, rfl, rfl⟩ again
 refine W.go 99 rfl ?_
 refine W.vf rfl rfl rfl rfl (Vf.idx1 rfl rfl rfl rfl rfl rfl rfl (hki)) ?_
 refine W.go 99 rfl ?_
 refine W.vf rfl rfl rfl rfl (Vf.load rfl rfl rfl ((hsw4.st.le hl45).int hx)) ?_
 refine W.go 99 rfl ?_
 rw [wrap64_in _ (by omega) (by omega)]
 refine W.split rfl rfl rfl (fun e2 => W.go 99 rfl ?_) (fun e2 => W.go 99 rfl ?_)
 ·have hj4 : s.stock.getD kd 0 + (j : Int) ≤ 4 := by simpa using e2
  refine W.eff rfl rfl rfl (Ef.call rfl (rMore_sp s ⟨qa, some sad, qc, qd, qe, qf⟩ kd j L5 (hsw4.le hl45) hok hki (by omega))) ?_
  rintro _ _ _ ⟨_, rfl, rfl, p', rfl, hl56, hsw6⟩
  refine W.go 99 rfl ?_
  rename_i L6
  have hms := more_saw ho.e hj4 hki
  refine W.eff rfl rfl rfl (Ef.call rfl (Fewest_sp (moreK s kd j) p' L6 hsw6 (sawE_0 hms).sm)) ?_
  rintro _ _ _ ⟨v7, rfl, rfl, fa, fc, rfl, hfi, hl67⟩
  rename_i L7
  have hl57 := hl45.trans (hl56.trans hl67)
  have hfe := fewest_err hms
  have hij := hiff j (by omega)
  clear hfi
  generalize FewestE (moreK s kd j) = x at *
  obtain ⟨x1, x2, x3⟩ := x
  dsimp only at hfe ⊢
  cases hs : servedW (moreK s kd j) with
  | true =>
   rw [hs] at hfe
   obtain ⟨rfl, hnj⟩ := hij.1 hs
   obtain rfl : x3 = 0 := hfe
   refine W.go 99 rfl ?_
   refine W.asLit 78 (p := false) rfl rfl ?_
   refine W.go 99 rfl ?_
   refine W.asLit 82 (p := false) rfl rfl ?_
   refine W.go 99 rfl ?_
   refine W.asLit 87 (p := true) rfl rfl ?_
   refine W.go 99 rfl ?_
   refine W.split rfl rfl rfl (fun h => absurd h (by simp; omega)) (fun _ => ?_)
   refine W.go 99 rfl ?_
   exact W.again (again _ _ _ _ (by omega) ⟨j + 1, rfl, by omega, by omega, hl57, rfl, rfl⟩) (by exact ⟨rfl, rfl, rfl, rfl, congrArg some (inc64 (by omega)), trivial⟩) (by exact ⟨rfl, trivial⟩)
  | false =>
   rw [hs] at hfe
   obtain rfl : x3 = 11 := hfe
   rcases hev with ⟨rfl, h0, h4⟩ | ⟨rfl, rfl⟩
   ·have hnj : ¬ nv ≤ j := fun h => by rw [hij.2 ⟨rfl, h⟩] at hs; cases hs
    refine W.go 99 rfl ?_
    refine W.asLit 78 (p := true) rfl rfl ?_
    refine W.go 99 rfl ?_
    refine W.asLit 82 (p := false) rfl rfl ?_
    refine W.go 99 rfl ?_
    refine W.asLit 87 (p := true) rfl rfl ?_
    refine W.go 99 rfl ?_
    refine W.split rfl rfl rfl (fun h => absurd h (by simp; omega)) (fun _ => ?_)
    refine W.go 99 rfl ?_
    exact W.again (again _ _ _ _ (by omega) ⟨j + 1, rfl, by omega, by omega, hl57, rfl, rfl⟩) (by exact ⟨rfl, rfl, rfl, rfl, congrArg some (inc64 (by omega)), trivial⟩) (by exact ⟨rfl, trivial⟩)
   ·refine W.go 99 rfl ?_
    refine W.asLit 78 (p := true) rfl rfl ?_
    refine W.go 99 rfl ?_
    refine W.asLit 82 (p := false) rfl rfl ?_
    refine W.go 99 rfl ?_
    refine W.asLit 87 (p := false) rfl rfl ?_
    refine W.go 99 rfl ?_
    refine W.split rfl rfl rfl (fun c => absurd c (by decide)) (fun c => ?_)
    refine W.go 99 rfl ?_
    exact W.again (again _ _ _ _ (by omega) ⟨j + 1, rfl, by omega, by omega, hl57, rfl, rfl⟩) (by exact ⟨rfl, rfl, rfl, rfl, congrArg some (inc64 (by omega)), trivial⟩) (by exact ⟨rfl, trivial⟩)
 clear again
 have hL5 := hL4.trans hl45
 have hsw5 := hsw4.le hl45
 obtain ⟨kv, ke, hKE, hkiff, hkev⟩ : ∃ kv ke : Int, KerfE s = (kv, ke) ∧ (∀ m : Nat, m ≤ 3 → (servedW (kerfK s m) = true ↔ ke = 0 ∧ (m : Int) ≤ kv)) ∧ ((ke = 0 ∧ 0 ≤ kv ∧ kv ≤ 3) ∨ (ke = 11 ∧ kv = 0)) := by
  have hni := fun m => kerf_iff hok (m := m)
  have hNE : KerfE s = match kerfW s with | some n => ((n : Int), 0) | none => (0, 11) := by unfold KerfE; rw [if_neg (by simp [ho.e])]; rfl
  cases hnw : kerfW s with
  | none =>
   rw [hnw] at hNE hni
   exact ⟨0, 11, hNE, fun m hm => by rw [hni m hm]; exact ⟨fun ⟨n, h, _⟩ => (by cases h), fun h => absurd h.1 (by decide)⟩, .inr ⟨rfl, rfl⟩⟩
  | some n =>
   rw [hnw] at hNE hni
   have hn3 : n ≤ 3 := by
    have e : kerfW s = [3, 2, 1, 0].find? fun n => servedW (kerfK s n) := rfl
    rw [e] at hnw
    have := List.mem_of_find?_eq_some hnw
    simp at this
    omega
   exact ⟨n, 0, hNE, fun m hm => by rw [hni m hm]; exact ⟨fun ⟨n', h, h2⟩ => (by cases h; exact ⟨rfl, by omega⟩), fun h => ⟨n, rfl, by have := h.2; omega⟩⟩, .inl ⟨rfl, by omega, by omega⟩⟩
 have hkf := Kerf_sp (X := C.X) s ⟨qa, some sad, qc, qd, qe, qf⟩ L5 hsw5 hok.sm
 rw [hKE] at hkf
 refine W.eff rfl rfl rfl (Ef.call rfl (hkf)) ?_
 rintro _ _ _ ⟨_, rfl, rfl, rfl, hl58⟩
 rename_i L8
 have hL8 := hL5.trans hl58
 have hsw8 := hsw5.le hl58
 apply W.cut (fun E B L' => L8 = L' ∧ SubE E [(4, .p 0 0), (12, .v (.int .i64 kv)), (13, .v (.int .i64 ke)), (14, .v (.int .i64 0))] ∧ PreB B [some ⟨cellsS (.v (swA s ⟨qa, some sad, qc, qd, qe, qf⟩)), 26⟩])
 rotate_left
 ·intro rest
  rcases hkev with ⟨rfl, h0, h4⟩ | ⟨rfl, rfl⟩
  ·refine W.go 99 rfl ?_
   refine W.asLit 101 (p := false) rfl rfl ?_
   refine W.go 99 rfl ?_
   refine W.asLit 105 (p := false) rfl rfl ?_
   refine W.go 99 rfl ?_
   refine W.asLit 108 (p := false) rfl rfl ?_
   refine W.go 99 rfl ?_
   exact rest _ _ _ ⟨rfl, by exact ⟨rfl, rfl, rfl, rfl, trivial⟩, by exact ⟨rfl, trivial⟩⟩
  ·refine W.go 99 rfl ?_
   refine W.asLit 101 (p := true) rfl rfl ?_
   refine W.go 99 rfl ?_
   refine W.asLit 105 (p := false) rfl rfl ?_
   refine W.go 99 rfl ?_
   refine W.asLit 108 (p := true) rfl rfl ?_
   refine W.go 99 rfl ?_
   refine W.split rfl rfl rfl (fun c => absurd c (by decide)) (fun c => ?_)
   refine W.go 99 rfl ?_
   exact rest _ _ _ ⟨rfl, by exact ⟨rfl, rfl, rfl, rfl, trivial⟩, by exact ⟨rfl, trivial⟩⟩
 rintro E B _ ⟨rfl, hE, hB⟩
 refine W.weak hE hB ?_
 refine W.loop (fun w E B L' => ∃ j : Nat, w = 4 - j ∧ j ≤ 4 ∧ Le L8 L' ∧ E = [(4, .p 0 0), (12, .v (.int .i64 kv)), (13, .v (.int .i64 ke)), (14, .v (.int .i64 j))] ∧ B = [some ⟨cellsS (.v (swA s ⟨qa, some sad, qc, qd, qe, qf⟩)), 26⟩])
  ⟨0, rfl, by omega, Le.refl _, rfl, rfl⟩ (by exact ⟨rfl, rfl, rfl, rfl, trivial⟩) (by exact ⟨rfl, trivial⟩) ?_
 rintro _ _ _ L9 ⟨j, rfl, hj, hl89, rfl, rfl⟩ again
 refine W.go 99 rfl ?_
 refine W.split rfl rfl rfl (fun e2 => W.go 99 rfl ?_) (fun e2 => W.go 99 rfl ?_)
 ·have hj3 : j ≤ 3 := by have : (j : Int) ≤ 3 := (by simpa using e2); omega
  refine W.eff rfl rfl rfl (Ef.call rfl (DupSaw_sp s ⟨qa, some sad, qc, qd, qe, qf⟩ L9 (hsw8.le hl89) hok.sm)) ?_
  rintro _ _ _ ⟨v9, rfl, rfl, p9, I9, hd9⟩
  rename_i L10
  obtain ⟨hsw10, hl910⟩ := hd9.at_
  have hv9 := hd9.v
  subst hv9
  refine W.go 99 rfl ?_
  have hms := kerf_saw ho.e hj3
  refine W.eff rfl rfl rfl (Ef.call rfl (Fewest_sp (kerfK s j) p9 L10 (hsw10.kerf j) (sawE_0 hms).sm)) ?_
  rintro _ _ _ ⟨v7, rfl, rfl, fa, fc, rfl, hfi, hl67⟩
  rename_i L11
  have hl811 := hl89.trans (hl910.trans hl67)
  have hfe := fewest_err hms
  have hij := hkiff j (by omega)
  clear hfi
  generalize FewestE (kerfK s j) = x at *
  obtain ⟨x1, x2, x3⟩ := x
  dsimp only at hfe ⊢
  cases hs : servedW (kerfK s j) with
  | true =>
   rw [hs] at hfe
   obtain ⟨rfl, hnj⟩ := hij.1 hs
   obtain rfl : x3 = 0 := hfe
   refine W.go 99 rfl ?_
   refine W.asLit 129 (p := false) rfl rfl ?_
   refine W.go 99 rfl ?_
   refine W.asLit 133 (p := false) rfl rfl ?_
   refine W.go 99 rfl ?_
   refine W.asLit 138 (p := true) rfl rfl ?_
   refine W.go 99 rfl ?_
   refine W.split rfl rfl rfl (fun h => absurd h (by simp; omega)) (fun _ => ?_)
   refine W.go 99 rfl ?_
   exact W.again (again _ _ _ _ (by omega) ⟨j + 1, rfl, by omega, hl811, rfl, rfl⟩) (by exact ⟨rfl, rfl, rfl, congrArg some (inc64 (by omega)), trivial⟩) (by exact ⟨rfl, trivial⟩)
  | false =>
   rw [hs] at hfe
   obtain rfl : x3 = 11 := hfe
   rcases hkev with ⟨rfl, h0, h4⟩ | ⟨rfl, rfl⟩
   ·have hnj : ¬ (j : Int) ≤ kv := fun h => by rw [hij.2 ⟨rfl, h⟩] at hs; cases hs
    refine W.go 99 rfl ?_
    refine W.asLit 129 (p := true) rfl rfl ?_
    refine W.go 99 rfl ?_
    refine W.asLit 133 (p := false) rfl rfl ?_
    refine W.go 99 rfl ?_
    refine W.asLit 138 (p := true) rfl rfl ?_
    refine W.go 99 rfl ?_
    refine W.split rfl rfl rfl (fun h => absurd h (by simp; omega)) (fun _ => ?_)
    refine W.go 99 rfl ?_
    exact W.again (again _ _ _ _ (by omega) ⟨j + 1, rfl, by omega, hl811, rfl, rfl⟩) (by exact ⟨rfl, rfl, rfl, congrArg some (inc64 (by omega)), trivial⟩) (by exact ⟨rfl, trivial⟩)
   ·refine W.go 99 rfl ?_
    refine W.asLit 129 (p := true) rfl rfl ?_
    refine W.go 99 rfl ?_
    refine W.asLit 133 (p := false) rfl rfl ?_
    refine W.go 99 rfl ?_
    refine W.asLit 138 (p := false) rfl rfl ?_
    refine W.go 99 rfl ?_
    refine W.split rfl rfl rfl (fun c => absurd c (by decide)) (fun c => ?_)
    refine W.go 99 rfl ?_
    exact W.again (again _ _ _ _ (by omega) ⟨j + 1, rfl, by omega, hl811, rfl, rfl⟩) (by exact ⟨rfl, rfl, rfl, congrArg some (inc64 (by omega)), trivial⟩) (by exact ⟨rfl, trivial⟩)
 refine W.eff rfl rfl rfl (Ef.call rfl (drd L9 (hgl.le (hL8.trans hl89)))) ?_
 rintro _ _ _ ⟨_, rfl, rfl, rfl, hdm⟩
 refine W.go 99 rfl ?_
 exact W.retO r rfl ⟨rfl, (Dim.of_le (hL8.trans hl89)).trans hdm⟩
end Go.Mz

