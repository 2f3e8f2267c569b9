/- Lemmas on which the claim leans. -/
import Derived.Test.YtfnjganjlkoehaaGreatDoorMzLa
set_option maxRecDepth 100000
namespace Go.Mz
open Go.Conc Go.Proofs
variable {X : Logic Tryz.prog}
def mostW (s : Sw) (l : List (List Nat)) : Int := l.foldl (fun n w => max n (payW s w)) 0
theorem mostW_snoc (s : Sw) (l : List (List Nat)) (w : List Nat) : mostW s (l ++ [w]) = max (mostW s l) (payW s w) := by unfold mostW; rw [List.foldl_append]; rfl
def LsOk (s : Sw) (l : List (List Nat)) : Prop := l.length ≤ 32 ∧ ∀ w ∈ l, WnOk s w ∧ w.length ≤ 5
def coW (s : Sw) (w : List Nat) : Int := ((crushW s w).map (·.c)).getD (-1)
def ltIx (s : Sw) (l : List (List Nat)) (a b : Nat) : Bool := decide (coW s (l.getD a []) < coW s (l.getD b []))
def bestIx (s : Sw) (l : List (List Nat)) (j : Nat) : Option Nat := firstBy (ltIx s l) ((List.range j).filter fun i => decide (mostW s l ≤ payW s (l.getD i [])))
def BixV (s : Sw) (l : List (List Nat)) (o : Option Nat) (v8 v9 : Int) : Prop := match o with
 | none => v8 = -1 ∧ v9 = 0
 | some i => v8 = i ∧ v9 = coW s (l.getD i []) ∧ i < l.length
theorem snoc_ind {α : Type} {P : List α → Prop} (h0 : P []) (h1 : ∀ l x, P l → P (l ++ [x])) (l : List α) : P l := by
 generalize hn : l.length = n
 induction n generalizing l with
 | zero => rw [List.length_eq_zero_iff] at hn; subst hn; exact h0
 | succ n ih =>
  have hne : l ≠ [] := fun e => by subst e; simp at hn
  rw [← List.dropLast_concat_getLast hne]
  exact h1 _ _ (ih _ (by simp; omega))
theorem firstBy_min {α : Type} {lt : α → α → Bool} (ht : ∀ a b c, lt a b = true → lt b c = true → lt a c = true) (hi : ∀ a, lt a a = false) : ∀ (l : List α) (x : α), firstBy lt l = some x → x ∈ l ∧ ∀ y ∈ l, lt y x = false := by
 intro l
 induction l using snoc_ind with
 | h0 => intro x h; cases h
 | h1 l z ih =>
  intro x h
  rw [firstBy_snoc] at h
  cases ho : firstBy lt l with
  | none =>
   rw [ho] at h
   cases h
   have hl : l = [] := by
    cases l with
    | nil => rfl
    | cons y l =>
     exfalso
     have : ∀ (l : List α) (y : α), ∃ w, l.foldl (takeBy lt) (some y) = some w := fun l => by
      induction l with
      | nil => intro y; exact ⟨y, rfl⟩
      | cons u l ih =>
       intro y
       rw [List.foldl_cons]
       show ∃ w, l.foldl _ (if lt u y then some u else some y) = some w
       split
       ·exact ih u
       ·exact ih y
     obtain ⟨w, hw⟩ := this l y
     unfold firstBy at ho
     rw [List.foldl_cons] at ho
     exact absurd (hw.symm.trans ho) (by simp)
   subst hl
   exact ⟨by simp, fun y hy => by simp at hy; rw [hy]; exact hi _⟩
  | some b =>
   rw [ho] at h
   obtain ⟨h1, h2⟩ := ih b ho
   change (if lt z b then some z else some b) = some x at h
   by_cases e : lt z b = true
   ·rw [if_pos e] at h
    cases h
    refine ⟨by simp, fun y hy => ?_⟩
    rcases List.mem_append.1 hy with hy | hy
    ·have h3 := h2 y hy
     cases h4 : lt y z with
     | false => rfl
     | true => rw [ht _ _ _ h4 e] at h3; cases h3
    ·rw [List.mem_singleton.1 hy]; exact hi _
   ·rw [if_neg e] at h
    cases h
    refine ⟨by simp [h1], fun y hy => ?_⟩
    rcases List.mem_append.1 hy with hy | hy
    ·exact h2 y hy
    ·rw [List.mem_singleton.1 hy]; simpa using e
theorem served_iff {s : Sw} {w : List Nat} : w ∈ servedL s ↔ w ∈ picksW s.wants.length s.wants.length ∧ ∃ c, crushW s w = some c := by
 unfold servedL
 rw [List.mem_filter]
 unfold srvB
 rw [Option.isSome_iff_exists]
theorem mostW_le (s : Sw) (l : List (List Nat)) : ∀ w ∈ l, payW s w ≤ mostW s l := by
 induction l using snoc_ind with
 | h0 => intro w h; cases h
 | h1 l z ih =>
  intro w hw
  rw [mostW_snoc]
  rcases List.mem_append.1 hw with hw | hw
  ·have := ih w hw; omega
  ·rw [List.mem_singleton.1 hw]; omega
theorem mostW_mem {s : Sw} (hok : SOk s) (l : List (List Nat)) (hne : l ≠ []) : ∃ w ∈ l, payW s w = mostW s l := by
 induction l using snoc_ind with
 | h0 => exact absurd rfl hne
 | h1 l z ih =>
  rw [mostW_snoc]
  by_cases h : mostW s l ≤ payW s z
  ·exact ⟨z, by simp, by omega⟩
  ·by_cases hl : l = []
   ·subst hl
    have := (pay_bd hok z).1
    have h0 : mostW s [] = 0 := rfl
    omega
   ·obtain ⟨w, h1, h2⟩ := ih hl
    exact ⟨w, by simp [h1], by omega⟩
theorem firstBy_some {α : Type} {lt : α → α → Bool} {l : List α} (h : l ≠ []) : ∃ x, firstBy lt l = some x := by
 cases hb : firstBy lt l with
 | some x => exact ⟨x, rfl⟩
 | none =>
  exfalso
  have : ∀ (l : List α) (o : Option α), l.foldl (takeBy lt) o = none → l = [] ∧ o = none := fun l => by
   induction l with
   | nil => intro o h; exact ⟨rfl, h⟩
   | cons x l ih =>
    intro o h
    rw [List.foldl_cons] at h
    have := (ih _ h).2
    cases o with
    | none => cases this
    | some y =>
     change (if lt x y then some x else some y) = none at this
     split at this <;> cases this
  exact h (this _ _ hb).1
theorem zeros_mem : ∀ {st : List Int}, (∀ x ∈ st, 0 ≤ x ∧ x ≤ 8) → List.replicate st.length 0 ∈ listsW st
 | [], _ => by simp [listsW]
 | m :: t, h => by
  have hm := h m List.mem_cons_self
  rw [listsW, List.mem_flatMap]
  exact ⟨0, List.mem_range.2 (by omega), List.mem_map.2 ⟨_, zeros_mem fun x hx => h x (List.mem_cons_of_mem _ hx), rfl⟩⟩
theorem crush_nil {s : Sw} (hok : SOk s) : ∃ c, crushW s [] = some c := by
 refine firstBy_some ?_
 rw [plansW_doc hok]
 intro h
 rw [List.map_eq_nil_iff, List.filter_eq_nil_iff] at h
 refine h _ (zeros_mem hok.sr) ?_
 unfold okW
 rw [beq_iff_eq, right_eq hok]
 have hw : wantsOf s [] = [] := rfl
 have hg : ∀ k, (List.replicate s.stock.length (0 : Int)).getD k 0 = 0 := fun k => by
  rw [List.getD_eq_getElem?_getD, List.getElem?_replicate]
  split <;> rfl
 have h1 : (List.range s.loaves.length).any (fun k => decide (s.stock.getD k 0 < tkN (wantsOf s []) k + (List.replicate s.stock.length (0 : Int)).getD k 0)) = false := by
  rw [List.any_eq_false]
  intro k hk
  have hk := List.mem_range.1 hk
  have hst := hok.st
  have := hok.sr (s.stock.getD k 0) (by rw [List.getD_eq_getElem?_getD, List.getElem?_eq_getElem (by omega)]; exact List.getElem_mem _)
  rw [hg, hw]
  simp only [decide_eq_true_eq]
  have : tkN [] k = 0 := rfl
  omega
 have h2 : (List.range s.loaves.length).any (fun k => decide ((List.replicate s.stock.length (0 : Int)).getD k 0 * sumL (s.loaves.getD k []) + suN s (wantsOf s []) k < tksN k (wantsOf s []))) = false := by
  rw [List.any_eq_false]
  intro k _
  rw [hg, hw, Int.zero_mul]
  simp [suN, tksN, sumL]
 have h3 : ¬ sumL (sugarD s (wantsOf s []) (List.replicate s.stock.length 0)) < tksN (-1) (wantsOf s []) := by
  have := (sumL_bk 4000 _ (sugarD_bd hok (wantsOf s []) (l := List.replicate s.stock.length 0) (fun k => by rw [hg]; decide) (by simp [hw]))).1
  have h0 : tksN (-1) (wantsOf s []) = 0 := rfl
  omega
 rw [h1, h2, if_neg (by decide), if_neg (by decide), if_neg h3]
theorem nil_picks (n d : Nat) : [] ∈ picksW n d := by rw [picksW_eq]; exact List.mem_cons_self
theorem served_ne {s : Sw} (hok : SOk s) : servedL s ≠ [] := fun h => by
 have : [] ∈ servedL s := served_iff.2 ⟨nil_picks _ _, crush_nil hok⟩
 rw [h] at this; cases this
def ListN (x : List Nat × Int × Int) (L : LH) (v : Value) (L' : LH) : Prop := ∃ ad cap, v = .tuple #[.slice ad x.1.length cap, .int .i64 x.2.1, .int .i64 x.2.2] ∧ IntsAt L' ad (natI x.1) ∧ Le L L'
end Go.Mz


namespace Go.Mz
open Go
theorem okW_iff {s : Sw} (hok : SOk s) {w : List Nat} {l : List Int} : okW s w l = true ↔
  (∀ k, k < s.loaves.length → tkN (wantsOf s w) k + l.getD k 0 ≤ s.stock.getD k 0) ∧ (∀ k, k < s.loaves.length → tksN k (wantsOf s w) ≤ l.getD k 0 * sumL (s.loaves.getD k []) + suN s (wantsOf s w) k) ∧ tksN (-1) (wantsOf s w) ≤ sumL (sugarD s (wantsOf s w) l) := by
 unfold okW
 rw [right_eq hok]
 constructor
 ·intro h
  split at h
  ·simp at h
  ·rename_i h1
   split at h
   ·simp at h
   ·rename_i h2
    split at h
    ·simp at h
    ·rename_i h3
     simp only [List.any_eq_true, List.mem_range, decide_eq_true_eq, not_exists, not_and, Int.not_lt] at h1 h2 h3
     exact ⟨fun k hk => h1 k hk, fun k hk => h2 k hk, h3⟩
 ·rintro ⟨h1, h2, h3⟩
  rw [if_neg, if_neg, if_neg (by omega)]; · rfl
  ·simp only [List.any_eq_true, List.mem_range, decide_eq_true_eq, not_exists, not_and, Int.not_lt]
   exact h2
  ·simp only [List.any_eq_true, List.mem_range, decide_eq_true_eq, not_exists, not_and, Int.not_lt]
   exact h1
theorem sum_map_le {n : Nat} {f g : Nat → Int} (h : ∀ k, k < n → f k ≤ g k) : sumL ((List.range n).map f) ≤ sumL ((List.range n).map g) := by
 induction n with
 | zero => exact Int.le_refl _
 | succ n ih =>
  rw [List.range_succ, List.map_append, List.map_append, sumL_append, sumL_append]
  have := ih fun k hk => h k (by omega)
  have := h n (by omega)
  simp only [List.map_cons, List.map_nil, sumL_cons, sumL_nil]; omega
theorem mem_lists : ∀ {st l : List Int}, l.length = st.length → (∀ k, k < st.length → 0 ≤ l.getD k 0 ∧ l.getD k 0 ≤ st.getD k 0) → l ∈ listsW st
 | [], l, hl, _ => by
  have : l = [] := List.length_eq_zero_iff.1 hl
  subst this
  simp [listsW]
 | m :: st, l, hl, h => by
  obtain ⟨x, t, rfl⟩ : ∃ x t, l = x :: t := by
   cases l with
   | nil => simp at hl
   | cons x t => exact ⟨x, t, rfl⟩
  have h0 := h 0 (by simp)
  simp at h0
  rw [listsW, List.mem_flatMap]
  refine ⟨x.toNat, List.mem_range.2 (by omega), ?_⟩
  rw [show ((x.toNat : Nat) : Int) = x by omega]
  refine List.mem_map.2 ⟨t, mem_lists (by simpa using hl) fun k hk => ?_, rfl⟩
  have := h (k + 1) (by simp; omega)
  simpa using this
theorem plans_iff {s : Sw} (hok : SOk s) {w : List Nat} {l : List Int} : l ∈ plansW s w ↔ l ∈ listsW s.stock ∧ okW s w l = true := by
 rw [plansW_doc hok, List.mem_filter]
theorem ltCr_trans (a b c : Cr) (h1 : ltCr a b = true) (h2 : ltCr b c = true) : ltCr a c = true := by
 unfold ltCr at *
 simp at *
 omega
theorem ltCr_irr (a : Cr) : ltCr a a = false := by unfold ltCr; simp
theorem crush_min {s : Sw} {w : List Nat} {c : Cr} (h : crushW s w = some c) : (∃ l ∈ plansW s w, c = crOf s w l) ∧ ∀ l ∈ plansW s w, ltCr (crOf s w l) c = false := by
 obtain ⟨h1, h2⟩ := firstBy_min ltCr_trans ltCr_irr _ _ h
 obtain ⟨l, hl, he⟩ := List.mem_map.1 h1
 exact ⟨⟨l, hl, he.symm⟩, fun l hl => h2 _ (List.mem_map.2 ⟨l, hl, rfl⟩)⟩
theorem crush_le {s : Sw} {w : List Nat} {l : List Int} (hl : l ∈ plansW s w) : ∃ c, crushW s w = some c ∧ c.c ≤ sumL (planW s w l).t := by
 obtain ⟨c, hc⟩ := firstBy_some (lt := ltCr) (l := (plansW s w).map (crOf s w)) (fun h => by
  have h1 := List.mem_map.2 ⟨l, hl, (rfl : crOf s w l = crOf s w l)⟩
  rw [h] at h1; cases h1)
 have hc' : crushW s w = some c := hc
 refine ⟨c, hc', ?_⟩
 have h2 := (crush_min hc').2 l hl
 unfold ltCr at h2
 rw [Bool.or_eq_false_iff, decide_eq_false_iff_not] at h2
 have h3 := h2.1
 have h4 : (crOf s w l).c = sumL (planW s w l).t := rfl
 omega
theorem crush_no {s : Sw} {w : List Nat} : crushW s w = none ↔ plansW s w = [] := by
 constructor
 ·intro h
  cases hp : plansW s w with
  | nil => rfl
  | cons l t =>
   obtain ⟨c, hc, _⟩ := crush_le (s := s) (w := w) (l := l) (by rw [hp]; exact List.mem_cons_self)
   rw [hc] at h; cases h
 ·intro h; unfold crushW; rw [h]; rfl
theorem tksN_app (k : Int) (a b : List Want) : tksN k (a ++ b) = tksN k a + tksN k b := by unfold tksN; rw [List.filter_append, List.map_append, sumL_append]
theorem tksN_cons (k : Int) (x : Want) (xs : List Want) : tksN k (x :: xs) = tksN k xs + if isTks k x then x.amount else 0 := by
 rw [show x :: xs = [x] ++ xs from rfl, tksN_app]
 unfold tksN
 by_cases h : isTks k x <;> simp [List.filter_cons, h, sumL] <;> omega
end Go.Mz


namespace Go.Mz
open Go
structure OkX (s : Sw) (xs : List Want) (l : List Int) : Prop where
 a : ∀ k, k < s.loaves.length → tkN xs k + l.getD k 0 ≤ s.stock.getD k 0
 b : ∀ k, k < s.loaves.length → tksN k xs ≤ l.getD k 0 * sumL (s.loaves.getD k []) + suN s xs k
 c : tksN (-1) xs ≤ sumL (sugarD s xs l)
theorem okX_iff {s : Sw} (hok : SOk s) {w : List Nat} {l : List Int} : okW s w l = true ↔ OkX s (wantsOf s w) l := by
 rw [okW_iff hok]
 exact ⟨fun ⟨h1, h2, h3⟩ => ⟨h1, h2, h3⟩, fun h => ⟨h.a, h.b, h.c⟩⟩
theorem cones_eq {s : Sw} (hok : SOk s) (w : List Nat) (l : List Int) : sumL (planW s w l).t = sumL ((List.range s.loaves.length).map fun k => tkN (wantsOf s w) k + l.getD k 0) := by
 rw [planW_eq hok, sum3]
 have h1 := hok.l1
 have h3 := hok.l3
 have far : ∀ k, s.loaves.length ≤ k → tkN (wantsOf s w) k = 0 := fun k hk => by
  unfold tkN
  rw [show List.countP (isTk k) (wantsOf s w) = 0 from List.countP_eq_zero.2 fun x hx => by
   have := (wants_mem hok hx).k1
   unfold isTk
   simp
   omega]
  rfl
 have : s.loaves.length = 1 ∨ s.loaves.length = 2 ∨ s.loaves.length = 3 := by omega
 rcases this with e | e | e
 ·rw [e]
  simp [List.range_succ, lfN, e, far 1 (by omega), far 2 (by omega), sumL]
 ·rw [e]
  simp [List.range_succ, lfN, e, far 2 (by omega), sumL]
 ·rw [e]
  simp [List.range_succ, lfN, e, sumL]
theorem plan_in {s : Sw} (hok : SOk s) {w : List Nat} {l : List Int} (hl : l.length = s.stock.length) (h0 : ∀ k, k < s.stock.length → 0 ≤ l.getD k 0) (h : OkX s (wantsOf s w) l) : l ∈ plansW s w := by
 refine (plans_iff hok).2 ⟨mem_lists hl fun k hk => ⟨h0 k hk, ?_⟩, (okX_iff hok).2 h⟩
 have := h.a k (by have := hok.st; omega)
 have := (tkN_bd (wantsOf s w) k).1
 omega
theorem plan_out {s : Sw} (hok : SOk s) {w : List Nat} {l : List Int} (h : l ∈ plansW s w) : l.length = s.stock.length ∧ (∀ k, 0 ≤ l.getD k 0) ∧ OkX s (wantsOf s w) l := by
 obtain ⟨h1, h2⟩ := (plans_iff hok).1 h
 obtain ⟨h3, h4⟩ := listsW_mem h1
 exact ⟨h3, fun k => (h4 k).1, (okX_iff hok).1 h2⟩
theorem served_by {s s' : Sw} (hok : SOk s) (hok' : SOk s') {w w' : List Nat} {c : Cr} (hc : crushW s w = some c)
  (H : ∀ l : List Int, l.length = s.stock.length → (∀ k, 0 ≤ l.getD k 0) → OkX s (wantsOf s w) l → ∃ l' : List Int, l'.length = s'.stock.length ∧ (∀ k, k < s'.stock.length → 0 ≤ l'.getD k 0) ∧ OkX s' (wantsOf s' w') l' ∧ sumL ((List.range s'.loaves.length).map fun k => tkN (wantsOf s' w') k + l'.getD k 0) ≤ sumL ((List.range s.loaves.length).map fun k => tkN (wantsOf s w) k + l.getD k 0)) :
  ∃ c', crushW s' w' = some c' ∧ c'.c ≤ c.c := by
 obtain ⟨⟨l, hl, rfl⟩, _⟩ := crush_min hc
 obtain ⟨h1, h2, h3⟩ := plan_out hok hl
 obtain ⟨l', g1, g2, g3, g4⟩ := H l h1 h2 h3
 obtain ⟨c', hc', hle⟩ := crush_le (plan_in hok' g1 g2 g3)
 refine ⟨c', hc', ?_⟩
 rw [cones_eq hok'] at hle
 show c'.c ≤ sumL (planW s w l).t
 rw [cones_eq hok]
 omega
theorem wantsOf_app (s : Sw) (a b : List Nat) : wantsOf s (a ++ b) = wantsOf s a ++ wantsOf s b := by unfold wantsOf; rw [List.filterMap_append]
end Go.Mz


namespace Go.Mz
open Go
def strip (x : Want) : Want := { x with pay := 0 }
structure Better (s s' : Sw) : Prop where
 lo : s'.loaves = s.loaves
 sl : s'.stock.length = s.stock.length
 st : ∀ k, s.stock.getD k 0 ≤ s'.stock.getD k 0
 ke : s'.kerf ≤ s.kerf
 wt : s'.wants.map strip = s.wants.map strip
 py : ∀ (i : Nat) (x y : Want), s.wants[i]? = some x → s'.wants[i]? = some y → x.pay ≤ y.pay
theorem Better.wl {s s' : Sw} (h : Better s s') : s'.wants.length = s.wants.length := by
 have := congrArg List.length h.wt
 simpa using this
theorem wants_strip (s : Sw) (w : List Nat) : (wantsOf s w).map strip = w.filterMap ((s.wants.map strip)[·]?) := by
 unfold wantsOf
 rw [List.map_filterMap]
 congr 1
 funext i
 rw [List.getElem?_map]
theorem tkN_strip (xs : List Want) (k : Nat) : tkN (xs.map strip) k = tkN xs k := by
 unfold tkN
 rw [List.countP_map]
 rfl
theorem tksN_strip (k : Int) (xs : List Want) : tksN k (xs.map strip) = tksN k xs := by
 unfold tksN
 rw [List.filter_map, List.map_map]
 rfl
theorem suN_strip (s : Sw) (xs : List Want) (k : Nat) : suN s (xs.map strip) k = suN s xs k := by
 unfold suN
 rw [List.filter_map, List.map_map]
 rfl
theorem suN_le {s s' : Sw} (h : ∀ x, restW s x ≤ restW s' x) (xs : List Want) (k : Nat) : suN s xs k ≤ suN s' xs k := by
 induction xs with
 | nil => exact Int.le_refl _
 | cons x xs ih => rw [suN_cons, suN_cons]; have := h x; split <;> omega
theorem Better.rest {s s' : Sw} (h : Better s s') (x : Want) : restW s x ≤ restW s' x := by
 unfold restW loafAt
 rw [h.lo]
 have := h.ke
 omega
theorem Better.ok {s s' : Sw} (h : Better s s') {w : List Nat} {l : List Int} (ho : OkX s (wantsOf s w) l) : OkX s' (wantsOf s' w) l := by
 have e : (wantsOf s' w).map strip = (wantsOf s w).map strip := by rw [wants_strip, wants_strip, h.wt]
 have e1 : ∀ k, tkN (wantsOf s' w) k = tkN (wantsOf s w) k := fun k => by rw [← tkN_strip, e, tkN_strip]
 have e2 : ∀ k, tksN k (wantsOf s' w) = tksN k (wantsOf s w) := fun k => by rw [← tksN_strip, e, tksN_strip]
 have e3 : ∀ k, suN s (wantsOf s w) k ≤ suN s' (wantsOf s' w) k := fun k => by
  rw [← suN_strip s' (wantsOf s' w), e, suN_strip]
  exact suN_le h.rest _ k
 refine ⟨fun k hk => ?_, fun k hk => ?_, ?_⟩
 ·rw [e1]; have := ho.a k (by rw [← h.lo]; exact hk); have := h.st k; omega
 ·rw [e2, h.lo]; have := ho.b k (by rw [← h.lo]; exact hk); have := e3 k; omega
 ·rw [e2]
  have h1 := ho.c
  have : sumL (sugarD s (wantsOf s w) l) ≤ sumL (sugarD s' (wantsOf s' w) l) := by
   unfold sugarD
   rw [h.lo]
   exact sum_map_le fun k _ => by have := e3 k; omega
  omega
theorem Better.tk {s s' : Sw} (h : Better s s') (w : List Nat) (k : Nat) : tkN (wantsOf s' w) k = tkN (wantsOf s w) k := by
 rw [← tkN_strip, wants_strip, h.wt, ← wants_strip, tkN_strip]
theorem Better.crush {s s' : Sw} (hok : SOk s) (hok' : SOk s') (h : Better s s') {w : List Nat} {c : Cr} (hc : crushW s w = some c) : ∃ c', crushW s' w = some c' ∧ c'.c ≤ c.c :=
 served_by hok hok' hc fun l hl h0 ho => ⟨l, by rw [hl, h.sl], fun k _ => h0 k, h.ok ho, by rw [h.lo]; exact sum_map_le fun k _ => by rw [h.tk]; exact Int.le_refl _⟩
theorem Better.pay {s s' : Sw} (h : Better s s') : ∀ w : List Nat, payW s w ≤ payW s' w
 | [] => Int.le_refl _
 | i :: w => by
  have ih := Better.pay h w
  have e : ∀ s : Sw, payW s (i :: w) = payW s [i] + payW s w := fun s => by
   unfold payW
   rw [show i :: w = [i] ++ w from rfl, wantsOf_app, List.map_append, sumL_append]
  rw [e s, e s']
  have h1 : payW s [i] ≤ payW s' [i] := by
   have hl := h.wl
   have p1 : ∀ s : Sw, payW s [i] = match s.wants[i]? with | some x => x.pay | none => 0 := fun s => by
    unfold payW wantsOf
    rw [List.filterMap_cons]
    cases s.wants[i]? <;> simp [sumL]
   rw [p1, p1]
   cases e1 : s.wants[i]? with
   | none =>
    rw [List.getElem?_eq_none_iff] at e1
    rw [List.getElem?_eq_none (by omega)]
    exact Int.le_refl _
   | some x =>
    have hi := (List.getElem?_eq_some_iff.1 e1).1
    rw [List.getElem?_eq_getElem (show i < s'.wants.length by omega)]
    exact h.py i x _ e1 (List.getElem?_eq_getElem _)
  omega
theorem Better.most {s s' : Sw} (hok : SOk s) (hok' : SOk s') (h : Better s s') : mostW s (servedL s) ≤ mostW s' (servedL s') := by
 obtain ⟨w, hw, hp⟩ := mostW_mem hok (servedL s) (served_ne hok)
 obtain ⟨h1, c, hc⟩ := served_iff.1 hw
 obtain ⟨c', hc', _⟩ := h.crush hok hok' hc
 have hw' : w ∈ servedL s' := served_iff.2 ⟨by rw [h.wl]; exact h1, c', hc'⟩
 have := mostW_le s' (servedL s') w hw'
 have := h.pay w
 omega
theorem servedW_iff {s : Sw} : servedW s = true ↔ ∃ c, crushW s (fullW s) = some c := by
 unfold servedW
 cases e : crushW s (fullW s) with
 | none => rw [crush_no.1 e]; simp
 | some c =>
  refine ⟨fun _ => ⟨c, rfl⟩, fun _ => ?_⟩
  cases h : plansW s (fullW s) with
  | nil => rw [crush_no.2 h] at e; cases e
  | cons => rfl
theorem Better.served {s s' : Sw} (hok : SOk s) (hok' : SOk s') (h : Better s s') (hs : servedW s = true) : servedW s' = true := by
 obtain ⟨c, hc⟩ := servedW_iff.1 hs
 obtain ⟨c', hc', _⟩ := h.crush hok hok' hc
 refine servedW_iff.2 ⟨c', ?_⟩
 rw [show fullW s' = fullW s by unfold fullW; rw [h.wl]]
 exact hc'
theorem moreK_get (s : Sw) (k n j : Nat) : (moreK s k n).stock.getD j 0 = s.stock.getD j 0 + if j = k ∧ k < s.stock.length then (n : Int) else 0 := by
 show (s.stock.modify k (· + (n : Int))).getD j 0 = _
 rw [List.getD_eq_getElem?_getD, List.getElem?_modify, List.getD_eq_getElem?_getD]
 by_cases e : k = j
 ·subst e
  by_cases hb : k < s.stock.length
  ·rw [List.getElem?_eq_getElem hb]; simp [hb]
  ·rw [List.getElem?_eq_none (by omega)]; simp [hb]
 ·rw [if_neg (fun h => e h.1.symm)]; simp [e]
theorem SOk.more {s : Sw} (h : SOk s) (h4 : ∀ x ∈ s.stock, 0 ≤ x ∧ x ≤ 4) (k : Nat) {n : Nat} (hn : n ≤ 4) : SOk (moreK s k n) :=
 ⟨h.l1, h.l3, h.lf, (by show (s.stock.modify k _).length = _; rw [List.length_modify]; exact h.st), fun x hx => by
  obtain ⟨j, hj, rfl⟩ := List.getElem_of_mem hx
  have e := moreK_get s k n j
  rw [List.getD_eq_getElem?_getD, List.getElem?_eq_getElem hj, Option.getD_some] at e
  have hj' : j < s.stock.length := by have : j < (s.stock.modify k (· + (n : Int))).length := hj; rwa [List.length_modify] at this
  rw [e, List.getD_eq_getElem?_getD, List.getElem?_eq_getElem hj', Option.getD_some]
  have := h4 _ (List.getElem_mem hj')
  split <;> omega, h.k0, h.k3, h.w5, h.wt⟩
end Go.Mz


namespace Go.Mz
open Go
def renW (f : Nat → Nat) (x : Want) : Want := if x.kind < 0 then x else { x with kind := (f x.kind.toNat : Nat) }
structure Ren (s s' : Sw) (f g : Nat → Nat) : Prop where
 ll : s'.loaves.length = s.loaves.length
 sl : s'.stock.length = s.stock.length
 f1 : ∀ k, k < s.loaves.length → f k < s.loaves.length ∧ g (f k) = k
 g1 : ∀ k, k < s.loaves.length → g k < s.loaves.length ∧ f (g k) = k
 lo : ∀ k, k < s.loaves.length → s'.loaves.getD (f k) [] = s.loaves.getD k []
 st : ∀ k, k < s.loaves.length → s'.stock.getD (f k) 0 = s.stock.getD k 0
 ke : s'.kerf = s.kerf
 wt : s'.wants = s.wants.map (renW f)
theorem renW_0 {f : Nat → Nat} {x : Want} (h : x.kind < 0) : renW f x = x := if_pos h
theorem renW_n {f : Nat → Nat} {x : Want} {n : Nat} (h : x.kind = (n : Int)) : renW f x = { x with kind := (f n : Nat) } := by
 unfold renW
 rw [if_neg (by omega), h]
 rfl
theorem renW_sort (f : Nat → Nat) (x : Want) : (renW f x).sort = x.sort := by unfold renW; split <;> rfl
theorem renW_amount (f : Nat → Nat) (x : Want) : (renW f x).amount = x.amount := by unfold renW; split <;> rfl
theorem renW_pay (f : Nat → Nat) (x : Want) : (renW f x).pay = x.pay := by unfold renW; split <;> rfl
theorem Ren.symm {s s' : Sw} {f g : Nat → Nat} (hok : SOk s) (h : Ren s s' f g) : Ren s' s g f where
 ll := h.ll.symm
 sl := h.sl.symm
 f1 := fun k hk => by rw [h.ll] at hk ⊢; exact h.g1 k hk
 g1 := fun k hk => by rw [h.ll] at hk ⊢; exact h.f1 k hk
 lo := fun k hk => by
  rw [h.ll] at hk
  have e := h.g1 k hk
  rw [← h.lo _ e.1, e.2]
 st := fun k hk => by
  rw [h.ll] at hk
  have e := h.g1 k hk
  rw [← h.st _ e.1, e.2]
 ke := h.ke.symm
 wt := by
  rw [h.wt, List.map_map]
  refine (List.map_congr_left (f := id) fun x hx => ?_).symm.trans ?_ |>.symm
  ·have hw := hok.wt x hx
   by_cases e : x.kind < 0
   ·show x = renW g (renW f x)
    rw [renW_0 e, renW_0 e]
   ·obtain ⟨n, hn⟩ : ∃ n : Nat, x.kind = (n : Int) := ⟨x.kind.toNat, by omega⟩
    have := hw.k1
    have hg := (h.f1 n (by omega)).2
    show x = renW g (renW f x)
    rw [renW_n hn, renW_n (n := f n) rfl, hg]
    cases x
    simp only at hn
    subst hn
    rfl
  ·exact List.map_id _
theorem wants_ren {s s' : Sw} {f g : Nat → Nat} (h : Ren s s' f g) (w : List Nat) : wantsOf s' w = (wantsOf s w).map (renW f) := by
 unfold wantsOf
 rw [List.map_filterMap, h.wt]
 congr 1
 funext i
 rw [List.getElem?_map]
theorem pay_ren {s s' : Sw} {f g : Nat → Nat} (h : Ren s s' f g) (w : List Nat) : payW s' w = payW s w := by
 unfold payW
 rw [wants_ren h, List.map_map]
 congr 1
 exact List.map_congr_left fun x _ => renW_pay f x
theorem map_on {n : Nat} {f g : Nat → Int} (h : ∀ k, k < n → f k = g k) : (List.range n).map f = (List.range n).map g := List.map_congr_left fun k hk => h k (List.mem_range.1 hk)
theorem sum_ren {n : Nat} (hn : n ≤ 3) {f g : Nat → Nat} (hf : ∀ k, k < n → f k < n ∧ g (f k) = k) (F : Nat → Int) : sumL ((List.range n).map F) = sumL ((List.range n).map fun k => F (f k)) := by
 have c : n = 0 ∨ n = 1 ∨ n = 2 ∨ n = 3 := by omega
 rcases c with rfl | rfl | rfl | rfl
 ·rfl
 ·have := (hf 0 (by omega)).1
  rw [show List.range 1 = [0] from rfl]
  simp only [List.map_cons, List.map_nil, sumL_cons, sumL_nil]
  rw [show f 0 = 0 by omega]
 ·obtain ⟨a1, a2⟩ := hf 0 (by omega)
  obtain ⟨b1, b2⟩ := hf 1 (by omega)
  rw [show List.range 2 = [0, 1] from rfl]
  simp only [List.map_cons, List.map_nil, sumL_cons, sumL_nil]
  generalize f 0 = x at *
  generalize f 1 = y at *
  have hne : x ≠ y := fun e => by subst e; omega
  have c : (x = 0 ∧ y = 1) ∨ (x = 1 ∧ y = 0) := by omega
  rcases c with ⟨rfl, rfl⟩ | ⟨rfl, rfl⟩ <;> omega
 ·obtain ⟨a1, a2⟩ := hf 0 (by omega)
  obtain ⟨b1, b2⟩ := hf 1 (by omega)
  obtain ⟨c1, c2⟩ := hf 2 (by omega)
  rw [show List.range 3 = [0, 1, 2] from rfl]
  simp only [List.map_cons, List.map_nil, sumL_cons, sumL_nil]
  generalize f 0 = x at *
  generalize f 1 = y at *
  generalize f 2 = z at *
  have h1 : x ≠ y := fun e => by subst e; omega
  have h2 : x ≠ z := fun e => by subst e; omega
  have h3 : y ≠ z := fun e => by subst e; omega
  have c : (x = 0 ∧ y = 1 ∧ z = 2) ∨ (x = 0 ∧ y = 2 ∧ z = 1) ∨ (x = 1 ∧ y = 0 ∧ z = 2) ∨ (x = 1 ∧ y = 2 ∧ z = 0) ∨ (x = 2 ∧ y = 0 ∧ z = 1) ∨ (x = 2 ∧ y = 1 ∧ z = 0) := by omega
  rcases c with ⟨rfl, rfl, rfl⟩ | ⟨rfl, rfl, rfl⟩ | ⟨rfl, rfl, rfl⟩ | ⟨rfl, rfl, rfl⟩ | ⟨rfl, rfl, rfl⟩ | ⟨rfl, rfl, rfl⟩ <;> omega
section
variable {s s' : Sw} {f g : Nat → Nat}
theorem Ren.kind (h : Ren s s' f g) {x : Want} (hx : WtOk s.loaves x) {k : Nat} (hk : k < s.loaves.length) : ((renW f x).kind == ((f k : Nat) : Int)) = (x.kind == (k : Int)) := by
 by_cases e : x.kind < 0
 ·rw [renW_0 e, Bool.eq_iff_iff, beq_iff_eq, beq_iff_eq]; omega
 ·obtain ⟨n, hn⟩ : ∃ n : Nat, x.kind = (n : Int) := ⟨x.kind.toNat, by omega⟩
  have := hx.k1
  have g1 := (h.f1 n (by omega)).2
  have g2 := (h.f1 k hk).2
  rw [renW_n hn, hn, Bool.eq_iff_iff, beq_iff_eq, beq_iff_eq]
  show ((f n : Nat) : Int) = _ ↔ _
  constructor
  ·intro e
   have e : f n = f k := by omega
   rw [e] at g1
   omega
  ·intro e
   rw [show n = k by omega]
theorem Ren.neg (h : Ren s s' f g) (x : Want) : (renW f x).kind < 0 ↔ x.kind < 0 := by
 by_cases e : x.kind < 0
 ·rw [renW_0 e]
 ·obtain ⟨n, hn⟩ : ∃ n : Nat, x.kind = (n : Int) := ⟨x.kind.toNat, by omega⟩
  rw [renW_n hn]
  show ((f n : Nat) : Int) < 0 ↔ _
  omega
theorem Ren.rest (h : Ren s s' f g) {x : Want} (hx : WtOk s.loaves x) (h0 : 0 ≤ x.kind) : restW s' (renW f x) = restW s x := by
 obtain ⟨n, hn⟩ : ∃ n : Nat, x.kind = (n : Int) := ⟨x.kind.toNat, by omega⟩
 have := hx.k1
 have hl := h.lo n (by omega)
 unfold restW
 rw [renW_amount, h.ke, show loafAt s' (renW f x).kind = loafAt s x.kind by
  unfold loafAt
  rw [renW_n hn, hn]
  exact hl]
variable {xs : List Want} (hxs : ∀ x ∈ xs, WtOk s.loaves x)
include hxs
theorem Ren.tk (h : Ren s s' f g) {k : Nat} (hk : k < s.loaves.length) : tkN (xs.map (renW f)) (f k) = tkN xs k := by
 unfold tkN
 rw [List.countP_map]
 congr 1
 refine List.countP_congr fun x hx => ?_
 show isTk (f k) (renW f x) = true ↔ _
 unfold isTk
 rw [renW_sort, h.kind (hxs x hx) hk]
theorem Ren.su (h : Ren s s' f g) {k : Nat} (hk : k < s.loaves.length) : suN s' (xs.map (renW f)) (f k) = suN s xs k := by
 induction xs with
 | nil => rfl
 | cons x xs ih =>
  have hx := hxs x List.mem_cons_self
  rw [List.map_cons, suN_cons, suN_cons, ih fun y hy => hxs y (List.mem_cons_of_mem _ hy)]
  have e : isTp (f k) (renW f x) = isTp k x := by unfold isTp; rw [renW_sort, h.kind hx hk]
  rw [e]
  by_cases ht : isTp k x = true
  ·rw [if_pos ht, if_pos ht]
   have : 0 ≤ x.kind := by unfold isTp at ht; simp at ht; omega
   rw [h.rest hx this]
  ·rw [if_neg ht, if_neg ht]
theorem Ren.tks (h : Ren s s' f g) {k : Nat} (hk : k < s.loaves.length) : tksN ((f k : Nat) : Int) (xs.map (renW f)) = tksN (k : Int) xs := by
 induction xs with
 | nil => rfl
 | cons x xs ih =>
  have hx := hxs x List.mem_cons_self
  rw [List.map_cons, tksN_cons, tksN_cons, ih fun y hy => hxs y (List.mem_cons_of_mem _ hy), renW_amount]
  have e : isTks ((f k : Nat) : Int) (renW f x) = isTks (k : Int) x := by
   unfold isTks
   rw [renW_sort, h.kind hx hk, show decide (((f k : Nat) : Int) < 0) = false by simp, show decide ((k : Int) < 0) = false by simp]
  rw [e]
theorem Ren.tks0 (h : Ren s s' f g) : tksN (-1) (xs.map (renW f)) = tksN (-1) xs := by
 induction xs with
 | nil => rfl
 | cons x xs ih =>
  rw [List.map_cons, tksN_cons, tksN_cons, ih fun y hy => hxs y (List.mem_cons_of_mem _ hy), renW_amount]
  have e : isTks (-1) (renW f x) = isTks (-1) x := by unfold isTks; rw [renW_sort]; simp
  rw [e]
end
theorem Ren.ok {s s' : Sw} {f g : Nat → Nat} (hok : SOk s) (h : Ren s s' f g) {w : List Nat} {c : Cr} (hok' : SOk s') (hc : crushW s w = some c) : ∃ c', crushW s' w = some c' ∧ c'.c ≤ c.c := by
 have hw : ∀ x ∈ wantsOf s w, WtOk s.loaves x := fun x hx => wants_mem hok hx
 have hst := hok.st
 have h3 := hok.l3
 refine served_by hok hok' hc fun l hl h0 ho => ⟨(List.range s.loaves.length).map fun k => l.getD (g k) 0, by rw [List.length_map, List.length_range, h.sl, hst], fun k hk => ?_, ?_⟩
 ·rw [List.getD_eq_getElem?_getD, List.getElem?_map, List.getElem?_range (by rw [h.sl] at hk; omega)]
  exact h0 _
 have hg : ∀ k, k < s.loaves.length → ((List.range s.loaves.length).map fun k => l.getD (g k) 0).getD k 0 = l.getD (g k) 0 := fun k hk => by
  rw [List.getD_eq_getElem?_getD, List.getElem?_map, List.getElem?_range hk]; rfl
 have hgf : ∀ k, k < s.loaves.length → ((List.range s.loaves.length).map fun k => l.getD (g k) 0).getD (f k) 0 = l.getD k 0 := fun k hk => by
  rw [hg _ (h.f1 k hk).1, (h.f1 k hk).2]
 generalize ((List.range s.loaves.length).map fun k => l.getD (g k) 0) = l' at *
 rw [wants_ren h]
 have back : ∀ k, k < s'.loaves.length → ∃ j, j < s.loaves.length ∧ f j = k := fun k hk => by rw [h.ll] at hk; exact ⟨g k, h.g1 k hk⟩
 refine ⟨⟨fun k hk => ?_, fun k hk => ?_, ?_⟩, ?_⟩
 ·obtain ⟨j, hj, rfl⟩ := back k hk
  rw [h.tk hw hj, hgf j hj, h.st j hj]
  exact ho.a j hj
 ·obtain ⟨j, hj, rfl⟩ := back k hk
  rw [h.tks hw hj, hgf j hj, h.lo j hj, h.su hw hj]
  exact ho.b j hj
 ·rw [h.tks0 hw]
  have e : sumL (sugarD s' ((wantsOf s w).map (renW f)) l') = sumL (sugarD s (wantsOf s w) l) := by
   unfold sugarD
   rw [h.ll, sum_ren h3 h.f1]
   congr 1
   refine map_on fun k hk => ?_
   rw [hgf k hk, h.lo k hk, h.su hw hk]
  rw [e]
  exact ho.c
 ·rw [h.ll, sum_ren h3 h.f1]
  refine sum_map_le fun k hk => ?_
  rw [h.tk hw hk, hgf k hk]
  exact Int.le_refl _
theorem Ren.most {s s' : Sw} {f g : Nat → Nat} (hok : SOk s) (hok' : SOk s') (h : Ren s s' f g) : mostW s (servedL s) ≤ mostW s' (servedL s') := by
 obtain ⟨w, hw, hp⟩ := mostW_mem hok (servedL s) (served_ne hok)
 obtain ⟨h1, c, hc⟩ := served_iff.1 hw
 obtain ⟨c', hc', _⟩ := h.ok hok hok' hc
 have hw' : w ∈ servedL s' := served_iff.2 ⟨by rw [h.wt, List.length_map]; exact h1, c', hc'⟩
 have := mostW_le s' (servedL s') w hw'
 rw [pay_ren h] at this
 omega
end Go.Mz


namespace Go.Mz
open Go
structure Perm (n : Nat) (o : List Nat) : Prop where
 p : o.Perm (List.range n)
theorem Perm.len {n : Nat} {o : List Nat} (h : Perm n o) : o.length = n := by rw [h.p.length_eq, List.length_range]
theorem Perm.lt {n : Nat} {o : List Nat} (h : Perm n o) : ∀ j ∈ o, j < n := fun j hj => List.mem_range.1 (h.p.mem_iff.1 hj)
theorem Perm.nd {n : Nat} {o : List Nat} (h : Perm n o) : o.Nodup := h.p.nodup_iff.2 List.nodup_range
theorem Perm.inj {n : Nat} {o : List Nat} (h : Perm n o) {i j k : Nat} (hi : o[i]? = some k) (hj : o[j]? = some k) : i = j := by
 obtain ⟨h1, e1⟩ := List.getElem?_eq_some_iff.1 hi
 obtain ⟨h2, e2⟩ := List.getElem?_eq_some_iff.1 hj
 exact (List.getElem_inj h.nd).1 (e1.trans e2.symm)
def layL {α : Type} (l : List α) (o : List Nat) (n : Nat) : List α := (List.range n).foldl (fun m i => match l[i]?, o[i]? with
 | some x, some j => m.set j x
 | _, _ => m) l
def numF (o : List Nat) (k : Nat) : Nat := o.getD k 0
def laySw (s : Sw) (o : List Nat) : Sw := { s with loaves := layL s.loaves o s.loaves.length, stock := layL s.stock o s.stock.length, wants := s.wants.map (renW (numF o)) }
end Go.Mz


namespace Go.Mz
open Go
theorem sawE_s4 {s : Sw} (h : sawE s = 0) : ∀ x ∈ s.stock, 0 ≤ x ∧ x ≤ 4 := by
 unfold sawE at h
 split at h
 ·rename_i h1; exact absurd h h1
 ·split at h
  ·rename_i h2; exact absurd h h2
  ·split at h
   ·cases h
   ·split at h
    ·cases h
    ·rename_i h4
     simp only [Bool.not_eq_true', Bool.not_eq_false, stockB_iff] at h4
     exact h4
def eatW (s : Sw) (x : Want) : Int := if x.sort = 1 then x.amount else if x.sort = 0 then sumL (loafAt s x.kind) else sumL ((loafAt s x.kind).drop ((loafAt s x.kind).length - x.amount.toNat))
def lossW (s : Sw) (x : Want) : Int := if x.sort = 2 then sumL (loafAt s x.kind) - restW s x - eatW s x else 0
theorem sum_add {n : Nat} (f g : Nat → Int) : sumL ((List.range n).map fun k => f k + g k) = sumL ((List.range n).map f) + sumL ((List.range n).map g) := by
 induction n with
 | zero => rfl
 | succ n ih =>
  rw [List.range_succ, List.map_append, List.map_append, List.map_append, sumL_append, sumL_append, sumL_append, ih]
  simp only [List.map_cons, List.map_nil, sumL_cons, sumL_nil]; omega
theorem sum_ind {n k : Nat} (hk : k < n) (F : Nat → Int) : sumL ((List.range n).map fun j => if j = k then F j else 0) = F k := by
 induction n with
 | zero => omega
 | succ n ih =>
  rw [List.range_succ, List.map_append, sumL_append]
  simp only [List.map_cons, List.map_nil, sumL_cons, sumL_nil]
  by_cases e : k = n
  ·subst e
   have : sumL ((List.range k).map fun j => if j = k then F j else 0) = 0 := by
    rw [show (List.range k).map (fun j => if j = k then F j else 0) = (List.range k).map fun _ => 0 from map_on fun j hj => if_neg (by omega)]
    clear ih hk
    induction k with
    | zero => rfl
    | succ k ih => rw [List.range_succ, List.map_append, sumL_append, ih]; rfl
   rw [this, if_pos rfl]; omega
  ·rw [ih (by omega), if_neg (by omega)]; omega
theorem sum_zero {n : Nat} {F : Nat → Int} (h : ∀ k, k < n → F k = 0) : sumL ((List.range n).map F) = 0 := by
 induction n with
 | zero => rfl
 | succ n ih => rw [List.range_succ, List.map_append, sumL_append, ih fun k hk => h k (by omega)]; simp only [List.map_cons, List.map_nil, sumL_cons, sumL_nil, h n (by omega)]; omega
end Go.Mz


set_option maxRecDepth 100000
namespace Go.Mz
open Go.Conc Go.Proofs
variable {X : Logic Tryz.prog}
def refB (s : Sw) (w : List Nat) : Bool := srvB s (othersW s w)
def ltLen (a b : List Nat) : Bool := decide ((a.length : Int) < (b.length : Int))
def refD (s : Sw) (j : Nat) : Option (List Nat) := firstBy ltLen (((picksW s.wants.length s.wants.length).take j).filter (refB s))
def RefX (o : Option (List Nat)) (v6 : Value) (fd : Bool) (L : LH) : Prop := match o with
 | none => v6 = .slice none 0 0 ∧ fd = false
 | some w => ∃ ad cap, v6 = .slice ad w.length cap ∧ fd = true ∧ IntsAt L ad (natI w)
theorem RefX.le {o : Option (List Nat)} {v6 : Value} {fd : Bool} {L L' : LH} (h : RefX o v6 fd L) (hl : Le L L') : RefX o v6 fd L' := by
 cases o with
 | none => exact h
 | some w => obtain ⟨ad, cap, h1, h2, h3⟩ := h; exact ⟨ad, cap, h1, h2, h3.le hl⟩
def oth (w : List Nat) (k : Nat) : List Nat := (List.range k).filter fun i => !w.contains i
end Go.Mz


namespace Go.Mz
open Go
def choS (n k i : Nat) (out : List (List Nat)) : List (List Nat) := out.flatMap fun x =>
 (List.range' (match x.getLast? with | some y => y + 1 | none => 0) (n - k + i + 1 - (match x.getLast? with | some y => y + 1 | none => 0))).map fun y => x ++ [y]
def choI (n k i : Nat) : List (List Nat) := (List.range i).foldl (fun out i => choS n k i out) [[]]
def choL (n k : Nat) : List (List Nat) := choI n k k
def fstC (x : List Nat) : Nat := match x.getLast? with | some y => y + 1 | none => 0
def subsW (n : Nat) : List (List Nat) := (List.range (n + 1)).flatMap fun k => choL n k
def ascB : List Nat → Bool
 | [] => true
 | [_] => true
 | a :: b :: l => decide (a < b) && ascB (b :: l)
end Go.Mz


set_option maxRecDepth 100000
namespace Go.Mz
open Go.Conc Go.Proofs
variable {X : Logic Tryz.prog}
theorem GrowL.one_at {α : Type} {L : LH} {k b : Nat} {enc : α → List Value} {l : List α} {a : Option Addr} {c e : Nat} (hl : SlAt L a k enc l) (hcp : l.length ≤ c) (hb : L b = none) : RowsAt (L.put b (.cells #[.slice a l.length c] e)) (some ⟨b, 0, none⟩) k enc [l] :=
 ((GrowL.one (e := e) (c := c) hl hcp (Le.put hb _) (put_same _ _ _) hb).at).2
end Go.Mz


set_option maxRecDepth 100000
namespace Go.Mz
open Go.Conc Go.Proofs
variable {X : Logic Tryz.prog}
end Go.Mz


namespace Go.Mz
open Go
section
variable {s : Sw} (hok : SOk s) {M : List (List Nat)} (hM : ∀ w, w ∈ M ↔ w ∈ picksW s.wants.length s.wants.length)
include hok hM
def topL (s : Sw) (M : List (List Nat)) : List (List Nat) := M.filter fun w => srvB s w && payW s w == payW s (crWants (bestW s fun _ => true))
omit hok in
theorem top_mem {w : List Nat} : w ∈ topL s M ↔ w ∈ picksW s.wants.length s.wants.length ∧ srvB s w = true ∧ payW s w = payW s (crWants (bestW s fun _ => true)) := by
 unfold topL
 rw [List.mem_filter, Bool.and_eq_true, beq_iff_eq, hM]
end
end Go.Mz


namespace Go.Mz
open Go
theorem listsW_snoc : ∀ (st : List Int) (m : Int), listsW (st ++ [m]) = (listsW st).flatMap fun l => (List.range (m + 1).toNat).map fun (n : Nat) => l ++ [(n : Int)]
 | [], m => by
  simp only [List.nil_append, listsW, List.flatMap_cons, List.flatMap_nil, List.append_nil, List.map_cons, List.map_nil]
  generalize (List.range (m + 1).toNat) = r
  induction r with
  | nil => rfl
  | cons a r ih => rw [List.flatMap_cons, ih]; rfl
 | a :: st, m => by
  rw [List.cons_append, listsW, listsW_snoc st m, listsW, List.flatMap_assoc]
  congr 1
  funext n
  rw [List.map_flatMap, List.flatMap_map]
  congr 1
  funext l
  rw [List.map_map]
  rfl
theorem heapE_of {l : List Int} (h : ∀ x ∈ l, 0 ≤ x ∧ x ≤ 4) : heapE l = 0 := by
 induction l with
 | nil => rfl
 | cons x l ih =>
  rw [heapE, if_neg (by have := h x List.mem_cons_self; simp [inB_iff]; omega)]
  exact ih fun y hy => h y (List.mem_cons_of_mem _ hy)
theorem list4s {s : Sw} (h4 : ∀ x ∈ s.stock, 0 ≤ x ∧ x ≤ 4) {l : List Int} (hl : l ∈ listsW s.stock) : l.length = s.stock.length ∧ ∀ x ∈ l, 0 ≤ x ∧ x ≤ 4 := by
 obtain ⟨h1, h2⟩ := listsW_mem hl
 refine ⟨h1, fun x hx => ?_⟩
 obtain ⟨k, hk, rfl⟩ := List.getElem_of_mem hx
 have := h2 k
 rw [List.getD_eq_getElem?_getD, List.getElem?_eq_getElem hk, List.getD_eq_getElem?_getD, List.getElem?_eq_getElem (by omega)] at this
 have h5 := h4 _ (List.getElem_mem (show k < s.stock.length by omega))
 have := this.2 (by omega)
 have := (h2 k).1
 rw [List.getD_eq_getElem?_getD, List.getElem?_eq_getElem hk] at this
 simp only [Option.getD_some] at *
 omega
theorem ask_list {s : Sw} (he : sawE s = 0) {w : List Nat} (ha : Asc w) (hw : WnOk s w) {l : List Int} (hl : l ∈ listsW s.stock) : askW s (natI w) l = rightW s (planW s w l) := by
 have hok := sawE_0 he
 obtain ⟨h1, h2⟩ := list4s (sawE_s4 he) hl
 have hr : readW s (natI w) = 0 := readGo_of ha hw (fun q hq => by cases hq)
 unfold askW
 rw [if_neg (by simp [he]), if_neg (by simp [hr]), if_neg (by rw [ne_eq, Decidable.not_not, sizedE_0]; have := hok.st; omega), if_neg (by rw [heapE_of h2]; simp), natsW_natI]
theorem left_list {s : Sw} (he : sawE s = 0) {w : List Nat} (ha : Asc w) (hw : WnOk s w) {l : List Int} (hl : l ∈ listsW s.stock) : LeftE s (natI w) l = if okW s w l then (stayW s (planW s w l), leftW (planW s w l), 0) else ([], 0, rightW s (planW s w l)) := by
 unfold LeftE
 rw [ask_list he ha hw hl, natsW_natI]
 unfold okW
 by_cases h : rightW s (planW s w l) = 0
 ·rw [if_neg (by simp [h]), if_pos (by simp [h])]
 ·rw [if_pos h, if_neg (by simpa using h)]
theorem right_vals (s : Sw) (P : Pl) : rightW s P = 0 ∨ rightW s P = 9 ∨ rightW s P = 12 := by
 unfold rightW
 split
 ·exact .inr (.inr rfl)
 ·split
  ·exact .inr (.inl rfl)
  ·split
   ·exact .inr (.inl rfl)
   ·exact .inl rfl
theorem taken_cnt {s : Sw} : ∀ {xs : List Want}, (∀ x ∈ xs, WtOk s.loaves x) → sumL (takenD s xs) = ((xs.countP fun x => x.sort != 1 : Nat) : Int)
 | [], _ => by
  unfold takenD
  rw [sum_zero fun k _ => by simp [tkN]]
  rfl
 | x :: xs, h => by
  have ih := taken_cnt fun y hy => h y (List.mem_cons_of_mem _ hy)
  have hx := h x List.mem_cons_self
  unfold takenD at ih ⊢
  rw [show ((List.range s.loaves.length).map fun k => tkN (x :: xs) k) = (List.range s.loaves.length).map fun k => tkN xs k + if isTk k x then 1 else 0 from map_on fun k _ => tkN_cons x xs k, sum_add, ih, List.countP_cons]
  by_cases h1 : x.sort = 1
  ·rw [sum_zero fun k _ => by rw [if_neg (by unfold isTk; simp [h1])], if_neg (by simp [h1])]
   omega
  ·have hk0 : 0 ≤ x.kind := by have := hx.k0; unfold wKd at this; rw [if_neg h1] at this; exact this
   obtain ⟨n, hn⟩ : ∃ n : Nat, x.kind = (n : Int) := ⟨x.kind.toNat, by omega⟩
   have hk1 := hx.k1
   have t1 : ∀ k : Nat, (isTk k x = true) ↔ k = n := fun k => by unfold isTk; rw [hn]; simp [h1]; omega
   rw [show ((List.range s.loaves.length).map fun k => if isTk k x then (1 : Int) else 0) = (List.range s.loaves.length).map fun k => if k = n then (1 : Int) else 0 from map_on fun k _ => by
    by_cases e : k = n
    ·rw [if_pos ((t1 k).2 e), if_pos e]
    ·rw [if_neg (mt (t1 k).1 e), if_neg e], sum_ind (by omega) fun _ => (1 : Int), if_pos (by simp [h1])]
   omega
theorem cones_cnt {s : Sw} (hok : SOk s) (w : List Nat) {l : List Int} (hl : l.length = s.loaves.length) : (((wantsOf s w).countP fun x => x.sort != 1 : Nat) : Int) + sumL l = sumL (planW s w l).t := by
 rw [← taken_sum hok w hl, taken_cnt fun x hx => wants_mem hok hx]
end Go.Mz


set_option maxRecDepth 100000
namespace Go.Mz
open Go.Conc Go.Proofs
variable {X : Logic Tryz.prog}
theorem take_snoc {st : List Int} {i : Nat} {m : Int} (h : st[i]? = some m) : st.take (i + 1) = st.take i ++ [m] := by
 obtain ⟨hi, rfl⟩ := List.getElem?_eq_some_iff.1 h
 exact List.take_succ_eq_append_getElem hi
theorem crushes_sp (s : Sw) (p : Wp) (L : LH) (hs : SwAt L s p) (hok : SOk s) : Sp X 52 [swA s p] L (NewRows L (listsW s.stock)) := by
 have hst := hok.st
 have hl3 := hok.l3
 refine Sp.enter (n := 44) Tryz.func52 rfl rfl rfl rfl fun C hX _ hL0 r => ?_
 refine W.go 99 rfl ?_
 refine W.pub 3 (.inr ⟨_, _, _, rfl⟩) rfl rfl ?_
 intro b0 hb0 _
 have hr0 : RowsAt (L.put b0 (.cells #[.slice none 0 0] 23)) (some ⟨b0, 0, none⟩) 1 encI (listsW (s.stock.take 0)) := GrowL.one_at (l := ([] : List Int)) SlAt.empty (Nat.le_refl _) hb0
 refine W.loop (fun w E B L' => ∃ (i : Nat) (a : Option Addr) (c : Nat), w = s.stock.length - i ∧ i ≤ s.stock.length ∧ Le L L' ∧ RowsAt L' a 1 encI (listsW (s.stock.take i)) ∧
   E = [(1, .p 0 0), (3, .v (.slice a (listsW (s.stock.take i)).length c)), (4, .v (.int .i64 i))] ∧ B = [some ⟨cellsS (.v (swA s p)), 26⟩, none])
  ⟨0, _, 1, rfl, by omega, Le.put hb0 _, hr0, rfl, rfl⟩ (by exact ⟨rfl, rfl, rfl, trivial⟩) (by exact ⟨rfl, rfl, trivial⟩) ?_
 rintro _ _ _ L1 ⟨i, a, c, rfl, hi, hl1, hrows, rfl, rfl⟩ again
 refine W.go 99 rfl ?_
 refine W.split rfl rfl rfl (fun e1 => W.go 99 rfl ?_) (fun e1 => W.go 99 rfl ?_)
 ·have hil : i < s.stock.length := by simpa using e1
  have hm : s.stock[i]? = some s.stock[i] := List.getElem?_eq_getElem hil
  have hmb := hok.sr _ (List.getElem_mem hil)
  generalize s.stock[i] = m at hm hmb
  have hstep := listsW_snoc (s.stock.take i) m
  rw [← take_snoc hm] at hstep
  have hsl : (listsW (s.stock.take i)).length ≤ 81 := by
   have h4 := listsW_len (st := s.stock.take i) fun x hx => hok.sr x (List.mem_of_mem_take hx)
   have h5 : 9 ^ (s.stock.take i).length ≤ 9 ^ 2 := Nat.pow_le_pow_right (by decide) (by rw [List.length_take]; omega)
   omega
  have hmem : ∀ x ∈ listsW (s.stock.take i), x.length ≤ 3 := fun x hx => by
   have := (listsW_mem hx).1
   rw [List.length_take] at this
   omega
  generalize listsW (s.stock.take i) = S at hrows hsl hstep hmem
  refine W.loop (fun w E B L' => ∃ (k : Nat) (v : Value) (F : LH) (rs : List (Rw Int)), w = S.length - k ∧ k ≤ S.length ∧ Le L1 F ∧ rs.map Prod.snd = ((S.take k).flatMap fun x => (List.range (m + 1).toNat).map fun (n : Nat) => x ++ [(n : Int)]) ∧ rs.length ≤ k * 9 ∧ Grow F 1 23 encRw L' v rs ∧ (∀ x ∈ rs, RwOk F 1 encI x) ∧
    E = [(1, .p 0 0), (3, .v (.slice a S.length c)), (4, .v (.int .i64 i)), (5, .v v), (6, .v (.int .i64 k))] ∧ B = [some ⟨cellsS (.v (swA s p)), 26⟩, none])
   ⟨0, _, L1, [], rfl, by omega, Le.refl _, rfl, by simp, Grow.nil (Le.refl _), (fun x hx => by cases hx), rfl, rfl⟩ (by exact ⟨rfl, rfl, rfl, rfl, rfl, trivial⟩) (by exact ⟨rfl, rfl, trivial⟩) ?_
  rintro _ _ _ L2 ⟨k, v, F, rs, rfl, hk, hLF, hrs, hrl, hgr, hrk, rfl, rfl⟩ again2
  refine W.go 99 rfl ?_
  refine W.split rfl rfl rfl (fun e2 => W.go 99 rfl ?_) (fun e2 => W.go 99 rfl ?_)
  ·have hkl : k < S.length := by simpa using e2
   obtain ⟨x, hx⟩ : ∃ x, S[k]? = some x := ⟨_, List.getElem?_eq_getElem hkl⟩
   have hxl := hmem x (List.mem_of_getElem? hx)
   obtain ⟨a', rfl⟩ := hrows.addr hkl
   obtain ⟨xa, xc, hxc, hxs, _⟩ := hrows.row hx
   refine W.loop (fun w E B L' => ∃ (n : Nat) (v : Value) (F' : LH) (rs' : List (Rw Int)), w = (m + 1).toNat - n ∧ n ≤ (m + 1).toNat ∧ Le F F' ∧ rs'.map Prod.snd = rs.map Prod.snd ++ ((List.range n).map fun (n : Nat) => x ++ [(n : Int)]) ∧ rs'.length = rs.length + n ∧ Grow F' 1 23 encRw L' v rs' ∧ (∀ x ∈ rs', RwOk F' 1 encI x) ∧
     E = [(1, .p 0 0), (3, .v (.slice (some a') S.length c)), (4, .v (.int .i64 i)), (5, .v v), (6, .v (.int .i64 k)), (7, .v (.int .i64 n))] ∧ B = [some ⟨cellsS (.v (swA s p)), 26⟩, none])
    ⟨0, v, F, rs, rfl, by omega, Le.refl _, by simp, by omega, hgr, hrk, rfl, rfl⟩ (by exact ⟨rfl, rfl, rfl, rfl, rfl, rfl, trivial⟩) (by exact ⟨rfl, rfl, trivial⟩) ?_
   clear hgr hrk
   rintro _ _ _ L3 ⟨n, v, F3, rs3, rfl, hn, hFF3, hrs3, hrl3, hgr3, hrk3, rfl, rfl⟩ again3
   have hL13 : Le L1 L3 := hLF.trans (hFF3.trans hgr3.1)
   have hsi := hs.st.le (hl1.trans hL13)
   obtain ⟨sad, hsa⟩ := hsi.addr hil
   rw [hsa] at hsi
   obtain ⟨qa, qb, qc, qd, qe, qf⟩ := p
   obtain rfl : qb = some sad := hsa
   refine W.go 99 rfl ?_
   refine W.vf rfl rfl rfl rfl (Vf.idx1 rfl rfl rfl rfl rfl rfl rfl (hil)) ?_
   refine W.go 99 rfl ?_
   refine W.vf rfl rfl rfl rfl (Vf.load rfl rfl rfl (hsi.int hm)) ?_
   refine W.go 99 rfl ?_
   refine W.split rfl rfl rfl (fun e3 => W.go 99 rfl ?_) (fun e3 => W.go 99 rfl ?_)
   ·have hnm : n < (m + 1).toNat := by have : (n : Int) ≤ m := (by simpa using e3); omega
    refine W.vf rfl rfl rfl rfl (Vf.idx1 rfl rfl rfl rfl rfl rfl rfl (hkl)) ?_
    refine W.go 99 rfl ?_
    refine W.vf rfl rfl rfl rfl (Vf.load rfl rfl rfl (hL13.cell hxc)) ?_
    refine W.go 99 rfl ?_
    refine W.eff rfl rfl rfl (Ef.call rfl (DupInts_sp xa xc x L3 (hxs.le hL13) (by omega))) ?_
    rintro _ _ _ ⟨_, rfl, rfl, hg1⟩
    rename_i L4
    obtain ⟨da, dc, rfl, -⟩ := hg1.slice
    refine W.go 99 rfl ?_
    refine W.eff rfl rfl rfl (Ef.grow rfl rfl rfl rfl rfl rfl rfl rfl rfl encI_len encI_sg hg1 (ls := [(n : Int)]) (.own rfl rfl rfl rfl) (by simp; omega)) ?_
    rintro _ _ _ ⟨v1, rfl, rfl, hg2, -⟩
    rename_i L5
    obtain ⟨wa, wc, rfl, hwc⟩ := hg2.slice
    obtain ⟨F5, hFF5, hF5L, hw5, hf5⟩ := hg2.foot encI_len hgr3.1
    have hgr5 : Grow F5 1 23 encRw L5 v rs3 := hgr3.rebase hg2.1 hF5L hf5
    refine W.go 99 rfl ?_
    refine W.eff rfl rfl rfl (Ef.grow rfl rfl rfl rfl rfl rfl rfl rfl rfl encRw_len encRw_sg hgr5 (ls := [((wa, (x ++ [(n : Int)]).length, wc), x ++ [(n : Int)])]) (.own rfl rfl rfl rfl) (by simp; omega)) ?_
    rintro _ _ _ ⟨v2, rfl, rfl, hg6, -⟩
    refine W.go 99 rfl ?_
    refine W.again (again3 _ _ _ _ (by omega) ⟨n + 1, v2, F5, _, rfl, by omega, hFF3.trans hFF5, ?_, by simp; omega, hg6, ?_, rfl, rfl⟩) (by exact ⟨rfl, rfl, rfl, rfl, rfl, congrArg some (inc64 (by omega)), trivial⟩) (by exact ⟨rfl, rfl, trivial⟩)
    ·rw [List.map_append, hrs3, List.range_succ]
     simp only [List.map_append, List.map_cons, List.map_nil, List.append_assoc]
    ·intro z hz
     rcases List.mem_append.1 hz with hz | hz
     ·exact (hrk3 z hz).le hFF5
     ·rw [List.mem_singleton.1 hz]; exact ⟨hw5, rfl, hwc⟩
   ·have hne : n = (m + 1).toNat := by have : ¬ (n : Int) ≤ m := (by simpa using e3); omega
    refine W.again (again2 _ _ _ _ (by omega) ⟨k + 1, v, F3, rs3, rfl, by omega, hLF.trans hFF3, ?_, by omega, hgr3, hrk3, rfl, rfl⟩) (by exact ⟨rfl, rfl, rfl, rfl, congrArg some (inc64 (by omega)), trivial⟩) (by exact ⟨rfl, rfl, trivial⟩)
    obtain ⟨_, rfl⟩ := List.getElem?_eq_some_iff.1 hx
    rw [hrs3, hrs, List.take_succ_eq_append_getElem hkl, List.flatMap_append, List.flatMap_singleton, hne]
  ·have hke : k = S.length := by simp at e2; omega
   subst hke
   rw [List.take_length, ← hstep] at hrs
   have hgL : GrowL L1 23 1 encI L2 v (listsW (s.stock.take (i + 1))) := ⟨F, rs, hLF, hrs, hgr, hrk⟩
   obtain ⟨va, vc, rfl⟩ := hgL.slice
   refine W.go 99 rfl ?_
   exact W.again (again _ _ _ _ (by omega) ⟨i + 1, va, vc, rfl, by omega, hl1.trans hgL.hle, hgL.at.2, rfl, rfl⟩) (by exact ⟨rfl, rfl, congrArg some (inc64 (by omega)), trivial⟩) (by exact ⟨rfl, rfl, trivial⟩)
 ·have hie : i = s.stock.length := by simp at e1; omega
  subst hie
  rw [List.take_length] at hrows ⊢
  refine W.ret r rfl rfl ?_
  exact ⟨a, c, rfl, hl1, hrows⟩
end Go.Mz


set_option maxRecDepth 100000
namespace Go.Mz
open Go.Conc Go.Proofs
variable {Post : Value → World → Prop} {W0 : World}
def BstX (P : List (List Int)) (o : Option Cr) (b c p : Int) : Prop := match o with
 | none => b = -1 ∧ c = 0 ∧ p = 0
 | some x => ∃ i : Nat, b = i ∧ P[i]? = some x.l ∧ c = x.c ∧ p = x.p
def cntN (s : Sw) (w : List Nat) (j : Nat) : Nat := (wantsOf s (w.take j)).countP fun x => x.sort != 1
theorem cntN_succ {s : Sw} {w : List Nat} {j i : Nat} {x : Want} (hj : w[j]? = some i) (hx : s.wants[i]? = some x) : cntN s w (j + 1) = cntN s w j + if x.sort != 1 then 1 else 0 := by
 obtain ⟨h, rfl⟩ := List.getElem?_eq_some_iff.1 hj
 unfold cntN
 rw [List.take_succ_eq_append_getElem h, wantsOf_snoc hx, List.countP_append, List.countP_singleton]
theorem cntN_le (s : Sw) (w : List Nat) (j : Nat) : cntN s w j ≤ w.length := by
 unfold cntN
 have h1 := List.countP_le_length (p := fun x : Want => x.sort != 1) (l := wantsOf s (w.take j))
 have h2 := wantsOf_len s (w.take j)
 rw [List.length_take] at h2
 omega
theorem CcF_run (na : Option Addr) (nc : Nat) (nums : List Int) (L : LH) (hn : IntsAt L na nums) (hgl : GlOk L) (hl2 : nums.length ≤ 140737488355328)
  (hQ : ∀ v L' w, (v = .bool true ∧ Dim L L') → Sub L' w → Same W0 w → Post v w) :
  FGo Tryz.prog Post W0 (G (Frame.enter Tryz.prog 13 [.slice na nums.length nc].toArray .normal) []) L := by
 refine root_enter (n := 149) (s := 2) Tryz.func13 rfl rfl (by kernel_rfl) rfl rfl hQ fun C hX _ hL0 r => ?_
 have drd : ∀ L2, GlOk L2 → Sp C.X 21 [] L2 (fun v L' => v = .bool true ∧ Dim L2 L') := fun L2 h => by rw [hX]; exact cut_sp L2 h
 refine W.go 99 rfl ?_
 refine W.eff rfl rfl rfl (Ef.call rfl (NewHat_sp na nc nums L hn)) ?_
 rintro _ _ _ ⟨_, rfl, rfl, b, rfl, hb, hle1, hh1⟩
 refine W.go 99 rfl ?_
 rename_i L1
 have hb1 := le_but hb hle1
 refine W.eff rfl rfl rfl (Ef.call rfl (SawOf_sp b na nc nums 0 3 5 L1 hh1 (by omega) hl2 (by omega) (by omega) (by omega))) ?_
 rintro _ _ _ ⟨_, rfl, rfl, s, p, m, rfl, ho, hm, hle2, hh2, hsw⟩
 refine W.go 99 rfl ?_
 rename_i L2
 have hok := sawE_0 ho.e
 have hw5 := hok.w5
 refine W.eff rfl rfl rfl (Ef.call rfl (ServedOf_sp s p b na nc nums m L2 hh2 (by omega) hl2 hok.sm)) ?_
 rintro _ _ _ ⟨_, rfl, rfl, wq, tq, wa, wc, ta, tc, m3, rfl, hsv, hm3, hle3h, hle3, hwq, htq⟩
 refine W.go 99 rfl ?_
 rename_i L3
 have hL23 : Le (L2.but b) (L3.but b) := but_but hle3
 have hsw3 := hsw.le (hL23.trans (but_le _ _))
 have hL3 : Le L L3 := hb1.trans ((but_but hle2).trans (hL23.trans (but_le _ _)))
 have hwq3 := hwq.le (but_le L3 b)
 have hwl5 : wq.length ≤ 5 := by
  have h1 := bits5_len (maskW wq)
  rw [bits5_mask hsv.asc fun x hx => by have := hsv.wn x hx; omega] at h1
  exact h1
 clear hh1 hh2 hle3h htq
 have hcx := Crush_sp (X := C.X) s p wa wc (natI wq) L3 hsw3 hok.sm hwq3 (by rw [natI_len]; omega)
 rw [natI_len, CrushE_natI ho.e hsv.asc hsv.wn] at hcx
 refine W.eff rfl rfl rfl (Ef.call rfl (hcx)) ?_
 rintro _ _ _ ⟨v7, rfl, rfl, ca, cc, rfl, hci, hl34⟩
 refine W.go 99 rfl ?_
 rename_i L4
 have hL4 := hL3.trans hl34
 have hsw4 := hsw3.le hl34
 have hwq4 := hwq3.le hl34
 generalize hce : crushE s wq = ce at *
 obtain ⟨c1, c2, c3⟩ := ce
 dsimp only at hci ⊢
 refine W.loop (fun w E B L' => ∃ j : Nat, w = wq.length - j ∧ j ≤ wq.length ∧ L4 = L' ∧ E = [(4, .p 0 0), (5, .v (.slice wa wq.length wc)), (7, .v (.slice ca c1.length cc)), (8, .v (.int .i64 c2)), (9, .v (.int .i64 c3)), (10, .v (.int .i64 (cntN s wq j : Nat))), (11, .v (.int .i64 j))] ∧ B = [some ⟨cellsS (.v (swA s p)), 26⟩])
  ⟨0, rfl, by omega, rfl, rfl, rfl⟩ (by exact ⟨rfl, rfl, rfl, rfl, rfl, rfl, rfl, trivial⟩) (by exact ⟨rfl, trivial⟩) ?_
 rintro _ _ _ _ ⟨j, rfl, hj, rfl, rfl, rfl⟩ again
 refine W.go 99 rfl ?_
 refine W.split rfl rfl rfl (fun e1 => W.go 99 rfl ?_) (fun e1 => W.go 99 rfl ?_)
 ·have hjl : j < wq.length := by simpa using e1
  have hwj : wq[j]? = some wq[j] := List.getElem?_eq_getElem hjl
  have hi := hsv.wn _ (List.mem_of_getElem? hwj)
  generalize wq[j] = i at *
  have hx : s.wants[i]? = some s.wants[i] := List.getElem?_eq_getElem hi
  have hcs := cntN_succ hwj hx
  have hcl := cntN_le s wq (j + 1)
  obtain ⟨lad, rfl⟩ := hwq4.addr (show j < (natI wq).length by rw [natI_len]; exact hjl)
  obtain ⟨wad, hwa⟩ := hsw4.wt.addr hi
  have hwt := hsw4.wt
  rw [hwa] at hwt
  generalize s.wants[i] = x at *
  have hpy : L4.cell? ((wad.add (i * 4)).add 0) = some (.int .i64 x.sort) := by rw [add_add]; exact hwt.get hx (j := 0) rfl
  obtain ⟨qa, qb, qc, qd, qe, qf⟩ := p
  obtain rfl : qc = some wad := hwa
  refine W.drawn (by kernel_rfl) _ (Le.refl _) ?_
  refine DD.run' [0, 1, 2, 3] rfl ?_
  refine DD.vf 4 rfl rfl rfl rfl rfl (Vf.idx1 rfl rfl rfl rfl rfl rfl rfl (hjl)) ?_
  refine DD.vf 5 rfl rfl rfl rfl rfl (Vf.load rfl rfl rfl (hwq4.int (x := (i : Int)) (by rw [natI_get, hwj]; rfl))) ?_
  refine DD.vf 6 rfl rfl rfl rfl rfl (Vf.idx rfl rfl rfl rfl rfl rfl (hi)) ?_
  refine DD.run' [7] rfl ?_
  refine DD.vf 8 rfl rfl rfl rfl rfl (Vf.load rfl rfl rfl (hpy)) ?_
  refine DD.run' [9] rfl ?_
  refine .fin rfl ?_
  refine W.go 99 rfl ?_
  refine W.split rfl rfl rfl (fun e2 => W.go 99 rfl ?_) (fun e2 => W.go 99 rfl ?_)
  ·rw [if_pos (by exact e2)] at hcs
   exact W.again (again _ _ _ _ (by omega) ⟨j + 1, rfl, by omega, rfl, rfl, rfl⟩) (by exact ⟨rfl, rfl, rfl, rfl, rfl, congrArg (fun z => some (SV.v (Value.int .i64 z))) (show IntKind.i64.wrap (((cntN s wq j : Nat) : Int) + 1) = ((cntN s wq (j + 1) : Nat) : Int) by rw [wrap64_in _ (by omega) (by omega)]; omega), congrArg some (inc64 (by omega)), trivial⟩) (by exact ⟨rfl, trivial⟩)
  ·rw [if_neg (by rw [e2]; decide)] at hcs
   exact W.again (again _ _ _ _ (by omega) ⟨j + 1, rfl, by omega, rfl, rfl, rfl⟩) (by exact ⟨rfl, rfl, rfl, rfl, rfl, congrArg (fun z : Nat => some (SV.v (Value.int .i64 z))) hcs.symm, congrArg some (inc64 (by omega)), trivial⟩) (by exact ⟨rfl, trivial⟩)
 clear again
 have hje : j = wq.length := by simp at e1; omega
 subst hje
 refine W.eff rfl rfl rfl (Ef.call rfl (crushes_sp s p L4 hsw4 hok)) ?_
 rintro _ _ _ ⟨_, rfl, rfl, pa, pc, rfl, hl45, hrows⟩
 refine W.go 99 rfl ?_
 rename_i L5
 have hst3 : s.stock.length ≤ 3 := by rw [hok.st]; exact hok.l3
 have hcn : ((cntN s wq wq.length : Nat) : Int) = (((wantsOf s wq).countP fun x => x.sort != 1 : Nat) : Int) := by unfold cntN; rw [List.take_length]
 have hlf : ∀ l ∈ listsW s.stock, LeftE s (natI wq) l = if okW s wq l then (stayW s (planW s wq l), leftW (planW s wq l), 0) else ([], 0, rightW s (planW s wq l)) := fun l hl => left_list ho.e hsv.asc hsv.wn hl
 have hak : ∀ l ∈ listsW s.stock, askW s (natI wq) l = rightW s (planW s wq l) := fun l hl => ask_list ho.e hsv.asc hsv.wn hl
 have hli : ∀ l ∈ listsW s.stock, l.length = s.stock.length ∧ ∀ x ∈ l, 0 ≤ x ∧ x ≤ 4 := fun l hl => list4s ho.s4 hl
 have hco : ∀ l ∈ listsW s.stock, ((cntN s wq wq.length : Nat) : Int) + sumL l = (crOf s wq l).c := fun l hl => by rw [hcn]; exact cones_cnt hok wq (by rw [(hli l hl).1, hok.st])
 have hno := fun j l => docU_no (s := s) (w := wq) (j := j) (l := l)
 have hyes := fun j l => docU_yes (s := s) (w := wq) (j := j) (l := l)
 have hall := docU_all hok wq
 have h0 : docU s wq 0 = none := rfl
 have hcle := cntN_le s wq wq.length
 have hPl : (listsW s.stock).length ≤ 729 := by
  have h4 := listsW_len (st := s.stock) hok.sr
  have h5 : 9 ^ s.stock.length ≤ 9 ^ 3 := Nat.pow_le_pow_right (by decide) hst3
  omega
 generalize listsW s.stock = P at *
 generalize cntN s wq wq.length = cn at *
 have hsw5 := hsw4.le hl45
 have hwq5 := hwq4.le hl45
 have hgl5 := hgl.le (hL4.trans hl45)
 have hci5 := hci.le hl45
 refine W.loop (fun w E B L' => ∃ (j : Nat) (bx cx px : Int), w = P.length - j ∧ j ≤ P.length ∧ Le L5 L' ∧ BstX P (docU s wq j) bx cx px ∧
   E = [(4, .p 0 0), (5, .v (.slice wa wq.length wc)), (7, .v (.slice ca c1.length cc)), (8, .v (.int .i64 c2)), (9, .v (.int .i64 c3)), (10, .v (.int .i64 (cn : Nat))), (12, .v (.slice pa P.length pc)), (13, .v (.int .i64 bx)), (14, .v (.int .i64 cx)), (15, .v (.int .i64 px)), (16, .v (.int .i64 j))] ∧ B = [some ⟨cellsS (.v (swA s p)), 26⟩])
  ⟨0, -1, 0, 0, rfl, by omega, Le.refl _, by rw [h0]; exact ⟨rfl, rfl, rfl⟩, rfl, rfl⟩ (by exact ⟨rfl, rfl, rfl, rfl, rfl, rfl, rfl, rfl, rfl, rfl, rfl, trivial⟩) (by exact ⟨rfl, trivial⟩) ?_
 rintro _ _ _ L6 ⟨j, bx, cx, px, rfl, hj, hl56, hbx, rfl, rfl⟩ again
 refine W.go 99 rfl ?_
 refine W.split rfl rfl rfl (fun e2 => W.go 99 rfl ?_) (fun e2 => W.go 99 rfl ?_)
 ·have hjl : j < P.length := by simpa using e2
  obtain ⟨l, hl⟩ : ∃ l, P[j]? = some l := ⟨_, List.getElem?_eq_getElem hjl⟩
  have hlm := List.mem_of_getElem? hl
  obtain ⟨hll, hl4⟩ := hli l hlm
  have hlen3 : l.length ≤ 3 := by omega
  have hcl := hco l hlm
  have hsb := sumL_bk 4 l hl4
  have hakl := hak l hlm
  have hlfl := hlf l hlm
  obtain ⟨pad, rfl⟩ := hrows.addr hjl
  obtain ⟨xa, xc, hxc, hxs, _⟩ := hrows.row hl
  have hLf := Left_sp (X := C.X) s p wa xa wc xc (natI wq) l L6 (hsw5.le hl56) hok.sm (hgl5.le hl56) (hwq5.le hl56) (hxs.le hl56) (by rw [natI_len]; omega) (by omega)
  rw [natI_len] at hLf
  refine W.drawn (by kernel_rfl) L6 (Le.refl _) ?_
  refine DD.run' [0, 1, 2, 3] rfl ?_
  refine DD.vf 4 rfl rfl rfl rfl rfl (Vf.idx1 rfl rfl rfl rfl rfl rfl rfl (hjl)) ?_
  refine DD.vf 5 rfl rfl rfl rfl rfl (Vf.load rfl rfl rfl (hl56.cell hxc)) ?_
  refine DD.act 6 rfl rfl rfl rfl rfl (Ef.call rfl (hLf)) ((by rintro _ _ _ ⟨_, rfl, rfl, _, _, rfl, _, hl⟩; exact ⟨hl, rfl, .inl rfl⟩)) ?_
  rintro _ _ _ ⟨v8, rfl, rfl, la, lc, rfl, hli8, hl67⟩
  rename_i L7
  refine DD.run' [7, 8, 9, 10, 11, 12, 13] rfl ?_
  refine .fin rfl ?_
  refine W.go 99 rfl ?_
  have hl57' := hl56.trans hl67
  have hRg := Right_sp (X := C.X) s p wa xa wc xc (natI wq) l L7 (hsw5.le hl57') hok.sm (hgl5.le hl57') (hwq5.le hl57') (hxs.le hl57') (by rw [natI_len]; omega) (by omega)
  rw [natI_len, hakl] at hRg
  rw [hlfl]
  refine W.drawn (by kernel_rfl) L7 (Le.refl _) ?_
  refine DD.run' [0, 1, 2, 3, 4] rfl ?_
  refine DD.vf 5 rfl rfl rfl rfl rfl (Vf.idx1 rfl rfl rfl rfl rfl rfl rfl (hjl)) ?_
  refine DD.vf 6 rfl rfl rfl rfl rfl (Vf.load rfl rfl rfl (hl57'.cell hxc)) ?_
  refine DD.act 7 rfl rfl rfl rfl rfl (Ef.call rfl (hRg)) ((by rintro _ _ _ ⟨_, rfl, rfl, rfl, hl⟩; exact ⟨hl, rfl, .inl rfl⟩)) ?_
  rintro _ _ _ ⟨v9, rfl, rfl, rfl, hl78⟩
  rename_i L8
  have hl57 := hl57'.trans hl78
  refine DD.run' [8] rfl ?_
  refine .fin rfl ?_
  refine W.go 99 rfl ?_
  have hxs8 := hxs.le hl57
  cases hokl : okW s wq l with
  | false =>
   have hn := hno j l hl hokl
   have hr0 : rightW s (planW s wq l) = 9 ∨ rightW s (planW s wq l) = 12 := by
    rcases right_vals s (planW s wq l) with h | h | h
    ·unfold okW at hokl; rw [h] at hokl; cases hokl
    ·exact .inl h
    ·exact .inr h
   rw [if_neg (by decide)]
   generalize rightW s (planW s wq l) = rw' at *
   have hrn : rw' ≠ 0 := by rcases hr0 with h | h <;> omega
   refine W.split rfl rfl rfl (fun h => absurd h (by simp)) (fun _ => ?_)
   refine W.go 99 rfl ?_
   refine W.vf rfl rfl rfl rfl (Vf.idx1 rfl rfl rfl rfl rfl rfl rfl (hjl)) ?_
   refine W.go 99 rfl ?_
   refine W.vf rfl rfl rfl rfl (Vf.load rfl rfl rfl (hl57.cell hxc)) ?_
   refine W.go 99 rfl ?_
   refine W.eff rfl rfl rfl (Ef.call rfl (Sum_sp xa xc l L8 hxs8 (by omega) (fun x hx => by have := hl4 x hx; omega))) ?_
   rintro _ _ _ ⟨_, rfl, rfl, rfl, rfl⟩
   refine W.go 99 rfl ?_
   refine W.asLit 93 (p := false) rfl (by show some (rw' == 0) = some false; simp [hrn]) ?_
   refine W.go 99 rfl ?_
   exact W.again (again _ _ _ _ (by omega) ⟨j + 1, _, _, _, rfl, by omega, hl57, by rw [hn]; exact hbx, rfl, rfl⟩) (by exact ⟨rfl, rfl, rfl, rfl, rfl, rfl, rfl, rfl, rfl, rfl, congrArg some (inc64 (by omega)), trivial⟩) (by exact ⟨rfl, trivial⟩)
  | true =>
   have hy := hyes j l hl hokl
   have hr0 : rightW s (planW s wq l) = 0 := by unfold okW at hokl; simpa using hokl
   rw [if_pos rfl, hr0]
   have hpl : leftW (planW s wq l) = (crOf s wq l).p := rfl
   have hll' : l = (crOf s wq l).l := rfl
   rw [hpl]
   refine W.split rfl rfl rfl (fun h => absurd h (by simp)) (fun _ => ?_)
   refine W.go 99 rfl ?_
   refine W.vf rfl rfl rfl rfl (Vf.idx1 rfl rfl rfl rfl rfl rfl rfl (hjl)) ?_
   refine W.go 99 rfl ?_
   refine W.vf rfl rfl rfl rfl (Vf.load rfl rfl rfl (hl57.cell hxc)) ?_
   refine W.go 99 rfl ?_
   refine W.eff rfl rfl rfl (Ef.call rfl (Sum_sp xa xc l L8 hxs8 (by omega) (fun x hx => by have := hl4 x hx; omega))) ?_
   rintro _ _ _ ⟨_, rfl, rfl, rfl, rfl⟩
   refine W.go 99 rfl ?_
   rw [wrap64_in _ (by omega) (by omega), hcl]
   have hnew : BstX P (some (crOf s wq l)) j (crOf s wq l).c (crOf s wq l).p := ⟨j, rfl, hl, rfl, rfl⟩
   refine W.asLit 93 (p := true) rfl rfl ?_
   refine W.go 99 rfl ?_
   cases hd : docU s wq j with
   | none =>
    rw [hd] at hbx hy
    obtain ⟨rfl, rfl, rfl⟩ := hbx
    refine W.asLit 96 (p := true) rfl rfl ?_
    refine W.go 99 rfl ?_
    refine W.asLit 101 (p := true) rfl rfl ?_
    refine W.go 99 rfl ?_
    exact W.again (again _ _ _ _ (by omega) ⟨j + 1, _, _, _, rfl, by omega, hl57, by rw [hy]; exact hnew, rfl, rfl⟩) (by exact ⟨rfl, rfl, rfl, rfl, rfl, rfl, rfl, rfl, rfl, rfl, congrArg some (inc64 (by omega)), trivial⟩) (by exact ⟨rfl, trivial⟩)
   | some c =>
    rw [hd] at hbx hy
    obtain ⟨i, rfl, hPi, rfl, rfl⟩ := hbx
    refine W.asLit 96 (p := false) rfl (by show some (decide ((i : Int) < 0)) = some false; simp) ?_
    refine W.go 99 rfl ?_
    by_cases q1 : (crOf s wq l).c < c.c
    ·have ht : takeBy ltCr (some c) (crOf s wq l) = some (crOf s wq l) := if_pos (by unfold ltCr; rw [decide_eq_true q1]; rfl)
     rw [ht] at hy
     refine W.asLit 101 (p := true) rfl (by show some (decide ((crOf s wq l).c < c.c)) = some true; rw [decide_eq_true q1]) ?_
     refine W.go 99 rfl ?_
     exact W.again (again _ _ _ _ (by omega) ⟨j + 1, _, _, _, rfl, by omega, hl57, by rw [hy]; exact hnew, rfl, rfl⟩) (by exact ⟨rfl, rfl, rfl, rfl, rfl, rfl, rfl, rfl, rfl, rfl, congrArg some (inc64 (by omega)), trivial⟩) (by exact ⟨rfl, trivial⟩)
    ·refine W.asLit 101 (p := false) rfl (by show some (decide ((crOf s wq l).c < c.c)) = some false; rw [decide_eq_false q1]) ?_
     refine W.go 99 rfl ?_
     by_cases q2 : (crOf s wq l).c = c.c
     ·refine W.asLit 105 (p := true) rfl (by show some ((crOf s wq l).c == c.c) = some true; rw [q2, beq_self_eq_true]) ?_
      refine W.go 99 rfl ?_
      refine W.split rfl rfl rfl (fun q3 => W.go 99 rfl ?_) (fun q3 => W.go 99 rfl ?_)
      ·have q3' : (crOf s wq l).p < c.p := by simpa using q3
       have ht : takeBy ltCr (some c) (crOf s wq l) = some (crOf s wq l) := if_pos (by unfold ltCr; rw [decide_eq_false q1, decide_eq_true q2, decide_eq_true q3']; rfl)
       rw [ht] at hy
       exact W.again (again _ _ _ _ (by omega) ⟨j + 1, _, _, _, rfl, by omega, hl57, by rw [hy]; exact hnew, rfl, rfl⟩) (by exact ⟨rfl, rfl, rfl, rfl, rfl, rfl, rfl, rfl, rfl, rfl, congrArg some (inc64 (by omega)), trivial⟩) (by exact ⟨rfl, trivial⟩)
      ·have q3' : ¬ (crOf s wq l).p < c.p := by simpa using q3
       have ht : takeBy ltCr (some c) (crOf s wq l) = some c := if_neg (by unfold ltCr; rw [decide_eq_false q1, decide_eq_false q3']; simp)
       rw [ht] at hy
       exact W.again (again _ _ _ _ (by omega) ⟨j + 1, _, _, _, rfl, by omega, hl57, by rw [hy]; exact ⟨i, rfl, hPi, rfl, rfl⟩, rfl, rfl⟩) (by exact ⟨rfl, rfl, rfl, rfl, rfl, rfl, rfl, rfl, rfl, rfl, congrArg some (inc64 (by omega)), trivial⟩) (by exact ⟨rfl, trivial⟩)
     ·refine W.asLit 105 (p := false) rfl (by show some ((crOf s wq l).c == c.c) = some false; simp [q2]) ?_
      refine W.go 99 rfl ?_
      have ht : takeBy ltCr (some c) (crOf s wq l) = some c := if_neg (by unfold ltCr; rw [decide_eq_false q1, decide_eq_false q2]; simp)
      rw [ht] at hy
      exact W.again (again _ _ _ _ (by omega) ⟨j + 1, _, _, _, rfl, by omega, hl57, by rw [hy]; exact ⟨i, rfl, hPi, rfl, rfl⟩, rfl, rfl⟩) (by exact ⟨rfl, rfl, rfl, rfl, rfl, rfl, rfl, rfl, rfl, rfl, congrArg some (inc64 (by omega)), trivial⟩) (by exact ⟨rfl, trivial⟩)
 ·have hje : j = P.length := by simp at e2; omega
  subst hje
  clear again
  rw [hall] at hbx
  have hfin := hgl5.le hl56
  have hLfin : Le L L6 := hL4.trans (hl45.trans hl56)
  unfold crushE at hce
  cases hc : crushW s wq with
  | none =>
   rw [hc] at hbx hce
   obtain ⟨rfl, rfl, rfl⟩ := hbx
   cases hce
   refine W.go 99 rfl ?_
   refine W.split rfl rfl rfl (fun c => ?_) (fun c => absurd c (by decide))
   refine W.go 99 rfl ?_
   refine W.asLit 119 (p := true) rfl rfl ?_
   refine W.go 99 rfl ?_
   refine W.asLit 124 (p := true) rfl rfl ?_
   refine W.go 99 rfl ?_
   refine W.asLit 128 (p := true) rfl rfl ?_
   refine W.go 99 rfl ?_
   refine W.eff rfl rfl rfl (Ef.call rfl (drd L6 hfin)) ?_
   rintro _ _ _ ⟨_, rfl, rfl, rfl, hdm⟩
   refine W.go 99 rfl ?_
   exact W.retO r rfl ⟨rfl, (Dim.of_le hLfin).trans hdm⟩
  | some c =>
   rw [hc] at hbx hce
   obtain ⟨i, rfl, hPi, rfl, rfl⟩ := hbx
   cases hce
   have hil : i < P.length := (List.getElem?_eq_some_iff.1 hPi).1
   obtain ⟨hcl3, _⟩ := hli _ (List.mem_of_getElem? hPi)
   obtain ⟨pad, rfl⟩ := hrows.addr hil
   obtain ⟨xa, xc, hxc, hxs, _⟩ := hrows.row hPi
   refine W.go 99 rfl ?_
   refine W.split rfl rfl rfl (fun h => absurd h (by simp)) (fun _ => ?_)
   refine W.go 99 rfl ?_
   refine W.asLit 133 (p := true) rfl rfl ?_
   refine W.go 99 rfl ?_
   refine W.asLit 138 (p := true) rfl (by show some (c.c == c.c) = some true; rw [beq_self_eq_true]) ?_
   refine W.go 99 rfl ?_
   refine W.vf rfl rfl rfl rfl (Vf.idx1 rfl rfl rfl rfl rfl rfl rfl (hil)) ?_
   refine W.go 99 rfl ?_
   refine W.vf rfl rfl rfl rfl (Vf.load rfl rfl rfl (hl56.cell hxc)) ?_
   refine W.go 99 rfl ?_
   have hei := EqInts_sp (X := C.X) ca xa cc xc c.l c.l L6 (hci5.le hl56) (hxs.le hl56) (by omega) (by omega)
   rw [decide_eq_true rfl] at hei
   refine W.eff rfl rfl rfl (Ef.call rfl (hei)) ?_
   rintro _ _ _ ⟨_, rfl, rfl, rfl, rfl⟩
   refine W.go 99 rfl ?_
   refine W.asLit 146 (p := true) rfl rfl ?_
   refine W.go 99 rfl ?_
   refine W.eff rfl rfl rfl (Ef.call rfl (drd L6 hfin)) ?_
   rintro _ _ _ ⟨_, rfl, rfl, rfl, hdm⟩
   refine W.go 99 rfl ?_
   exact W.retO r rfl ⟨rfl, (Dim.of_le hLfin).trans hdm⟩
end Go.Mz

