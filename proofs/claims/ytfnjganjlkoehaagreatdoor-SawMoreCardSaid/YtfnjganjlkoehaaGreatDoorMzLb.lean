/- Lemmas on which the claim leans. -/
import Derived.Test.YtfnjganjlkoehaaGreatDoorMzLa
set_option maxRecDepth 100000
namespace Go.Mz
open Go.Conc Go.Proofs
variable {X : Logic Tryz.prog}
def mostW (s : Sw) (l : List (List Nat)) : Int := l.foldl (fun n w => max n (payW s w)) 0
theorem mostW_snoc (s : Sw) (l : List (List Nat)) (w : List Nat) : mostW s (l ++ [w]) = max (mostW s l) (payW s w) := by unfold mostW; rw [List.foldl_append]; rfl
def coW (s : Sw) (w : List Nat) : Int := ((crushW s w).map (·.c)).getD (-1)
def ltIx (s : Sw) (l : List (List Nat)) (a b : Nat) : Bool := decide (coW s (l.getD a []) < coW s (l.getD b []))
def bestIx (s : Sw) (l : List (List Nat)) (j : Nat) : Option Nat := firstBy (ltIx s l) ((List.range j).filter fun i => decide (mostW s l ≤ payW s (l.getD i [])))
theorem snoc_ind {α : Type} {P : List α → Prop} (h0 : P []) (h1 : ∀ l x, P l → P (l ++ [x])) (l : List α) : P l := by
 generalize hn : l.length = n
 induction n generalizing l with
 | zero => rw [List.length_eq_zero_iff] at hn; subst hn; exact h0
 | succ n ih =>
  have hne : l ≠ [] := fun e => by subst e; simp at hn
  rw [← List.dropLast_concat_getLast hne]
  exact h1 _ _ (ih _ (by simp; omega))
theorem firstBy_key {α : Type} {f : α → Int} : ∀ (l : List α) (x : α), firstBy (fun a b => decide (f a < f b)) l = some x → ∃ pre post, l = pre ++ x :: post ∧ (∀ y ∈ pre, f x < f y) ∧ ∀ y ∈ post, f x ≤ f y := by
 intro l
 induction l using snoc_ind with
 | h0 => intro x h; cases h
 | h1 l z ih =>
  intro x h
  rw [firstBy_snoc] at h
  cases ho : firstBy (fun a b => decide (f a < f b)) l with
  | none =>
   rw [ho] at h
   cases h
   have hl : l = [] := by
    cases l with
    | nil => rfl
    | cons y l =>
     exfalso
     have : ∀ (l : List α) (y : α), ∃ w, l.foldl (takeBy (fun a b => decide (f a < f b))) (some y) = some w := fun l => by
      induction l with
      | nil => intro y; exact ⟨y, rfl⟩
      | cons u l ih =>
       intro y
       rw [List.foldl_cons]
       show ∃ w, l.foldl _ (if decide (f u < f y) then some u else some y) = some w
       split
       ·exact ih u
       ·exact ih y
     obtain ⟨w, hw⟩ := this l y
     unfold firstBy at ho
     rw [List.foldl_cons] at ho
     exact absurd (hw.symm.trans ho) (by simp)
   subst hl
   exact ⟨[], [], rfl, fun y hy => (by cases hy), fun y hy => (by cases hy)⟩
  | some b =>
   rw [ho] at h
   obtain ⟨pre, post, hl, h1, h2⟩ := ih b ho
   change (if decide (f z < f b) then some z else some b) = some x at h
   by_cases e : f z < f b
   ·rw [if_pos (by simpa using e)] at h
    cases h
    refine ⟨l, [], rfl, fun y hy => ?_, fun y hy => (by cases hy)⟩
    rw [hl] at hy
    rcases List.mem_append.1 hy with hy | hy
    ·have := h1 y hy; omega
    ·rcases List.mem_cons.1 hy with rfl | hy
     ·exact e
     ·have := h2 y hy; omega
   ·rw [if_neg (by simpa using e)] at h
    cases h
    refine ⟨pre, post ++ [z], by rw [hl]; simp, h1, fun y hy => ?_⟩
    rcases List.mem_append.1 hy with hy | hy
    ·exact h2 y hy
    ·rw [List.mem_singleton.1 hy]; omega
theorem firstBy_min {α : Type} {lt : α → α → Bool} (ht : ∀ a b c, lt a b = true → lt b c = true → lt a c = true) (hi : ∀ a, lt a a = false) : ∀ (l : List α) (x : α), firstBy lt l = some x → x ∈ l ∧ ∀ y ∈ l, lt y x = false := by
 intro l
 induction l using snoc_ind with
 | h0 => intro x h; cases h
 | h1 l z ih =>
  intro x h
  rw [firstBy_snoc] at h
  cases ho : firstBy lt l with
  | none =>
   rw [ho] at h
   cases h
   have hl : l = [] := by
    cases l with
    | nil => rfl
    | cons y l =>
     exfalso
     have : ∀ (l : List α) (y : α), ∃ w, l.foldl (takeBy lt) (some y) = some w := fun l => by
      induction l with
      | nil => intro y; exact ⟨y, rfl⟩
      | cons u l ih =>
       intro y
       rw [List.foldl_cons]
       show ∃ w, l.foldl _ (if lt u y then some u else some y) = some w
       split
       ·exact ih u
       ·exact ih y
     obtain ⟨w, hw⟩ := this l y
     unfold firstBy at ho
     rw [List.foldl_cons] at ho
     exact absurd (hw.symm.trans ho) (by simp)
   subst hl
   exact ⟨by simp, fun y hy => by simp at hy; rw [hy]; exact hi _⟩
  | some b =>
   rw [ho] at h
   obtain ⟨h1, h2⟩ := ih b ho
   change (if lt z b then some z else some b) = some x at h
   by_cases e : lt z b = true
   ·rw [if_pos e] at h
    cases h
    refine ⟨by simp, fun y hy => ?_⟩
    rcases List.mem_append.1 hy with hy | hy
    ·have h3 := h2 y hy
     cases h4 : lt y z with
     | false => rfl
     | true => rw [ht _ _ _ h4 e] at h3; cases h3
    ·rw [List.mem_singleton.1 hy]; exact hi _
   ·rw [if_neg e] at h
    cases h
    refine ⟨by simp [h1], fun y hy => ?_⟩
    rcases List.mem_append.1 hy with hy | hy
    ·exact h2 y hy
    ·rw [List.mem_singleton.1 hy]; simpa using e
theorem ltL_trans : ∀ {a b c : List Nat}, ltL a b = true → ltL b c = true → ltL a c = true
 | a, [], _, h, _ => by rw [show ltL a [] = false by cases a <;> rfl] at h; cases h
 | _, _ :: _, [], _, h => by cases h
 | [], _ :: _, _ :: _, _, _ => rfl
 | a :: l, b :: k, c :: m, h1, h2 => by
  rw [ltL] at h1 h2 ⊢
  simp only [Bool.or_eq_true, decide_eq_true_eq, Bool.and_eq_true] at h1 h2 ⊢
  rcases h1 with h1 | ⟨rfl, h1⟩
  ·rcases h2 with h2 | ⟨rfl, h2⟩
   ·exact .inl (by omega)
   ·exact .inl h1
  ·rcases h2 with h2 | ⟨rfl, h2⟩
   ·exact .inl h2
   ·exact .inr ⟨rfl, ltL_trans h1 h2⟩
theorem ltB_trans (s : Sw) (a b c : Cr) (h1 : ltB s a b = true) (h2 : ltB s b c = true) : ltB s a c = true := by
 unfold ltB at h1 h2 ⊢
 split at h1
 ·rename_i e1
  simp only [Bool.or_eq_true, decide_eq_true_eq, Bool.and_eq_true] at h1
  split at h2
  ·simp only [Bool.or_eq_true, decide_eq_true_eq, Bool.and_eq_true] at h2
   rw [if_pos (by omega)]
   simp only [Bool.or_eq_true, decide_eq_true_eq, Bool.and_eq_true]
   omega
  ·rename_i e2
   rw [if_pos (by omega)]
   simp only [Bool.or_eq_true, decide_eq_true_eq, Bool.and_eq_true]
   omega
 ·rename_i e1
  split at h2
  ·simp only [Bool.or_eq_true, decide_eq_true_eq, Bool.and_eq_true] at h2
   rw [if_pos (by omega)]
   simp only [Bool.or_eq_true, decide_eq_true_eq, Bool.and_eq_true]
   omega
  ·rename_i e2
   rw [if_neg (by omega)]
   exact ltL_trans h1 h2
theorem ltB_irr (s : Sw) (a : Cr) : ltB s a a = false := by
 unfold ltB
 rw [if_neg (by simp)]
 exact ltL_irr _
theorem mask_lt {n : Nat} {w : List Nat} (hw : ∀ i ∈ w, i < n) : maskW w < 2 ^ n := by
 refine Nat.lt_pow_two_of_testBit _ fun i hi => ?_
 rw [maskW_bit]
 cases h : w.contains i with
 | false => rfl
 | true => have := hw i (List.contains_iff_mem.1 h); omega
theorem bits_asc (m : Nat) : Asc (bits5 m) := List.Pairwise.filter _ List.pairwise_lt_range
theorem cand_iff {s : Sw} (hok : SOk s) (c : Cr) : c ∈ (allW s).filterMap id ↔ c.w ∈ picksW s.wants.length s.wants.length ∧ crushW s c.w = some c := by
 unfold allW
 rw [List.mem_filterMap]
 simp only [List.mem_map, List.mem_range, id, exists_eq_right]
 constructor
 ·rintro ⟨m, hm, hc⟩
  have hw := (crushW_some hc).1
  refine ⟨?_, by rw [hw]; exact hc⟩
  rw [hw, picksW_mem (Nat.le_refl _)]
  exact ⟨bits_asc m, fun i hi => ⟨by omega, bits_wn hm i hi⟩⟩
 ·rintro ⟨h1, h2⟩
  obtain ⟨ha, hw⟩ := picks_wn h1
  refine ⟨maskW c.w, mask_lt hw, ?_⟩
  rw [bits5_mask ha fun x hx => Nat.lt_of_lt_of_le (hw x hx) hok.w5]
  exact h2
theorem served_iff {s : Sw} {w : List Nat} : w ∈ servedL s ↔ w ∈ picksW s.wants.length s.wants.length ∧ ∃ c, crushW s w = some c := by
 unfold servedL
 rw [List.mem_filter]
 unfold srvB
 rw [Option.isSome_iff_exists]
theorem bestW_of {s : Sw} (hok : SOk s) (so : List Nat → Bool) {w : List Nat} {c : Cr} (hw : w ∈ picksW s.wants.length s.wants.length) (hs : so w = true) (hc : crushW s w = some c)
  (hall : ∀ v d, v ∈ picksW s.wants.length s.wants.length → so v = true → crushW s v = some d → v ≠ w → ltB s c d = true) : crWants (bestW s so) = w := by
 have hcw := (crushW_some hc).1
 have hmem : c ∈ ((allW s).filterMap id).filter fun c => so c.w := List.mem_filter.2 ⟨(cand_iff hok c).2 ⟨by rw [hcw]; exact hw, by rw [hcw]; exact hc⟩, by rw [hcw]; exact hs⟩
 cases hb : bestW s so with
 | none =>
  exfalso
  unfold bestW at hb
  generalize ((allW s).filterMap id).filter (fun c => so c.w) = l at hmem hb
  obtain ⟨pre, post, rfl⟩ := List.append_of_mem hmem
  have : ∀ (l : List Cr) (o : Option Cr), l.foldl (takeBy (ltB s)) o = none → l = [] ∧ o = none := fun l => by
   induction l with
   | nil => intro o h; exact ⟨rfl, h⟩
   | cons x l ih =>
    intro o h
    rw [List.foldl_cons] at h
    have := (ih _ h).2
    cases o with
    | none => cases this
    | some y =>
     change (if ltB s x y then some x else some y) = none at this
     split at this <;> cases this
  have := (this _ _ hb).1
  simp at this
 | some d =>
  obtain ⟨h1, h2⟩ := firstBy_min (ltB_trans s) (ltB_irr s) _ _ hb
  have h3 := h2 c hmem
  obtain ⟨h4, h5⟩ := List.mem_filter.1 h1
  obtain ⟨h6, h7⟩ := (cand_iff hok d).1 h4
  show d.w = w
  refine Classical.byContradiction fun hne => ?_
  rw [hall d.w d h6 h5 h7 hne] at h3
  cases h3
theorem mostW_le (s : Sw) (l : List (List Nat)) : ∀ w ∈ l, payW s w ≤ mostW s l := by
 induction l using snoc_ind with
 | h0 => intro w h; cases h
 | h1 l z ih =>
  intro w hw
  rw [mostW_snoc]
  rcases List.mem_append.1 hw with hw | hw
  ·have := ih w hw; omega
  ·rw [List.mem_singleton.1 hw]; omega
theorem mostW_mem {s : Sw} (hok : SOk s) (l : List (List Nat)) (hne : l ≠ []) : ∃ w ∈ l, payW s w = mostW s l := by
 induction l using snoc_ind with
 | h0 => exact absurd rfl hne
 | h1 l z ih =>
  rw [mostW_snoc]
  by_cases h : mostW s l ≤ payW s z
  ·exact ⟨z, by simp, by omega⟩
  ·by_cases hl : l = []
   ·subst hl
    have := (pay_bd hok z).1
    have h0 : mostW s [] = 0 := rfl
    omega
   ·obtain ⟨w, h1, h2⟩ := ih hl
    exact ⟨w, by simp [h1], by omega⟩
theorem firstBy_some {α : Type} {lt : α → α → Bool} {l : List α} (h : l ≠ []) : ∃ x, firstBy lt l = some x := by
 cases hb : firstBy lt l with
 | some x => exact ⟨x, rfl⟩
 | none =>
  exfalso
  have : ∀ (l : List α) (o : Option α), l.foldl (takeBy lt) o = none → l = [] ∧ o = none := fun l => by
   induction l with
   | nil => intro o h; exact ⟨rfl, h⟩
   | cons x l ih =>
    intro o h
    rw [List.foldl_cons] at h
    have := (ih _ h).2
    cases o with
    | none => cases this
    | some y =>
     change (if lt x y then some x else some y) = none at this
     split at this <;> cases this
  exact h (this _ _ hb).1
theorem zeros_mem : ∀ {st : List Int}, (∀ x ∈ st, 0 ≤ x ∧ x ≤ 8) → List.replicate st.length 0 ∈ listsW st
 | [], _ => by simp [listsW]
 | m :: t, h => by
  have hm := h m List.mem_cons_self
  rw [listsW, List.mem_flatMap]
  exact ⟨0, List.mem_range.2 (by omega), List.mem_map.2 ⟨_, zeros_mem fun x hx => h x (List.mem_cons_of_mem _ hx), rfl⟩⟩
theorem crush_nil {s : Sw} (hok : SOk s) : ∃ c, crushW s [] = some c := by
 refine firstBy_some ?_
 rw [plansW_doc hok]
 intro h
 rw [List.map_eq_nil_iff, List.filter_eq_nil_iff] at h
 refine h _ (zeros_mem hok.sr) ?_
 unfold okW
 rw [beq_iff_eq, right_eq hok]
 have hw : wantsOf s [] = [] := rfl
 have hg : ∀ k, (List.replicate s.stock.length (0 : Int)).getD k 0 = 0 := fun k => by
  rw [List.getD_eq_getElem?_getD, List.getElem?_replicate]
  split <;> rfl
 have h1 : (List.range s.loaves.length).any (fun k => decide (s.stock.getD k 0 < tkN (wantsOf s []) k + (List.replicate s.stock.length (0 : Int)).getD k 0)) = false := by
  rw [List.any_eq_false]
  intro k hk
  have hk := List.mem_range.1 hk
  have hst := hok.st
  have := hok.sr (s.stock.getD k 0) (by rw [List.getD_eq_getElem?_getD, List.getElem?_eq_getElem (by omega)]; exact List.getElem_mem _)
  rw [hg, hw]
  simp only [decide_eq_true_eq]
  have : tkN [] k = 0 := rfl
  omega
 have h2 : (List.range s.loaves.length).any (fun k => decide ((List.replicate s.stock.length (0 : Int)).getD k 0 * sumL (s.loaves.getD k []) + suN s (wantsOf s []) k < tksN k (wantsOf s []))) = false := by
  rw [List.any_eq_false]
  intro k _
  rw [hg, hw, Int.zero_mul]
  simp [suN, tksN, sumL]
 have h3 : ¬ sumL (sugarD s (wantsOf s []) (List.replicate s.stock.length 0)) < tksN (-1) (wantsOf s []) := by
  have := (sumL_bk 4000 _ (sugarD_bd hok (wantsOf s []) (l := List.replicate s.stock.length 0) (fun k => by rw [hg]; decide) (by simp [hw]))).1
  have h0 : tksN (-1) (wantsOf s []) = 0 := rfl
  omega
 rw [h1, h2, if_neg (by decide), if_neg (by decide), if_neg h3]
theorem nil_picks (n d : Nat) : [] ∈ picksW n d := by rw [picksW_eq]; exact List.mem_cons_self
theorem served_ne {s : Sw} (hok : SOk s) : servedL s ≠ [] := fun h => by
 have : [] ∈ servedL s := served_iff.2 ⟨nil_picks _ _, crush_nil hok⟩
 rw [h] at this; cases this
theorem served_sorted (s : Sw) : (servedL s).Pairwise fun a b => ltL a b = true := (picksW_sorted _ _).filter _
theorem getD_mem {l : List (List Nat)} {i : Nat} (h : i < l.length) : l.getD i [] ∈ l := by rw [List.getD_eq_getElem?_getD, List.getElem?_eq_getElem h]; exact List.getElem_mem h
theorem bestIx_some {s : Sw} (hok : SOk s) : ∃ i, bestIx s (servedL s) (servedL s).length = some i := by
 refine firstBy_some fun h => ?_
 obtain ⟨w, h1, h2⟩ := mostW_mem hok _ (served_ne hok)
 obtain ⟨i, hi, rfl⟩ := List.getElem_of_mem h1
 rw [List.filter_eq_nil_iff] at h
 refine h i (List.mem_range.2 hi) ?_
 rw [List.getD_eq_getElem?_getD, List.getElem?_eq_getElem hi, decide_eq_true_eq]
 exact Int.le_of_eq h2.symm
theorem bestIx_eq {s : Sw} (hok : SOk s) {i : Nat} (h : bestIx s (servedL s) (servedL s).length = some i) :
  i < (servedL s).length ∧ crWants (bestW s fun _ => true) = (servedL s).getD i [] ∧ payW s ((servedL s).getD i []) = mostW s (servedL s) := by
 obtain ⟨pre, post, hl, h1, h2⟩ := firstBy_key (f := fun i => coW s ((servedL s).getD i [])) _ _ h
 have hsort : (pre ++ i :: post).Pairwise (· < ·) := by rw [← hl]; exact List.Pairwise.filter _ List.pairwise_lt_range
 have hmem : i ∈ (List.range (servedL s).length).filter fun i => decide (mostW s (servedL s) ≤ payW s ((servedL s).getD i [])) := by rw [hl]; simp
 obtain ⟨hi, hp⟩ := List.mem_filter.1 hmem
 have hi := List.mem_range.1 hi
 rw [decide_eq_true_eq] at hp
 have hle := mostW_le s _ _ (getD_mem hi)
 have hpe : payW s ((servedL s).getD i []) = mostW s (servedL s) := by omega
 obtain ⟨hw, c, hc⟩ := served_iff.1 (getD_mem hi)
 refine ⟨hi, bestW_of hok (fun _ => true) hw rfl hc fun v d hv _ hd hne => ?_, hpe⟩
 have hcw := (crushW_some hc).1
 have hdw := (crushW_some hd).1
 have hvs : v ∈ servedL s := served_iff.2 ⟨hv, d, hd⟩
 have hvp := mostW_le s _ _ hvs
 unfold ltB
 rw [hcw, hdw]
 by_cases e : payW s v = mostW s (servedL s)
 ·obtain ⟨j, hj, hje⟩ := List.getElem_of_mem hvs
  have hgj : (servedL s).getD j [] = v := by rw [List.getD_eq_getElem?_getD, List.getElem?_eq_getElem hj, ← hje]; rfl
  have hjm : j ∈ pre ++ i :: post := by
   rw [← hl]
   exact List.mem_filter.2 ⟨List.mem_range.2 hj, by rw [hgj, decide_eq_true_eq]; omega⟩
  have cc : coW s ((servedL s).getD i []) = c.c := by unfold coW; rw [hc]; rfl
  have cd : coW s v = d.c := by unfold coW; rw [hd]; rfl
  rcases List.mem_append.1 hjm with hjm | hjm
  ·have := h1 j hjm
   simp only [hgj] at this
   rw [if_pos (by omega)]
   simp only [Bool.or_eq_true, decide_eq_true_eq, Bool.and_eq_true]
   omega
  ·rcases List.mem_cons.1 hjm with rfl | hjm
   ·exact absurd hgj.symm hne
   ·have h3 := h2 j hjm
    simp only [hgj] at h3
    by_cases e2 : c.c = d.c
    ·rw [if_neg (by omega)]
     have hij : i < j := (List.pairwise_cons.1 (List.pairwise_append.1 hsort).2.1).1 j hjm
     have := List.pairwise_iff_getElem.1 (served_sorted s) i j hi hj hij
     rw [hje] at this
     rw [List.getD_eq_getElem?_getD, List.getElem?_eq_getElem hi]
     exact this
    ·rw [if_pos (by omega)]
     simp only [Bool.or_eq_true, decide_eq_true_eq, Bool.and_eq_true]
     omega
 ·rw [if_pos (by omega)]
  simp only [Bool.or_eq_true, decide_eq_true_eq, Bool.and_eq_true]
  omega
end Go.Mz


namespace Go.Mz
open Go
theorem okW_iff {s : Sw} (hok : SOk s) {w : List Nat} {l : List Int} : okW s w l = true ↔
  (∀ k, k < s.loaves.length → tkN (wantsOf s w) k + l.getD k 0 ≤ s.stock.getD k 0) ∧ (∀ k, k < s.loaves.length → tksN k (wantsOf s w) ≤ l.getD k 0 * sumL (s.loaves.getD k []) + suN s (wantsOf s w) k) ∧ tksN (-1) (wantsOf s w) ≤ sumL (sugarD s (wantsOf s w) l) := by
 unfold okW
 rw [right_eq hok]
 constructor
 ·intro h
  split at h
  ·simp at h
  ·rename_i h1
   split at h
   ·simp at h
   ·rename_i h2
    split at h
    ·simp at h
    ·rename_i h3
     simp only [List.any_eq_true, List.mem_range, decide_eq_true_eq, not_exists, not_and, Int.not_lt] at h1 h2 h3
     exact ⟨fun k hk => h1 k hk, fun k hk => h2 k hk, h3⟩
 ·rintro ⟨h1, h2, h3⟩
  rw [if_neg, if_neg, if_neg (by omega)]; · rfl
  ·simp only [List.any_eq_true, List.mem_range, decide_eq_true_eq, not_exists, not_and, Int.not_lt]
   exact h2
  ·simp only [List.any_eq_true, List.mem_range, decide_eq_true_eq, not_exists, not_and, Int.not_lt]
   exact h1
theorem sum_map_le {n : Nat} {f g : Nat → Int} (h : ∀ k, k < n → f k ≤ g k) : sumL ((List.range n).map f) ≤ sumL ((List.range n).map g) := by
 induction n with
 | zero => exact Int.le_refl _
 | succ n ih =>
  rw [List.range_succ, List.map_append, List.map_append, sumL_append, sumL_append]
  have := ih fun k hk => h k (by omega)
  have := h n (by omega)
  simp only [List.map_cons, List.map_nil, sumL_cons, sumL_nil]; omega
theorem mem_lists : ∀ {st l : List Int}, l.length = st.length → (∀ k, k < st.length → 0 ≤ l.getD k 0 ∧ l.getD k 0 ≤ st.getD k 0) → l ∈ listsW st
 | [], l, hl, _ => by
  have : l = [] := List.length_eq_zero_iff.1 hl
  subst this
  simp [listsW]
 | m :: st, l, hl, h => by
  obtain ⟨x, t, rfl⟩ : ∃ x t, l = x :: t := by
   cases l with
   | nil => simp at hl
   | cons x t => exact ⟨x, t, rfl⟩
  have h0 := h 0 (by simp)
  simp at h0
  rw [listsW, List.mem_flatMap]
  refine ⟨x.toNat, List.mem_range.2 (by omega), ?_⟩
  rw [show ((x.toNat : Nat) : Int) = x by omega]
  refine List.mem_map.2 ⟨t, mem_lists (by simpa using hl) fun k hk => ?_, rfl⟩
  have := h (k + 1) (by simp; omega)
  simpa using this
theorem plans_iff {s : Sw} (hok : SOk s) {w : List Nat} {l : List Int} : l ∈ plansW s w ↔ l ∈ listsW s.stock ∧ okW s w l = true := by
 rw [plansW_doc hok, List.mem_filter]
theorem ltCr_trans (a b c : Cr) (h1 : ltCr a b = true) (h2 : ltCr b c = true) : ltCr a c = true := by
 unfold ltCr at *
 simp at *
 omega
theorem ltCr_irr (a : Cr) : ltCr a a = false := by unfold ltCr; simp
theorem crush_min {s : Sw} {w : List Nat} {c : Cr} (h : crushW s w = some c) : (∃ l ∈ plansW s w, c = crOf s w l) ∧ ∀ l ∈ plansW s w, ltCr (crOf s w l) c = false := by
 obtain ⟨h1, h2⟩ := firstBy_min ltCr_trans ltCr_irr _ _ h
 obtain ⟨l, hl, he⟩ := List.mem_map.1 h1
 exact ⟨⟨l, hl, he.symm⟩, fun l hl => h2 _ (List.mem_map.2 ⟨l, hl, rfl⟩)⟩
theorem crush_le {s : Sw} {w : List Nat} {l : List Int} (hl : l ∈ plansW s w) : ∃ c, crushW s w = some c ∧ c.c ≤ sumL (planW s w l).t := by
 obtain ⟨c, hc⟩ := firstBy_some (lt := ltCr) (l := (plansW s w).map (crOf s w)) (fun h => by
  have h1 := List.mem_map.2 ⟨l, hl, (rfl : crOf s w l = crOf s w l)⟩
  rw [h] at h1; cases h1)
 have hc' : crushW s w = some c := hc
 refine ⟨c, hc', ?_⟩
 have h2 := (crush_min hc').2 l hl
 unfold ltCr at h2
 rw [Bool.or_eq_false_iff, decide_eq_false_iff_not] at h2
 have h3 := h2.1
 have h4 : (crOf s w l).c = sumL (planW s w l).t := rfl
 omega
end Go.Mz


namespace Go.Mz
open Go
structure OkX (s : Sw) (xs : List Want) (l : List Int) : Prop where
 a : ∀ k, k < s.loaves.length → tkN xs k + l.getD k 0 ≤ s.stock.getD k 0
 b : ∀ k, k < s.loaves.length → tksN k xs ≤ l.getD k 0 * sumL (s.loaves.getD k []) + suN s xs k
 c : tksN (-1) xs ≤ sumL (sugarD s xs l)
theorem okX_iff {s : Sw} (hok : SOk s) {w : List Nat} {l : List Int} : okW s w l = true ↔ OkX s (wantsOf s w) l := by
 rw [okW_iff hok]
 exact ⟨fun ⟨h1, h2, h3⟩ => ⟨h1, h2, h3⟩, fun h => ⟨h.a, h.b, h.c⟩⟩
theorem cones_eq {s : Sw} (hok : SOk s) (w : List Nat) (l : List Int) : sumL (planW s w l).t = sumL ((List.range s.loaves.length).map fun k => tkN (wantsOf s w) k + l.getD k 0) := by
 rw [planW_eq hok, sum3]
 have h1 := hok.l1
 have h3 := hok.l3
 have far : ∀ k, s.loaves.length ≤ k → tkN (wantsOf s w) k = 0 := fun k hk => by
  unfold tkN
  rw [show List.countP (isTk k) (wantsOf s w) = 0 from List.countP_eq_zero.2 fun x hx => by
   have := (wants_mem hok hx).k1
   unfold isTk
   simp
   omega]
  rfl
 have : s.loaves.length = 1 ∨ s.loaves.length = 2 ∨ s.loaves.length = 3 := by omega
 rcases this with e | e | e
 ·rw [e]
  simp [List.range_succ, lfN, e, far 1 (by omega), far 2 (by omega), sumL]
 ·rw [e]
  simp [List.range_succ, lfN, e, far 2 (by omega), sumL]
 ·rw [e]
  simp [List.range_succ, lfN, e, sumL]
theorem plan_in {s : Sw} (hok : SOk s) {w : List Nat} {l : List Int} (hl : l.length = s.stock.length) (h0 : ∀ k, k < s.stock.length → 0 ≤ l.getD k 0) (h : OkX s (wantsOf s w) l) : l ∈ plansW s w := by
 refine (plans_iff hok).2 ⟨mem_lists hl fun k hk => ⟨h0 k hk, ?_⟩, (okX_iff hok).2 h⟩
 have := h.a k (by have := hok.st; omega)
 have := (tkN_bd (wantsOf s w) k).1
 omega
theorem plan_out {s : Sw} (hok : SOk s) {w : List Nat} {l : List Int} (h : l ∈ plansW s w) : l.length = s.stock.length ∧ (∀ k, 0 ≤ l.getD k 0) ∧ OkX s (wantsOf s w) l := by
 obtain ⟨h1, h2⟩ := (plans_iff hok).1 h
 obtain ⟨h3, h4⟩ := listsW_mem h1
 exact ⟨h3, fun k => (h4 k).1, (okX_iff hok).1 h2⟩
theorem served_by {s s' : Sw} (hok : SOk s) (hok' : SOk s') {w w' : List Nat} {c : Cr} (hc : crushW s w = some c)
  (H : ∀ l : List Int, l.length = s.stock.length → (∀ k, 0 ≤ l.getD k 0) → OkX s (wantsOf s w) l → ∃ l' : List Int, l'.length = s'.stock.length ∧ (∀ k, k < s'.stock.length → 0 ≤ l'.getD k 0) ∧ OkX s' (wantsOf s' w') l' ∧ sumL ((List.range s'.loaves.length).map fun k => tkN (wantsOf s' w') k + l'.getD k 0) ≤ sumL ((List.range s.loaves.length).map fun k => tkN (wantsOf s w) k + l.getD k 0)) :
  ∃ c', crushW s' w' = some c' ∧ c'.c ≤ c.c := by
 obtain ⟨⟨l, hl, rfl⟩, _⟩ := crush_min hc
 obtain ⟨h1, h2, h3⟩ := plan_out hok hl
 obtain ⟨l', g1, g2, g3, g4⟩ := H l h1 h2 h3
 obtain ⟨c', hc', hle⟩ := crush_le (plan_in hok' g1 g2 g3)
 refine ⟨c', hc', ?_⟩
 rw [cones_eq hok'] at hle
 show c'.c ≤ sumL (planW s w l).t
 rw [cones_eq hok]
 omega
theorem wantsOf_app (s : Sw) (a b : List Nat) : wantsOf s (a ++ b) = wantsOf s a ++ wantsOf s b := by unfold wantsOf; rw [List.filterMap_append]
end Go.Mz


namespace Go.Mz
open Go
def strip (x : Want) : Want := { x with pay := 0 }
structure Better (s s' : Sw) : Prop where
 lo : s'.loaves = s.loaves
 sl : s'.stock.length = s.stock.length
 st : ∀ k, s.stock.getD k 0 ≤ s'.stock.getD k 0
 ke : s'.kerf ≤ s.kerf
 wt : s'.wants.map strip = s.wants.map strip
 py : ∀ (i : Nat) (x y : Want), s.wants[i]? = some x → s'.wants[i]? = some y → x.pay ≤ y.pay
theorem Better.wl {s s' : Sw} (h : Better s s') : s'.wants.length = s.wants.length := by
 have := congrArg List.length h.wt
 simpa using this
theorem wants_strip (s : Sw) (w : List Nat) : (wantsOf s w).map strip = w.filterMap ((s.wants.map strip)[·]?) := by
 unfold wantsOf
 rw [List.map_filterMap]
 congr 1
 funext i
 rw [List.getElem?_map]
theorem tkN_strip (xs : List Want) (k : Nat) : tkN (xs.map strip) k = tkN xs k := by
 unfold tkN
 rw [List.countP_map]
 rfl
theorem tksN_strip (k : Int) (xs : List Want) : tksN k (xs.map strip) = tksN k xs := by
 unfold tksN
 rw [List.filter_map, List.map_map]
 rfl
theorem suN_strip (s : Sw) (xs : List Want) (k : Nat) : suN s (xs.map strip) k = suN s xs k := by
 unfold suN
 rw [List.filter_map, List.map_map]
 rfl
theorem suN_le {s s' : Sw} (h : ∀ x, restW s x ≤ restW s' x) (xs : List Want) (k : Nat) : suN s xs k ≤ suN s' xs k := by
 induction xs with
 | nil => exact Int.le_refl _
 | cons x xs ih => rw [suN_cons, suN_cons]; have := h x; split <;> omega
theorem Better.rest {s s' : Sw} (h : Better s s') (x : Want) : restW s x ≤ restW s' x := by
 unfold restW loafAt
 rw [h.lo]
 have := h.ke
 omega
theorem Better.ok {s s' : Sw} (h : Better s s') {w : List Nat} {l : List Int} (ho : OkX s (wantsOf s w) l) : OkX s' (wantsOf s' w) l := by
 have e : (wantsOf s' w).map strip = (wantsOf s w).map strip := by rw [wants_strip, wants_strip, h.wt]
 have e1 : ∀ k, tkN (wantsOf s' w) k = tkN (wantsOf s w) k := fun k => by rw [← tkN_strip, e, tkN_strip]
 have e2 : ∀ k, tksN k (wantsOf s' w) = tksN k (wantsOf s w) := fun k => by rw [← tksN_strip, e, tksN_strip]
 have e3 : ∀ k, suN s (wantsOf s w) k ≤ suN s' (wantsOf s' w) k := fun k => by
  rw [← suN_strip s' (wantsOf s' w), e, suN_strip]
  exact suN_le h.rest _ k
 refine ⟨fun k hk => ?_, fun k hk => ?_, ?_⟩
 ·rw [e1]; have := ho.a k (by rw [← h.lo]; exact hk); have := h.st k; omega
 ·rw [e2, h.lo]; have := ho.b k (by rw [← h.lo]; exact hk); have := e3 k; omega
 ·rw [e2]
  have h1 := ho.c
  have : sumL (sugarD s (wantsOf s w) l) ≤ sumL (sugarD s' (wantsOf s' w) l) := by
   unfold sugarD
   rw [h.lo]
   exact sum_map_le fun k _ => by have := e3 k; omega
  omega
theorem Better.tk {s s' : Sw} (h : Better s s') (w : List Nat) (k : Nat) : tkN (wantsOf s' w) k = tkN (wantsOf s w) k := by
 rw [← tkN_strip, wants_strip, h.wt, ← wants_strip, tkN_strip]
theorem Better.crush {s s' : Sw} (hok : SOk s) (hok' : SOk s') (h : Better s s') {w : List Nat} {c : Cr} (hc : crushW s w = some c) : ∃ c', crushW s' w = some c' ∧ c'.c ≤ c.c :=
 served_by hok hok' hc fun l hl h0 ho => ⟨l, by rw [hl, h.sl], fun k _ => h0 k, h.ok ho, by rw [h.lo]; exact sum_map_le fun k _ => by rw [h.tk]; exact Int.le_refl _⟩
theorem Better.pay {s s' : Sw} (h : Better s s') : ∀ w : List Nat, payW s w ≤ payW s' w
 | [] => Int.le_refl _
 | i :: w => by
  have ih := Better.pay h w
  have e : ∀ s : Sw, payW s (i :: w) = payW s [i] + payW s w := fun s => by
   unfold payW
   rw [show i :: w = [i] ++ w from rfl, wantsOf_app, List.map_append, sumL_append]
  rw [e s, e s']
  have h1 : payW s [i] ≤ payW s' [i] := by
   have hl := h.wl
   have p1 : ∀ s : Sw, payW s [i] = match s.wants[i]? with | some x => x.pay | none => 0 := fun s => by
    unfold payW wantsOf
    rw [List.filterMap_cons]
    cases s.wants[i]? <;> simp [sumL]
   rw [p1, p1]
   cases e1 : s.wants[i]? with
   | none =>
    rw [List.getElem?_eq_none_iff] at e1
    rw [List.getElem?_eq_none (by omega)]
    exact Int.le_refl _
   | some x =>
    have hi := (List.getElem?_eq_some_iff.1 e1).1
    rw [List.getElem?_eq_getElem (show i < s'.wants.length by omega)]
    exact h.py i x _ e1 (List.getElem?_eq_getElem _)
  omega
theorem best_pay {s : Sw} (hok : SOk s) : payW s (crWants (bestW s fun _ => true)) = mostW s (servedL s) := by
 obtain ⟨i, hi⟩ := bestIx_some hok
 obtain ⟨_, h2, h3⟩ := bestIx_eq hok hi
 rw [h2, h3]
theorem Better.most {s s' : Sw} (hok : SOk s) (hok' : SOk s') (h : Better s s') : mostW s (servedL s) ≤ mostW s' (servedL s') := by
 obtain ⟨w, hw, hp⟩ := mostW_mem hok (servedL s) (served_ne hok)
 obtain ⟨h1, c, hc⟩ := served_iff.1 hw
 obtain ⟨c', hc', _⟩ := h.crush hok hok' hc
 have hw' : w ∈ servedL s' := served_iff.2 ⟨by rw [h.wl]; exact h1, c', hc'⟩
 have := mostW_le s' (servedL s') w hw'
 have := h.pay w
 omega
end Go.Mz


namespace Go.Mz
open Go
section
variable {s s' : Sw} {f g : Nat → Nat}
variable {xs : List Want} (hxs : ∀ x ∈ xs, WtOk s.loaves x)
include hxs
end
end Go.Mz


namespace Go.Mz
open Go
end Go.Mz


namespace Go.Mz
open Go
theorem sawE_lo {s : Sw} (h : sawE s = 0) : ∀ x ∈ s.loaves, loafE x = 0 := by
 unfold sawE at h
 split at h
 ·rename_i h1; exact absurd h h1
 ·split at h
  ·rename_i h2; exact absurd h h2
  ·rename_i h2
   simp only [ne_eq, Decidable.not_not, loavesE_0] at h2
   exact h2
theorem sawE_s4 {s : Sw} (h : sawE s = 0) : ∀ x ∈ s.stock, 0 ≤ x ∧ x ≤ 4 := by
 unfold sawE at h
 split at h
 ·rename_i h1; exact absurd h h1
 ·split at h
  ·rename_i h2; exact absurd h h2
  ·split at h
   ·cases h
   ·split at h
    ·cases h
    ·rename_i h4
     simp only [Bool.not_eq_true', Bool.not_eq_false, stockB_iff] at h4
     exact h4
theorem sawE_of {s : Sw} (h : SOk s) (hl : ∀ x ∈ s.loaves, loafE x = 0) (h4 : ∀ x ∈ s.stock, 0 ≤ x ∧ x ≤ 4) : sawE s = 0 :=
 sawE_mk h.l1 h.l3 hl h.st h4 ⟨h.k0, h.k3⟩ h.w5 fun x hx => wantE_0' (h.wt x hx)
end Go.Mz


set_option maxRecDepth 100000
namespace Go.Mz
open Go.Conc Go.Proofs
variable {X : Logic Tryz.prog}
end Go.Mz


set_option maxRecDepth 100000
namespace Go.Mz
open Go.Conc Go.Proofs
variable {X : Logic Tryz.prog}
end Go.Mz


set_option maxRecDepth 100000
namespace Go.Mz
open Go.Conc Go.Proofs
variable {Post : Value → World → Prop} {W0 : World}
theorem SlAt.congr {α : Type} {L : LH} {ad : Option Addr} {k : Nat} {enc : α → List Value} {l l' : List α} (h : SlAt L ad k enc l) (e : l.map enc = l'.map enc) : SlAt L ad k enc l' := fun i x hx => by
 have h1 : (l.map enc)[i]? = some (enc x) := by rw [e, List.getElem?_map, hx]; rfl
 rw [List.getElem?_map, Option.map_eq_some_iff] at h1
 obtain ⟨x0, h2, h3⟩ := h1
 rw [← h3]
 exact h i x0 h2
theorem stock_better {s : Sw} {k : Nat} {y : Int} (hk : k < s.stock.length) (h : s.stock.getD k 0 ≤ y) : Better s { s with stock := s.stock.set k y } :=
 ⟨rfl, List.length_set, fun j => by
  show s.stock.getD j 0 ≤ (s.stock.set k y).getD j 0
  rw [List.getD_eq_getElem?_getD (l := s.stock.set k y), List.getElem?_set]
  by_cases e : k = j
  ·subst e; rw [if_pos rfl, if_pos hk]; exact h
  ·rw [if_neg e, ← List.getD_eq_getElem?_getD]; exact Int.le_refl _, Int.le_refl _, rfl, fun i x y hx hy => by
  have hx' : s.wants[i]? = some x := hx
  have hy' : s.wants[i]? = some y := hy
  rw [hx'] at hy'
  cases hy'
  exact Int.le_refl _⟩
theorem stock_saw {s : Sw} (he : sawE s = 0) {k : Nat} {y : Int} (h : 0 ≤ y ∧ y ≤ 4) : sawE { s with stock := s.stock.set k y } = 0 := by
 have hok := sawE_0 he
 have h4 : ∀ x ∈ s.stock.set k y, 0 ≤ x ∧ x ≤ 4 := fun x hx => by
  rcases List.mem_or_eq_of_mem_set hx with h1 | rfl
  ·exact sawE_s4 he x h1
  ·exact h
 exact sawE_of ⟨hok.l1, hok.l3, hok.lf, by show (s.stock.set k y).length = _; rw [List.length_set]; exact hok.st, fun x hx => by have := h4 x hx; omega, hok.k0, hok.k3, hok.w5, hok.wt⟩ (fun x hx => sawE_lo he x hx) h4
theorem pay_better {s : Sw} {w : Nat} {x : Want} {y : Int} (hx : s.wants[w]? = some x) (h : x.pay ≤ y) : Better s { s with wants := s.wants.set w { x with pay := y } } := by
 obtain ⟨hw, hxw⟩ := List.getElem?_eq_some_iff.1 hx
 refine ⟨rfl, rfl, fun _ => Int.le_refl _, Int.le_refl _, ?_, fun i a c ha hc => ?_⟩
 ·show (s.wants.set w { x with pay := y }).map strip = _
  refine List.ext_getElem? fun j => ?_
  rw [List.getElem?_map, List.getElem?_map, List.getElem?_set]
  by_cases e : w = j
  ·subst e; rw [if_pos rfl, if_pos hw, hx]; rfl
  ·rw [if_neg e]
 ·have hc' : (s.wants.set w { x with pay := y })[i]? = some c := hc
  rw [List.getElem?_set] at hc'
  by_cases e : w = i
  ·subst e
   rw [if_pos rfl, if_pos hw] at hc'
   cases hc'
   rw [hx] at ha
   cases ha
   exact h
  ·rw [if_neg e, ha] at hc'
   cases hc'
   exact Int.le_refl _
theorem pay_saw {s : Sw} (he : sawE s = 0) {w : Nat} {x : Want} {y : Int} (hx : s.wants[w]? = some x) (h : 0 ≤ y ∧ y ≤ 30) : sawE { s with wants := s.wants.set w { x with pay := y } } = 0 := by
 have hok := sawE_0 he
 refine sawE_of ⟨hok.l1, hok.l3, hok.lf, hok.st, hok.sr, hok.k0, hok.k3, by show (s.wants.set w _).length ≤ 5; rw [List.length_set]; exact hok.w5, fun z hz => ?_⟩ (fun x hx => sawE_lo he x hx) (fun x hx => sawE_s4 he x hx)
 rcases List.mem_or_eq_of_mem_set hz with h1 | rfl
 ·exact hok.wt z h1
 ·have := hok.wt x (List.mem_of_getElem? hx)
  exact ⟨this.s0, this.s2, this.k0, this.k1, this.a0, this.a1, h.1, h.2⟩
theorem kerf_better2 {s : Sw} {n : Nat} (h : (n : Int) ≤ s.kerf) : Better s (kerfK s n) :=
 ⟨rfl, rfl, fun j => Int.le_refl _, h, rfl, fun i x y hx hy => by
  have hx' : s.wants[i]? = some x := hx
  have hy' : s.wants[i]? = some y := hy
  rw [hx'] at hy'
  cases hy'
  exact Int.le_refl _⟩
theorem kerf_saw2 {s : Sw} (he : sawE s = 0) {n : Nat} (hn : n ≤ 3) : sawE (kerfK s n) = 0 := sawE_of ((sawE_0 he).kerf hn) (fun x hx => sawE_lo he x hx) (fun x hx => sawE_s4 he x hx)
theorem MoF_run (na : Option Addr) (nc : Nat) (nums : List Int) (L : LH) (hn : IntsAt L na nums) (hgl : GlOk L) (hl2 : nums.length ≤ 140737488355328)
    (hQ : ∀ v L' w, (v = .bool true ∧ Dim L L') → Sub L' w → Same W0 w → Post v w) :
    FGo Tryz.prog Post W0 (G (Frame.enter Tryz.prog 8 [.slice na nums.length nc].toArray .normal) []) L := by
  refine root_enter (n := 110) (s := 2) Tryz.func8 rfl rfl (by kernel_rfl) rfl rfl hQ fun C hX _ hL0 rt => ?_
  have drd : ∀ L2, GlOk L2 → Sp C.X 21 [] L2 (fun v L' => v = .bool true ∧ Dim L2 L') := fun L2 h => by rw [hX]; exact cut_sp L2 h
  refine W.go 99 rfl ?_
  refine W.eff rfl rfl rfl (Ef.call rfl (NewHat_sp na nc nums L hn)) ?_
  rintro _ _ _ ⟨_, rfl, rfl, b, rfl, hb, hle1, hh1⟩
  refine W.go 99 rfl ?_
  rename_i L1
  have hb1 := le_but hb hle1
  refine W.eff rfl rfl rfl (Ef.call rfl (SawOf_sp b na nc nums 0 3 4 L1 hh1 (by omega) hl2 (by omega) (by omega) (by omega))) ?_
  rintro _ _ _ ⟨_, rfl, rfl, s, p, m, rfl, ho, hm, hle2, hh2, hsw⟩
  refine W.go 99 rfl ?_
  rename_i L2
  have hok := sawE_0 ho.e
  have hL2 : Le L (L2.but b) := hb1.trans (but_but hle2)
  have hbs := Best_sp (Post := Post) (W0 := W0) s p (L2.but b) hsw hok.sm
  have hBE : BestE s = (crWants (bestW s fun _ => true), payW s (crWants (bestW s fun _ => true)), 0) := by unfold BestE; rw [if_neg (by simp [ho.e])]
  rw [← hX, hBE] at hbs
  refine W.eff rfl rfl rfl (Ef.call rfl (hbs.frame (but_le L2 b))) ?_
  rintro _ _ _ ⟨_, rfl, rfl, F0, ⟨ga, gc, rfl, hgi, hd3⟩, hp3⟩
  rename_i L3
  have hb2 : (L2.but b) b = none := by unfold LH.but; rw [if_pos rfl]
  obtain ⟨sd2, gb2⟩ := hh2.blk
  have hF0 : F0 b = none := hp3.out hb2 (by rw [gb2]; exact fun e => by cases e)
  have hsw0 := hd3.sw hsw
  have hni0 : IntsAt F0 na nums := hd3.sl hh2.ints
  have hh3 : HatAt L3 b na nc nums m := ⟨⟨sd2, hp3.keep b _ hb2 gb2⟩, hni0.le (le_but hF0 hp3.le)⟩
  have hl1 := hok.l1
  have hl3 := hok.l3
  dsimp only at hgi ⊢
  refine W.go 99 rfl ?_
  rw [wrap64_in ((s.loaves.length : Int) - 1) (by omega) (by omega), show (s.loaves.length : Int) - 1 = ((s.loaves.length - 1 : Nat) : Int) by omega]
  refine W.eff rfl rfl rfl (Ef.call rfl (To_sp b na nc nums m (s.loaves.length - 1) L3 hh3 (by omega) hl2 (by omega))) ?_
  rintro _ _ _ ⟨_, rfl, rfl, ⟨k, rfl, hk⟩, hk4, hs4⟩
  refine W.go 99 rfl ?_
  rename_i L4
  have hh4 := hh3.next hk4 hs4
  have hl04 : Le F0 L4 := fun q x hx => by
    have hq : q ≠ b := fun e => by subst e; rw [hF0] at hx; cases hx
    rw [hk4 _ hq]; exact hp3.le _ _ hx
  have hkl : k < s.stock.length := by have := hok.st; omega
  refine W.drawn (by kernel_rfl) F0 hl04 ?_
  refine DD.run' [0, 2, 4, 6, 7, 8] rfl ?_
  refine DD.act 1 rfl rfl rfl rfl rfl (Ef.call rfl (((DupSaw2_sp s p F0 hsw0 hok.sm).frame hl04))) ((by rintro _ _ _ ⟨_, rfl, rfl, _, ⟨_, _, hd⟩, hpo⟩; exact ⟨hd.at_.2.trans hpo.le, rfl, .inl rfl⟩)) ?_
  rintro _ _ _ ⟨v1, rfl, rfl, G1, ⟨p1, F1, hd1⟩, hpo1⟩
  rename_i L5
  have hl05 := hd1.at_.2.trans hpo1.le
  refine DD.act 3 rfl rfl rfl rfl rfl (Ef.call rfl (((DupSaw2_sp s p F0 hsw0 hok.sm).frame hl05))) ((by rintro _ _ _ ⟨_, rfl, rfl, _, ⟨_, _, hd⟩, hpo⟩; exact ⟨hd.at_.2.trans hpo.le, rfl, .inl rfl⟩)) ?_
  rintro _ _ _ ⟨v2, rfl, rfl, G2, ⟨p2, F2, hd2⟩, hpo2⟩
  rename_i L6
  have hl06 := hd2.at_.2.trans hpo2.le
  refine DD.act 5 rfl rfl rfl rfl rfl (Ef.call rfl (((DupSaw2_sp s p F0 hsw0 hok.sm).frame hl06))) ((by rintro _ _ _ ⟨_, rfl, rfl, _, ⟨_, _, hd⟩, hpo⟩; exact ⟨hd.at_.2.trans hpo.le, rfl, .inl rfl⟩)) ?_
  rintro _ _ _ ⟨v3, rfl, rfl, G3, ⟨p3, F3, hd3'⟩, hpo3⟩
  rename_i L7
  have hl07 := hd3'.at_.2.trans hpo3.le
  have e1 := hd1.v
  have e2 := hd2.v
  have e3 := hd3'.v
  subst e1 e2 e3
  refine DD.act 9 rfl rfl rfl rfl rfl (Ef.sto rfl) (by rintro _ _ _ ⟨rfl, rfl, rfl⟩; exact ⟨hl07, rfl, .inl rfl⟩) ?_
  rintro _ _ _ ⟨rfl, rfl, rfl⟩
  refine DD.act 10 rfl rfl rfl rfl rfl (Ef.sto rfl) (by rintro _ _ _ ⟨rfl, rfl, rfl⟩; exact ⟨hl07, rfl, .inl rfl⟩) ?_
  rintro _ _ _ ⟨rfl, rfl, rfl⟩
  refine DD.act 11 rfl rfl rfl rfl rfl (Ef.sto rfl) (by rintro _ _ _ ⟨rfl, rfl, rfl⟩; exact ⟨hl07, rfl, .inr rfl⟩) ?_
  rintro _ _ L7 ⟨rfl, rfl, rfl⟩
  refine .fin rfl ?_
  refine W.go 99 rfl ?_
  have hl57 : Le L5 L7 := (hpo2.all hd2.at_.2 hl05).trans (hpo3.all hd3'.at_.2 hl06)
  have hl47 : Le L4 L7 := (hpo1.all hd1.at_.2 hl04).trans hl57
  have hh7 := hh4.le hl47
  obtain ⟨sa1, hsa1⟩ := (hd1.at_.1.st).addr hkl
  obtain ⟨sa0, hsa0⟩ := hsw0.st.addr hkl
  obtain ⟨pla, psa, pwa, plc, psc, pwc⟩ := p
  obtain ⟨p1la, p1sa, p1wa, p1lc, p1sc, p1wc⟩ := p1
  dsimp only at hsa1 hsa0 ⊢
  subst hsa1 hsa0
  have hx : s.stock[k]? = some (s.stock.getD k 0) := getD_some hkl
  have hb8 : 0 ≤ s.stock.getD k 0 ∧ s.stock.getD k 0 ≤ 4 := by
    rw [List.getD_eq_getElem?_getD, List.getElem?_eq_getElem hkl]
    exact ho.s4 _ (List.getElem_mem hkl)
  refine W.drawn (by kernel_rfl) F0 hl07 ?_
  refine DD.run' [0, 1, 2, 3, 4, 5] rfl ?_
  refine DD.vf 6 rfl rfl rfl rfl rfl (Vf.idx1 rfl rfl rfl rfl rfl rfl rfl (hkl)) ?_
  refine DD.vf 7 rfl rfl rfl rfl rfl (Vf.load rfl rfl rfl (hsw0.st.int hx)) ?_
  refine DD.run' [8] rfl ?_
  rw [wrap64_in (s.stock.getD k 0 + 1) (by omega) (by omega)]
  refine DD.run' [9, 10, 11, 12] rfl ?_
  have hnb : 0 ≤ (if s.stock.getD k 0 + 1 < 4 then s.stock.getD k 0 + 1 else 4) ∧ s.stock.getD k 0 ≤ (if s.stock.getD k 0 + 1 < 4 then s.stock.getD k 0 + 1 else 4) ∧ (if s.stock.getD k 0 + 1 < 4 then s.stock.getD k 0 + 1 else 4) ≤ 4 := by split <;> omega
  generalize (if s.stock.getD k 0 + 1 < 4 then s.stock.getD k 0 + 1 else 4) = y at *
  obtain ⟨ke, hke⟩ : ∃ ke : Nat, s.kerf = ke := ⟨s.kerf.toNat, by have := hok.k0; omega⟩
  have hk3 := hok.k3
  rw [hke]
  refine DD.act 13 rfl rfl rfl rfl rfl (Ef.call rfl ((To_sp b na nc nums (m + 1) ke L7 hh7 (by omega) hl2 (by omega)))) ((by rintro _ _ _ ⟨_, rfl, rfl, _, hk', _⟩; exact ⟨fun q x hx => by rw [hk' _ (fun e => by subst e; rw [hF0] at hx; cases hx)]; exact hl07 _ _ hx, rfl, .inl rfl⟩)) ?_
  rintro _ _ _ ⟨v8, rfl, rfl, ⟨kf, rfl, hkf⟩, hk8, hs8⟩
  rename_i L8
  have hh8 := hh7.next hk8 hs8
  have nb4 : L4 b ≠ none := by obtain ⟨_, g⟩ := hh4.blk; rw [g]; exact fun e => by cases e
  have hG1 : G1 b = none := hpo1.out hF0 nb4
  have up5 : ∀ {q : Nat} {x : Obj × Bool}, L5 q = some x → q ≠ b → L8 q = some x := fun {q x} h hq => by rw [hk8 _ hq]; exact hl57 _ _ h
  have hGr1 := hd1.st.le (L' := L8) fun q x hx => by
    have h1 := off_le _ _ _ _ hx
    exact up5 (hpo1.le _ _ h1) fun e => by subst e; rw [hG1] at h1; cases h1
  obtain ⟨q, cap, c, hv, hqI, hq, hqs, hset⟩ := hGr1.setN encI_len hkl y
  cases hv
  refine DD.vf 14 rfl rfl rfl rfl rfl (Vf.idx1 rfl rfl rfl rfl rfl rfl rfl (hkl)) ?_
  refine DD.act 15 rfl rfl rfl rfl rfl (Ef.stoF (b := q) (off := k * 1) (congrArg (fun a => some (SV.v (.pointer (some a)))) (show Addr.add ⟨q, 0, none⟩ k = ⟨q, k * 1, none⟩ by rw [add_of]; simp)) ⟨_, rfl, rfl⟩ rfl hq rfl hqs (singles rfl)) (by rintro _ _ _ ⟨rfl, rfl, rfl⟩; exact ⟨hd1.le.trans hset.1, rfl, .inl rfl⟩) ?_
  rintro _ _ _ ⟨rfl, rfl, rfl⟩
  refine DD.run' [16] rfl ?_
  refine DD.act 17 rfl rfl rfl rfl rfl (Ef.sto rfl) (by rintro _ _ _ ⟨rfl, rfl, rfl⟩; exact ⟨hd1.le.trans hset.1, rfl, .inr rfl⟩) ?_
  rintro _ _ L9 ⟨rfl, rfl, hL9⟩
  refine .fin rfl ?_
  have hqb : q ≠ b := fun e => by
    subst e
    obtain ⟨_, g⟩ := hh8.blk
    rw [g] at hq; cases hq
  have hF0q : F0 q = none := by
    cases h : F0 q with
    | none => rfl
    | some x => rw [hd1.le _ _ h] at hqI; cases hqI
  have hq5 : L5 q ≠ none := fun e => by
    have h1 := hd1.st.own.1
    have h2 := h1.ne
    cases h : off (blk p1wa) G1 q with
    | none => exact h2 h
    | some x => rw [hpo1.le _ _ (off_le _ _ _ _ h)] at e; cases e
  have ne6 : ∀ {t : Nat}, L5 t ≠ none → L6 t ≠ none := fun {t} h e => by
    cases h1 : L5 t with
    | none => exact h h1
    | some x => rw [hpo2.all hd2.at_.2 hl05 _ _ h1] at e; cases e
  have nb5 : L5 b ≠ none := by
    obtain ⟨_, g⟩ := (hh4.le (hpo1.all hd1.at_.2 hl04)).blk
    rw [g]; exact fun e => by cases e
  have hG2 : G2 b = none := hpo2.out hF0 nb5
  have hG3 : G3 b = none := hpo3.out hF0 (ne6 nb5)
  have hG2q : G2 q = none := hpo2.out hF0q hq5
  have hG3q : G3 q = none := hpo3.out hF0q (ne6 hq5)
  have e9 : ∀ {t : Nat}, t ≠ q → L9 t = L8 t := fun {t} h => by rw [hL9]; exact put_ne _ _ h
  have hset : Grow F1 1 3 encI L9 (.slice (some ⟨q, 0, none⟩) s.stock.length p1sc) (s.stock.set k y) := by rw [hL9]; exact hset
  have i9 : ∀ {G : LH}, G b = none → G q = none → Le G L7 → Le G L9 := fun {G} h1 h2 h3 t x hx => by
    have n1 : t ≠ b := fun e => by subst e; rw [h1] at hx; cases hx
    have n2 : t ≠ q := fun e => by subst e; rw [h2] at hx; cases hx
    rw [e9 n2, hk8 _ n1]
    exact h3 _ _ hx
  have hl67 : Le L6 L7 := hpo3.all hd3'.at_.2 hl06
  have g29 : Le G2 L9 := i9 hG2 hG2q (hpo2.le.trans hl67)
  have g39 : Le G3 L9 := i9 hG3 hG3q hpo3.le
  have hF09 : Le F0 L9 := i9 hF0 hF0q hl07
  have hh9 : HatAt L9 b na nc nums (m + 1 + 1) := ⟨by obtain ⟨sd, g⟩ := hh8.blk; exact ⟨sd, by rw [e9 (Ne.symm hqb)]; exact g⟩, hni0.le (le_but hF0 hF09)⟩
  let r := blk p3.wa
  have hr6 : ∀ t, r = some t → F0 t = none ∧ L6 t = none := fun t ht => by
    have h1 := hd3'.wt.own.2 t ht
    have h0 : F0 t = none := by
      cases h : F0 t with
      | none => rfl
      | some x => rw [hd3'.le _ _ h] at h1; cases h1
    have h2 := hd3'.wt.own.1
    rw [show (p3.wa.map Addr.block) = some t from ht] at h2
    have h3 : G3 t ≠ none := fun e => h2.ne (by
      cases h : off (blk p3.sa) G3 t with
      | none => rfl
      | some x => rw [off_le _ _ _ _ h] at e; cases e)
    refine ⟨h0, Classical.byContradiction fun e => h3 (hpo3.out h0 e)⟩
  have hr5 : ∀ t, r = some t → L5 t = none := fun t ht => Classical.byContradiction fun e => ne6 e (hr6 t ht).2
  let J := off r (L9.but b)
  have toJ : ∀ {G : LH}, G b = none → (∀ t, r = some t → G t = none) → Le G L9 → Le G J := fun {G} h1 h2 h3 => le_off (le_but h1 h3) h2
  have sub_n : ∀ {G K : LH} {t : Nat}, Le G K → K t = none → G t = none := fun {G K t} h1 h2 => by
    cases h : G t with
    | none => rfl
    | some x => rw [h1 _ _ h] at h2; cases h2
  have hF0J : Le F0 J := toJ hF0 (fun t ht => (hr6 t ht).1) hF09
  have hG2J : Le G2 J := toJ hG2 (fun t ht => sub_n hpo2.le (hr6 t ht).2) g29
  have hF1G : Le F1 G1 := hd1.st.1.trans (off_le _ _)
  have hr1 : ∀ t, r = some t → G1 t = none := fun t ht => sub_n hpo1.le (hr5 t ht)
  have hs1 : SwAt J { s with stock := s.stock.set k y } ⟨p1la, some ⟨q, 0, none⟩, p1wa, p1lc, p1sc, p1wc⟩ := by
    refine ⟨hd1.lo.le (toJ (sub_n hF1G hG1) (fun t ht => sub_n hF1G (hr1 t ht)) hset.1), ?_, ?_, hd1.wl⟩
    · have h1 := hset.own.1
      exact (h1.keep (L' := J) fun t ht => by
        cases ht
        show off r (L9.but b) q = L9 q
        rw [off_get fun e => hq5 (hr5 _ e), but_get hqb]).at encI_len
    · refine (hd1.wt.at encWt_len).2.le ?_
      intro t x hx
      have h1 := off_le _ _ _ _ hx
      have n1 : t ≠ b := fun e => by subst e; rw [hG1] at h1; cases h1
      have n2 : t ≠ q := fun e => by
        subst e
        have : off (some t) G1 t = some x := hx
        unfold off at this
        rw [if_pos rfl] at this; cases this
      show off r (L9.but b) t = some x
      have n3 : r ≠ some t := fun e => by rw [hr1 _ e] at h1; cases h1
      rw [off_get n3, but_get n1, e9 n2]
      exact up5 (hpo1.le _ _ h1) n1
  have hs2 : SwAt J (kerfK s kf) p2 := (hd2.at_.1.le hG2J).kerf kf
  have hw4 := ho.w
  have hr9 : Le (L9.but b) L9 := but_le _ _
  have hfin : ∀ (L' : LH) (ba : Nat) (s3 : Sw), L' ba = none → encSP (s3, p3) = encSP (s, p3) → Le J L' → SwAt L' s3 p3 → sawE s3 = 0 →
      SvAt (L'.put ba (.cells ([(s, (⟨p1la, some ⟨q, 0, none⟩, p1wa, p1lc, p1sc, p1wc⟩ : Wp)), (kerfK s kf, p2), (s, p3)].flatMap encSP).toArray 26)) ba [({ s with stock := s.stock.set k y }, ⟨p1la, some ⟨q, 0, none⟩, p1wa, p1lc, p1sc, p1wc⟩), (kerfK s kf, p2), (s3, p3)] := by
    intro L' ba s3 hba he hJ h3 h0
    have hl := Le.put hba (.cells ([(s, (⟨p1la, some ⟨q, 0, none⟩, p1wa, p1lc, p1sc, p1wc⟩ : Wp)), (kerfK s kf, p2), (s, p3)].flatMap encSP).toArray 26)
    refine ⟨(sl_block (e := 26) encSP_len (put_same _ _ _)).congr ?_, fun z hz => ?_⟩
    · have e1 : encSP (({ s with stock := s.stock.set k y } : Sw), (⟨p1la, some ⟨q, 0, none⟩, p1wa, p1lc, p1sc, p1wc⟩ : Wp)) = encSP (s, ⟨p1la, some ⟨q, 0, none⟩, p1wa, p1lc, p1sc, p1wc⟩) := by
        unfold encSP encSw; simp only [List.length_set]
      rw [List.map_cons, List.map_cons, List.map_cons, List.map_cons, List.map_cons, List.map_cons, e1, he]
    · simp only [List.mem_cons, List.not_mem_nil, or_false] at hz
      rcases hz with rfl | rfl | rfl
      · exact ⟨hs1.le (hJ.trans hl), (sawE_0 (stock_saw ho.e ⟨hnb.1, hnb.2.2⟩)).sm⟩
      · exact ⟨hs2.le (hJ.trans hl), (sawE_0 (kerf_saw2 ho.e (n := kf) (by omega))).sm⟩
      · exact ⟨h3.le hl, (sawE_0 h0).sm⟩
  have hJb : J b = none := sub_n (off_le _ _) (by unfold LH.but; rw [if_pos rfl])
  have hJ9 : Le J L9 := (off_le _ _).trans (but_le _ _)
  apply W.cut (fun E B L' => ∃ ba s3, Le J L' ∧ sawE s3 = 0 ∧ Better s s3 ∧ SvAt L' ba [({ s with stock := s.stock.set k y }, ⟨p1la, some ⟨q, 0, none⟩, p1wa, p1lc, p1sc, p1wc⟩), (kerfK s kf, p2), (s3, p3)] ∧
    SubE E [(6, .v (.int .i64 (payW s (crWants (bestW s fun _ => true))))), (7, .v (.int .i64 0)), (14, .v (.slice (some ⟨ba, 0, none⟩) 3 3)), (15, .v (.int .i64 0))] ∧ PreB B [])
  rotate_left
  · intro rest
    refine W.go 99 rfl ?_
    refine W.split rfl rfl rfl (fun e1 => ?_) (fun e1 => ?_)
    rotate_left
    · refine W.go 99 rfl ?_
      refine W.pub 82 (.inr ⟨_, _, _, rfl⟩) rfl rfl ?_
      intro ba hba _
      exact rest _ _ _ ⟨ba, s, hJ9.trans (Le.put hba _), ho.e, ⟨rfl, rfl, fun _ => Int.le_refl _, Int.le_refl _, rfl, fun i x y hx hy => by rw [hx] at hy; cases hy; exact Int.le_refl _⟩, hfin L9 ba s hba rfl hJ9 (hd3'.at_.1.le g39) ho.e, by exact ⟨rfl, rfl, rfl, rfl, trivial⟩, by exact trivial⟩
    · have hw1 : 0 < s.wants.length := by simpa using e1
      refine W.go 99 rfl ?_
      rw [wrap64_in ((s.wants.length : Int) - 1) (by omega) (by omega), show (s.wants.length : Int) - 1 = ((s.wants.length - 1 : Nat) : Int) by omega]
      refine W.eff rfl rfl rfl (Ef.call rfl (To_sp b na nc nums (m + 1 + 1) (s.wants.length - 1) L9 hh9 (by omega) hl2 (by omega))) ?_
      rintro _ _ _ ⟨_, rfl, rfl, ⟨w, rfl, hw⟩, hk10, hs10⟩
      refine W.go 99 rfl ?_
      rename_i L10
      have hh10 := hh9.next hk10 hs10
      have hwl : w < s.wants.length := by omega
      obtain ⟨x, hxw⟩ : ∃ x, s.wants[w]? = some x := ⟨_, List.getElem?_eq_getElem hwl⟩
      have hxo := hok.wt x (List.mem_of_getElem? hxw)
      have hp0 := hxo.p0
      have hp1 := hxo.p1
      obtain ⟨pm, hpm⟩ : ∃ pm : Nat, x.pay + (pm : Int) = 30 := ⟨(30 - x.pay).toNat, by omega⟩
      have hb10 := but_same hk10
      have hJ10 : Le J L10 := (off_le _ _).trans hb10
      have hGw := (hd3'.wt.le (le_but (sub_n (off_le _ _) hG3) ((off_le _ _).trans g39))).le hb10
      obtain ⟨a3, ha3, hcell⟩ := (hGw.at encWt_len).2 w x hxw
      obtain ⟨p3la, p3sa, p3wa, p3lc, p3sc, p3wc⟩ := p3
      obtain rfl : p3wa = some a3 := ha3
      obtain ⟨rr, cap3, c3, hv3, hFr, hrr, hrs3, -⟩ := hGw.setPay hxw 0
      cases hv3
      have ha4 : (Addr.add ⟨rr, 0, none⟩ (w * 4)).add 3 = ⟨rr, w * 4 + 3, none⟩ := by rw [add_of, add_of, Nat.zero_add]
      have hc9 : L10.cell? ((Addr.add ⟨rr, 0, none⟩ (w * 4)).add 3) = some (.int .i64 x.pay) := by
        rw [ha4, ← show Addr.add ⟨rr, 0, none⟩ (w * 4 + 3) = ⟨rr, w * 4 + 3, none⟩ by rw [add_of]; simp]
        exact hcell 3 _ rfl
      refine W.drawn (by kernel_rfl) J hJ10 ?_
      refine DD.run' [0, 1, 2, 3, 4, 5, 6] rfl ?_
      refine DD.vf 7 rfl rfl rfl rfl rfl (Vf.idx rfl rfl rfl rfl rfl rfl (hwl)) ?_
      refine DD.run' [8] rfl ?_
      refine DD.act 9 rfl rfl rfl rfl rfl (Ef.val rfl (Vf.load rfl rfl rfl hc9)) (by rintro _ _ _ ⟨rfl, rfl, rfl⟩; exact ⟨hJ10, rfl, .inl rfl⟩) ?_
      rintro _ _ L10 ⟨rfl, rfl, rfl⟩
      have hfr := From_sp (X := C.X) b na nc nums (m + 1 + 1 + 1) x.pay pm L10 hh10 (by omega) hl2 (by omega) (by omega) (by omega)
      rw [hpm] at hfr
      refine DD.act 10 rfl rfl rfl rfl rfl (Ef.call rfl (hfr)) ((by rintro _ _ _ ⟨_, rfl, rfl, _, hk', _⟩; exact ⟨fun t x hx => by rw [hk' _ (fun e => by subst e; rw [hJb] at hx; cases hx)]; exact hJ10 _ _ hx, rfl, .inl rfl⟩)) ?_
      rintro _ _ _ ⟨v11, rfl, rfl, ⟨y3, rfl, hy1, hy2⟩, hk11, hs11⟩
      rename_i L11
      refine DD.vf 11 rfl rfl rfl rfl rfl (Vf.idx rfl rfl rfl rfl rfl rfl (hwl)) ?_
      refine DD.run' [12] rfl ?_
      have hb11 := but_same hk11
      have hGw11 : Grow F3 4 28 encWt L11 (.slice (some ⟨rr, 0, none⟩) s.wants.length p3wc) s.wants :=
        ((hd3'.wt.le (le_but (sub_n (off_le _ _) hG3) ((off_le _ _).trans g39))).le (but_trans hb10 hb11))
      obtain ⟨rr', cap4, c4, hv4, hFr4, hrr4, hrs4, hset4⟩ := hGw11.setPay hxw y3
      cases hv4
      have hJr : J rr = none := by show off r (L9.but b) rr = none; exact if_pos rfl
      have hJ12 : ∀ o, Le J (L11.put rr o) := fun o t x hx => by
        have n1 : t ≠ rr := fun e => by subst e; rw [hJr] at hx; cases hx
        have n2 : t ≠ b := fun e => by subst e; rw [hJb] at hx; cases hx
        rw [put_ne _ _ n1, hk11 _ n2]
        exact hJ10 _ _ hx
      refine DD.act 13 rfl rfl rfl rfl rfl (Ef.stoF (b := rr) (off := w * 4 + 3) (congrArg (fun a => some (SV.v (.pointer (some a)))) ha4) ⟨_, rfl, rfl⟩ rfl hrr4 rfl hrs4 (singles rfl)) (by rintro _ _ _ ⟨rfl, rfl, rfl⟩; exact ⟨hJ12 _, rfl, .inl rfl⟩) ?_
      rintro _ _ L12 ⟨rfl, rfl, hL12⟩
      have hJ12' : Le J L12 := by rw [hL12]; exact hJ12 _
      have hset5 : Grow F3 4 28 encWt L12 (.slice (some ⟨rr, 0, none⟩) s.wants.length p3wc) (s.wants.set w { x with pay := y3 }) := by rw [hL12]; exact hset4
      refine .fin rfl ?_
      refine W.go 99 rfl ?_
      refine W.pub 82 (.inr ⟨_, _, _, rfl⟩) rfl rfl ?_
      intro ba hba _
      have hF3J : Le F3 J := toJ (sub_n (hd3'.wt.1.trans (off_le _ _)) hG3) (fun t ht => hd3'.wt.own.2 t ht) ((hd3'.wt.1.trans (off_le _ _)).trans g39)
      have hs3 : SwAt L12 { s with wants := s.wants.set w { x with pay := y3 } } ⟨p3la, p3sa, some ⟨rr, 0, none⟩, p3lc, p3sc, p3wc⟩ :=
        ⟨hd3'.lo.le (hF3J.trans hJ12'), (hd3'.st.at encI_len).2.le (le_off (le_but (sub_n (off_le _ _) hG3) ((off_le _ _).trans g39)) (fun t ht => if_pos ht) |>.trans hJ12'), (hset5.at encWt_len).2, by show (s.wants.set w _).length ≤ _; rw [List.length_set]; exact hd3'.wl⟩
      have h30 := pay_saw ho.e hxw (y := y3) ⟨by omega, by omega⟩
      exact rest _ _ _ ⟨ba, { s with wants := s.wants.set w { x with pay := y3 } }, hJ12'.trans (Le.put hba _), h30, pay_better hxw hy1, hfin L12 ba _ hba (by unfold encSP encSw; simp only [List.length_set]) hJ12' hs3 h30, by exact ⟨rfl, rfl, rfl, rfl, trivial⟩, by exact trivial⟩
  rintro E B L12 ⟨ba, s3, hJ12, he3, hb3, hsv12, hE, hB⟩
  refine W.weak hE hB ?_
  have hall : ∀ z ∈ [(({ s with stock := s.stock.set k y } : Sw), (⟨p1la, some ⟨q, 0, none⟩, p1wa, p1lc, p1sc, p1wc⟩ : Wp)), (kerfK s kf, p2), (s3, p3)], sawE z.1 = 0 ∧ Better s z.1 := fun z hz => by
    simp only [List.mem_cons, List.not_mem_nil, or_false] at hz
    rcases hz with rfl | rfl | rfl
    · exact ⟨stock_saw ho.e ⟨hnb.1, hnb.2.2⟩, stock_better hkl hnb.2.1⟩
    · exact ⟨kerf_saw2 ho.e (by omega), kerf_better2 (by omega)⟩
    · exact ⟨he3, hb3⟩
  generalize hSs : [(({ s with stock := s.stock.set k y } : Sw), (⟨p1la, some ⟨q, 0, none⟩, p1wa, p1lc, p1sc, p1wc⟩ : Wp)), (kerfK s kf, p2), (s3, p3)] = Ss at hsv12 hall
  have nS : Ss.length = 3 := by rw [← hSs]; rfl
  have hd12 : Dim L L12 := (Dim.of_le hL2).trans (hd3.trans (Dim.of_le (hF0J.trans hJ12)))
  refine W.loop (fun w E B L' => ∃ k : Nat, w = 3 - k ∧ k ≤ 3 ∧ Dim L12 L' ∧ E = [(6, .v (.int .i64 (payW s (crWants (bestW s fun _ => true))))), (7, .v (.int .i64 0)), (14, .v (.slice (some ⟨ba, 0, none⟩) 3 3)), (15, .v (.int .i64 k))] ∧ B = [])
    ⟨0, rfl, by omega, Dim.refl _, rfl, rfl⟩ (by exact ⟨rfl, rfl, rfl, rfl, trivial⟩) (by exact trivial) ?_
  rintro _ _ _ L13 ⟨k, rfl, hk, hd13, rfl, rfl⟩ again
  have hsv13 := hsv12.dim hd13
  refine W.go 99 rfl ?_
  refine W.split rfl rfl rfl (fun e3 => W.go 99 rfl ?_) (fun e3 => W.go 99 rfl ?_)
  · have hk3 : k < 3 := by have : (k : Int) < 3 := by simpa using e3
                           omega
    obtain ⟨⟨sk, pk⟩, hx⟩ : ∃ x, Ss[k]? = some x := ⟨_, List.getElem?_eq_getElem (by omega)⟩
    obtain ⟨hsk, hskm⟩ := hsv13.so _ (List.mem_of_getElem? hx)
    obtain ⟨hse, hsb⟩ := hall _ (List.mem_of_getElem? hx)
    dsimp only at hsk hskm hse hsb
    refine W.vf rfl rfl rfl rfl (Vf.idx rfl rfl rfl rfl rfl rfl (hk3)) ?_
    refine W.go 99 rfl ?_
    refine W.vf rfl rfl rfl rfl (Vf.loadN rfl rfl rfl (hsv13.ss.whole hx rfl)) ?_
    refine W.go 99 rfl ?_
    have hbs := Best_sp (Post := Post) (W0 := W0) sk pk L13 hsk hskm
    have hBE : BestE sk = (crWants (bestW sk fun _ => true), payW sk (crWants (bestW sk fun _ => true)), 0) := by unfold BestE; rw [if_neg (by simp [hse])]
    have hge : payW s (crWants (bestW s fun _ => true)) ≤ payW sk (crWants (bestW sk fun _ => true)) := by
      rw [best_pay hok, best_pay (sawE_0 hse)]
      exact hsb.most hok (sawE_0 hse)
    rw [← hX, hBE] at hbs
    refine W.eff rfl rfl rfl (Ef.call rfl (hbs)) ?_
    rintro _ _ _ ⟨v12, rfl, rfl, ga, gc, rfl, hgi, hd14⟩
    dsimp only
    refine W.go 99 rfl ?_
    refine W.asLit 100 (p := false) rfl rfl ?_
    refine W.go 99 rfl ?_
    refine W.split rfl rfl rfl (fun h => absurd h (by simp; omega)) (fun _ => ?_)
    refine W.go 99 rfl ?_
    exact W.again (again _ _ _ _ (by omega) ⟨k + 1, rfl, by omega, hd13.trans hd14, rfl, rfl⟩) (by exact ⟨rfl, rfl, rfl, congrArg some (inc64 (by omega)), trivial⟩) (by exact trivial)
  · have hk3 : k = 3 := by simp at e3; omega
    have hgl13 : GlOk L13 := (hd12.trans hd13).cell hgl
    refine W.asLit 107 (p := true) rfl rfl ?_
    refine W.go 99 rfl ?_
    refine W.eff rfl rfl rfl (Ef.call rfl (drd L13 hgl13)) ?_
    rintro _ _ _ ⟨_, rfl, rfl, rfl, hdm⟩
    refine W.go 99 rfl ?_
    exact W.retO rt rfl ⟨rfl, (hd12.trans hd13).trans hdm⟩
end Go.Mz

