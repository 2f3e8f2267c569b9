/- Lemmas on which the claim leans. -/
import Derived.Test.YtfnjganjlkoehaaGreatDoorMzLb
set_option maxRecDepth 100000
namespace Go.Mz
open Go.Conc Go.Proofs
variable {X : Logic Tryz.prog}
def mostW (s : Sw) (l : List (List Nat)) : Int := l.foldl (fun n w => max n (payW s w)) 0
theorem mostW_snoc (s : Sw) (l : List (List Nat)) (w : List Nat) : mostW s (l ++ [w]) = max (mostW s l) (payW s w) := by unfold mostW; rw [List.foldl_append]; rfl
def LsOk (s : Sw) (l : List (List Nat)) : Prop := l.length ≤ 32 ∧ ∀ w ∈ l, WnOk s w ∧ w.length ≤ 5
theorem served_ls {s : Sw} (hok : SOk s) : LsOk s (servedL s) := by
 refine ⟨Nat.le_trans (List.length_filter_le _ _) (picks_32 hok), fun w hw => ?_⟩
 have h := (List.mem_filter.1 hw).1
 exact ⟨(picks_wn h).2, picks_5 hok h⟩
theorem rMost_sp (s : Sw) (p : Wp) (la : Option Addr) (lc : Nat) (l : List (List Nat)) (L : LH) (hs : SwAt L s p) (hok : SOk s) (hrows : RowsAt L la 1 encI (l.map natI)) (hl : LsOk s l) :
  Sp X 99 [swA s p, .slice la l.length lc] L (fun v L' => v = .int .i64 (mostW s l) ∧ L = L') := by
 obtain ⟨h32, hmw⟩ := hl
 refine Sp.enter (n := 22) Tryz.func99 rfl rfl rfl rfl fun C hX _ hL0 r => ?_
 refine W.go 99 rfl ?_
 refine W.loop (fun m E B L' => ∃ j : Nat, m = l.length - j ∧ j ≤ l.length ∧ L = L' ∧ E = [(1, .v (.slice la l.length lc)), (2, .p 0 0), (5, .v (.int .i64 (mostW s (l.take j)))), (6, .v (.int .i64 j))] ∧ B = [some ⟨cellsS (.v (swA s p)), 26⟩])
  ⟨0, rfl, by omega, rfl, rfl, rfl⟩ (by exact ⟨rfl, rfl, rfl, rfl, trivial⟩) (by exact ⟨rfl, trivial⟩) ?_
 rintro _ _ _ _ ⟨j, rfl, hj, rfl, rfl, rfl⟩ again
 refine W.go 99 rfl ?_
 refine W.split rfl rfl rfl (fun e1 => W.go 99 rfl ?_) (fun e1 => W.go 99 rfl ?_)
 ·have hjl : j < l.length := by simpa using e1
  obtain ⟨w, hw⟩ : ∃ w, l[j]? = some w := ⟨_, List.getElem?_eq_getElem hjl⟩
  obtain ⟨hwn, hw5⟩ := hmw w (List.mem_of_getElem? hw)
  have hwm : (l.map natI)[j]? = some (natI w) := by rw [List.getElem?_map, hw]; rfl
  obtain ⟨lad, rfl⟩ := hrows.addr (i := j) (by simpa using hjl)
  obtain ⟨xa, xc, hxc, hxs, _⟩ := hrows.row hwm
  rw [natI_len] at hxc
  have htk : l.take (j + 1) = l.take j ++ [w] := by obtain ⟨_, hwe⟩ := List.getElem?_eq_some_iff.1 hw; rw [← hwe]; exact List.take_succ_eq_append_getElem hjl
  refine W.drawn (by kernel_rfl) _ (Le.refl _) ?_
  refine DD.run' [0, 1, 2, 3] rfl ?_
  refine DD.vf 4 rfl rfl rfl rfl rfl (Vf.idx1 rfl rfl rfl rfl rfl rfl rfl (hjl)) ?_
  refine DD.vf 5 rfl rfl rfl rfl rfl (Vf.load rfl rfl rfl (hxc)) ?_
  refine DD.act 6 rfl rfl rfl rfl rfl (Ef.call rfl (rPays_sp s p xa xc w L hs hok hxs hwn (by omega))) (by rintro _ _ _ ⟨_, rfl, rfl, rfl, rfl⟩; exact ⟨Le.refl _, rfl, .inl rfl⟩) ?_
  rintro _ _ _ ⟨_, rfl, rfl, rfl, rfl⟩
  refine DD.run' [7, 8] rfl ?_
  refine .fin rfl ?_
  refine W.go 99 rfl ?_
  exact W.again (again _ _ _ _ (by omega) ⟨j + 1, rfl, by omega, rfl, rfl, rfl⟩) (by exact ⟨rfl, rfl, congrArg (fun z => some (SV.v (Value.int .i64 z))) (by rw [htk, mostW_snoc]; show (if payW s w > mostW s (l.take j) then payW s w else mostW s (l.take j)) = _; split <;> omega), congrArg some (inc64 (by omega)), trivial⟩) (by exact ⟨rfl, trivial⟩)
 ·have hje : j = l.length := by simp at e1; omega
  subst hje
  refine W.ret r rfl rfl ?_
  rw [List.take_length]
  exact ⟨rfl, rfl⟩
def coW (s : Sw) (w : List Nat) : Int := ((crushW s w).map (·.c)).getD (-1)
def ltIx (s : Sw) (l : List (List Nat)) (a b : Nat) : Bool := decide (coW s (l.getD a []) < coW s (l.getD b []))
def bestIx (s : Sw) (l : List (List Nat)) (j : Nat) : Option Nat := firstBy (ltIx s l) ((List.range j).filter fun i => decide (mostW s l ≤ payW s (l.getD i [])))
theorem snoc_ind {α : Type} {P : List α → Prop} (h0 : P []) (h1 : ∀ l x, P l → P (l ++ [x])) (l : List α) : P l := by
 generalize hn : l.length = n
 induction n generalizing l with
 | zero => rw [List.length_eq_zero_iff] at hn; subst hn; exact h0
 | succ n ih =>
  have hne : l ≠ [] := fun e => by subst e; simp at hn
  rw [← List.dropLast_concat_getLast hne]
  exact h1 _ _ (ih _ (by simp; omega))
theorem firstBy_key {α : Type} {f : α → Int} : ∀ (l : List α) (x : α), firstBy (fun a b => decide (f a < f b)) l = some x → ∃ pre post, l = pre ++ x :: post ∧ (∀ y ∈ pre, f x < f y) ∧ ∀ y ∈ post, f x ≤ f y := by
 intro l
 induction l using snoc_ind with
 | h0 => intro x h; cases h
 | h1 l z ih =>
  intro x h
  rw [firstBy_snoc] at h
  cases ho : firstBy (fun a b => decide (f a < f b)) l with
  | none =>
   rw [ho] at h
   cases h
   have hl : l = [] := by
    cases l with
    | nil => rfl
    | cons y l =>
     exfalso
     have : ∀ (l : List α) (y : α), ∃ w, l.foldl (takeBy (fun a b => decide (f a < f b))) (some y) = some w := fun l => by
      induction l with
      | nil => intro y; exact ⟨y, rfl⟩
      | cons u l ih =>
       intro y
       rw [List.foldl_cons]
       show ∃ w, l.foldl _ (if decide (f u < f y) then some u else some y) = some w
       split
       ·exact ih u
       ·exact ih y
     obtain ⟨w, hw⟩ := this l y
     unfold firstBy at ho
     rw [List.foldl_cons] at ho
     exact absurd (hw.symm.trans ho) (by simp)
   subst hl
   exact ⟨[], [], rfl, fun y hy => (by cases hy), fun y hy => (by cases hy)⟩
  | some b =>
   rw [ho] at h
   obtain ⟨pre, post, hl, h1, h2⟩ := ih b ho
   change (if decide (f z < f b) then some z else some b) = some x at h
   by_cases e : f z < f b
   ·rw [if_pos (by simpa using e)] at h
    cases h
    refine ⟨l, [], rfl, fun y hy => ?_, fun y hy => (by cases hy)⟩
    rw [hl] at hy
    rcases List.mem_append.1 hy with hy | hy
    ·have := h1 y hy; omega
    ·rcases List.mem_cons.1 hy with rfl | hy
     ·exact e
     ·have := h2 y hy; omega
   ·rw [if_neg (by simpa using e)] at h
    cases h
    refine ⟨pre, post ++ [z], by rw [hl]; simp, h1, fun y hy => ?_⟩
    rcases List.mem_append.1 hy with hy | hy
    ·exact h2 y hy
    ·rw [List.mem_singleton.1 hy]; omega
theorem firstBy_min {α : Type} {lt : α → α → Bool} (ht : ∀ a b c, lt a b = true → lt b c = true → lt a c = true) (hi : ∀ a, lt a a = false) : ∀ (l : List α) (x : α), firstBy lt l = some x → x ∈ l ∧ ∀ y ∈ l, lt y x = false := by
 intro l
 induction l using snoc_ind with
 | h0 => intro x h; cases h
 | h1 l z ih =>
  intro x h
  rw [firstBy_snoc] at h
  cases ho : firstBy lt l with
  | none =>
   rw [ho] at h
   cases h
   have hl : l = [] := by
    cases l with
    | nil => rfl
    | cons y l =>
     exfalso
     have : ∀ (l : List α) (y : α), ∃ w, l.foldl (takeBy lt) (some y) = some w := fun l => by
      induction l with
      | nil => intro y; exact ⟨y, rfl⟩
      | cons u l ih =>
       intro y
       rw [List.foldl_cons]
       show ∃ w, l.foldl _ (if lt u y then some u else some y) = some w
       split
       ·exact ih u
       ·exact ih y
     obtain ⟨w, hw⟩ := this l y
     unfold firstBy at ho
     rw [List.foldl_cons] at ho
     exact absurd (hw.symm.trans ho) (by simp)
   subst hl
   exact ⟨by simp, fun y hy => by simp at hy; rw [hy]; exact hi _⟩
  | some b =>
   rw [ho] at h
   obtain ⟨h1, h2⟩ := ih b ho
   change (if lt z b then some z else some b) = some x at h
   by_cases e : lt z b = true
   ·rw [if_pos e] at h
    cases h
    refine ⟨by simp, fun y hy => ?_⟩
    rcases List.mem_append.1 hy with hy | hy
    ·have h3 := h2 y hy
     cases h4 : lt y z with
     | false => rfl
     | true => rw [ht _ _ _ h4 e] at h3; cases h3
    ·rw [List.mem_singleton.1 hy]; exact hi _
   ·rw [if_neg e] at h
    cases h
    refine ⟨by simp [h1], fun y hy => ?_⟩
    rcases List.mem_append.1 hy with hy | hy
    ·exact h2 y hy
    ·rw [List.mem_singleton.1 hy]; simpa using e
theorem ltL_trans : ∀ {a b c : List Nat}, ltL a b = true → ltL b c = true → ltL a c = true
 | a, [], _, h, _ => by rw [show ltL a [] = false by cases a <;> rfl] at h; cases h
 | _, _ :: _, [], _, h => by cases h
 | [], _ :: _, _ :: _, _, _ => rfl
 | a :: l, b :: k, c :: m, h1, h2 => by
  rw [ltL] at h1 h2 ⊢
  simp only [Bool.or_eq_true, decide_eq_true_eq, Bool.and_eq_true] at h1 h2 ⊢
  rcases h1 with h1 | ⟨rfl, h1⟩
  ·rcases h2 with h2 | ⟨rfl, h2⟩
   ·exact .inl (by omega)
   ·exact .inl h1
  ·rcases h2 with h2 | ⟨rfl, h2⟩
   ·exact .inl h2
   ·exact .inr ⟨rfl, ltL_trans h1 h2⟩
theorem ltB_trans (s : Sw) (a b c : Cr) (h1 : ltB s a b = true) (h2 : ltB s b c = true) : ltB s a c = true := by
 unfold ltB at h1 h2 ⊢
 split at h1
 ·rename_i e1
  simp only [Bool.or_eq_true, decide_eq_true_eq, Bool.and_eq_true] at h1
  split at h2
  ·simp only [Bool.or_eq_true, decide_eq_true_eq, Bool.and_eq_true] at h2
   rw [if_pos (by omega)]
   simp only [Bool.or_eq_true, decide_eq_true_eq, Bool.and_eq_true]
   omega
  ·rename_i e2
   rw [if_pos (by omega)]
   simp only [Bool.or_eq_true, decide_eq_true_eq, Bool.and_eq_true]
   omega
 ·rename_i e1
  split at h2
  ·simp only [Bool.or_eq_true, decide_eq_true_eq, Bool.and_eq_true] at h2
   rw [if_pos (by omega)]
   simp only [Bool.or_eq_true, decide_eq_true_eq, Bool.and_eq_true]
   omega
  ·rename_i e2
   rw [if_neg (by omega)]
   exact ltL_trans h1 h2
theorem ltB_irr (s : Sw) (a : Cr) : ltB s a a = false := by
 unfold ltB
 rw [if_neg (by simp)]
 exact ltL_irr _
theorem mask_lt {n : Nat} {w : List Nat} (hw : ∀ i ∈ w, i < n) : maskW w < 2 ^ n := by
 refine Nat.lt_pow_two_of_testBit _ fun i hi => ?_
 rw [maskW_bit]
 cases h : w.contains i with
 | false => rfl
 | true => have := hw i (List.contains_iff_mem.1 h); omega
theorem bits_asc (m : Nat) : Asc (bits5 m) := List.Pairwise.filter _ List.pairwise_lt_range
theorem cand_iff {s : Sw} (hok : SOk s) (c : Cr) : c ∈ (allW s).filterMap id ↔ c.w ∈ picksW s.wants.length s.wants.length ∧ crushW s c.w = some c := by
 unfold allW
 rw [List.mem_filterMap]
 simp only [List.mem_map, List.mem_range, id, exists_eq_right]
 constructor
 ·rintro ⟨m, hm, hc⟩
  have hw := (crushW_some hc).1
  refine ⟨?_, by rw [hw]; exact hc⟩
  rw [hw, picksW_mem (Nat.le_refl _)]
  exact ⟨bits_asc m, fun i hi => ⟨by omega, bits_wn hm i hi⟩⟩
 ·rintro ⟨h1, h2⟩
  obtain ⟨ha, hw⟩ := picks_wn h1
  refine ⟨maskW c.w, mask_lt hw, ?_⟩
  rw [bits5_mask ha fun x hx => Nat.lt_of_lt_of_le (hw x hx) hok.w5]
  exact h2
theorem served_iff {s : Sw} {w : List Nat} : w ∈ servedL s ↔ w ∈ picksW s.wants.length s.wants.length ∧ ∃ c, crushW s w = some c := by
 unfold servedL
 rw [List.mem_filter]
 unfold srvB
 rw [Option.isSome_iff_exists]
theorem bestW_of {s : Sw} (hok : SOk s) (so : List Nat → Bool) {w : List Nat} {c : Cr} (hw : w ∈ picksW s.wants.length s.wants.length) (hs : so w = true) (hc : crushW s w = some c)
  (hall : ∀ v d, v ∈ picksW s.wants.length s.wants.length → so v = true → crushW s v = some d → v ≠ w → ltB s c d = true) : crWants (bestW s so) = w := by
 have hcw := (crushW_some hc).1
 have hmem : c ∈ ((allW s).filterMap id).filter fun c => so c.w := List.mem_filter.2 ⟨(cand_iff hok c).2 ⟨by rw [hcw]; exact hw, by rw [hcw]; exact hc⟩, by rw [hcw]; exact hs⟩
 cases hb : bestW s so with
 | none =>
  exfalso
  unfold bestW at hb
  generalize ((allW s).filterMap id).filter (fun c => so c.w) = l at hmem hb
  obtain ⟨pre, post, rfl⟩ := List.append_of_mem hmem
  have : ∀ (l : List Cr) (o : Option Cr), l.foldl (takeBy (ltB s)) o = none → l = [] ∧ o = none := fun l => by
   induction l with
   | nil => intro o h; exact ⟨rfl, h⟩
   | cons x l ih =>
    intro o h
    rw [List.foldl_cons] at h
    have := (ih _ h).2
    cases o with
    | none => cases this
    | some y =>
     change (if ltB s x y then some x else some y) = none at this
     split at this <;> cases this
  have := (this _ _ hb).1
  simp at this
 | some d =>
  obtain ⟨h1, h2⟩ := firstBy_min (ltB_trans s) (ltB_irr s) _ _ hb
  have h3 := h2 c hmem
  obtain ⟨h4, h5⟩ := List.mem_filter.1 h1
  obtain ⟨h6, h7⟩ := (cand_iff hok d).1 h4
  show d.w = w
  refine Classical.byContradiction fun hne => ?_
  rw [hall d.w d h6 h5 h7 hne] at h3
  cases h3
theorem mostW_le (s : Sw) (l : List (List Nat)) : ∀ w ∈ l, payW s w ≤ mostW s l := by
 induction l using snoc_ind with
 | h0 => intro w h; cases h
 | h1 l z ih =>
  intro w hw
  rw [mostW_snoc]
  rcases List.mem_append.1 hw with hw | hw
  ·have := ih w hw; omega
  ·rw [List.mem_singleton.1 hw]; omega
theorem mostW_mem {s : Sw} (hok : SOk s) (l : List (List Nat)) (hne : l ≠ []) : ∃ w ∈ l, payW s w = mostW s l := by
 induction l using snoc_ind with
 | h0 => exact absurd rfl hne
 | h1 l z ih =>
  rw [mostW_snoc]
  by_cases h : mostW s l ≤ payW s z
  ·exact ⟨z, by simp, by omega⟩
  ·by_cases hl : l = []
   ·subst hl
    have := (pay_bd hok z).1
    have h0 : mostW s [] = 0 := rfl
    omega
   ·obtain ⟨w, h1, h2⟩ := ih hl
    exact ⟨w, by simp [h1], by omega⟩
theorem firstBy_some {α : Type} {lt : α → α → Bool} {l : List α} (h : l ≠ []) : ∃ x, firstBy lt l = some x := by
 cases hb : firstBy lt l with
 | some x => exact ⟨x, rfl⟩
 | none =>
  exfalso
  have : ∀ (l : List α) (o : Option α), l.foldl (takeBy lt) o = none → l = [] ∧ o = none := fun l => by
   induction l with
   | nil => intro o h; exact ⟨rfl, h⟩
   | cons x l ih =>
    intro o h
    rw [List.foldl_cons] at h
    have := (ih _ h).2
    cases o with
    | none => cases this
    | some y =>
     change (if lt x y then some x else some y) = none at this
     split at this <;> cases this
  exact h (this _ _ hb).1
theorem zeros_mem : ∀ {st : List Int}, (∀ x ∈ st, 0 ≤ x ∧ x ≤ 8) → List.replicate st.length 0 ∈ listsW st
 | [], _ => by simp [listsW]
 | m :: t, h => by
  have hm := h m List.mem_cons_self
  rw [listsW, List.mem_flatMap]
  exact ⟨0, List.mem_range.2 (by omega), List.mem_map.2 ⟨_, zeros_mem fun x hx => h x (List.mem_cons_of_mem _ hx), rfl⟩⟩
theorem crush_nil {s : Sw} (hok : SOk s) : ∃ c, crushW s [] = some c := by
 refine firstBy_some ?_
 rw [plansW_doc hok]
 intro h
 rw [List.map_eq_nil_iff, List.filter_eq_nil_iff] at h
 refine h _ (zeros_mem hok.sr) ?_
 unfold okW
 rw [beq_iff_eq, right_eq hok]
 have hw : wantsOf s [] = [] := rfl
 have hg : ∀ k, (List.replicate s.stock.length (0 : Int)).getD k 0 = 0 := fun k => by
  rw [List.getD_eq_getElem?_getD, List.getElem?_replicate]
  split <;> rfl
 have h1 : (List.range s.loaves.length).any (fun k => decide (s.stock.getD k 0 < tkN (wantsOf s []) k + (List.replicate s.stock.length (0 : Int)).getD k 0)) = false := by
  rw [List.any_eq_false]
  intro k hk
  have hk := List.mem_range.1 hk
  have hst := hok.st
  have := hok.sr (s.stock.getD k 0) (by rw [List.getD_eq_getElem?_getD, List.getElem?_eq_getElem (by omega)]; exact List.getElem_mem _)
  rw [hg, hw]
  simp only [decide_eq_true_eq]
  have : tkN [] k = 0 := rfl
  omega
 have h2 : (List.range s.loaves.length).any (fun k => decide ((List.replicate s.stock.length (0 : Int)).getD k 0 * sumL (s.loaves.getD k []) + suN s (wantsOf s []) k < tksN k (wantsOf s []))) = false := by
  rw [List.any_eq_false]
  intro k _
  rw [hg, hw, Int.zero_mul]
  simp [suN, tksN, sumL]
 have h3 : ¬ sumL (sugarD s (wantsOf s []) (List.replicate s.stock.length 0)) < tksN (-1) (wantsOf s []) := by
  have := (sumL_bk 4000 _ (sugarD_bd hok (wantsOf s []) (l := List.replicate s.stock.length 0) (fun k => by rw [hg]; decide) (by simp [hw]))).1
  have h0 : tksN (-1) (wantsOf s []) = 0 := rfl
  omega
 rw [h1, h2, if_neg (by decide), if_neg (by decide), if_neg h3]
theorem nil_picks (n d : Nat) : [] ∈ picksW n d := by rw [picksW_eq]; exact List.mem_cons_self
theorem served_ne {s : Sw} (hok : SOk s) : servedL s ≠ [] := fun h => by
 have : [] ∈ servedL s := served_iff.2 ⟨nil_picks _ _, crush_nil hok⟩
 rw [h] at this; cases this
theorem served_sorted (s : Sw) : (servedL s).Pairwise fun a b => ltL a b = true := (picksW_sorted _ _).filter _
theorem getD_mem {l : List (List Nat)} {i : Nat} (h : i < l.length) : l.getD i [] ∈ l := by rw [List.getD_eq_getElem?_getD, List.getElem?_eq_getElem h]; exact List.getElem_mem h
theorem bestIx_some {s : Sw} (hok : SOk s) : ∃ i, bestIx s (servedL s) (servedL s).length = some i := by
 refine firstBy_some fun h => ?_
 obtain ⟨w, h1, h2⟩ := mostW_mem hok _ (served_ne hok)
 obtain ⟨i, hi, rfl⟩ := List.getElem_of_mem h1
 rw [List.filter_eq_nil_iff] at h
 refine h i (List.mem_range.2 hi) ?_
 rw [List.getD_eq_getElem?_getD, List.getElem?_eq_getElem hi, decide_eq_true_eq]
 exact Int.le_of_eq h2.symm
theorem bestIx_eq {s : Sw} (hok : SOk s) {i : Nat} (h : bestIx s (servedL s) (servedL s).length = some i) :
  i < (servedL s).length ∧ crWants (bestW s fun _ => true) = (servedL s).getD i [] ∧ payW s ((servedL s).getD i []) = mostW s (servedL s) := by
 obtain ⟨pre, post, hl, h1, h2⟩ := firstBy_key (f := fun i => coW s ((servedL s).getD i [])) _ _ h
 have hsort : (pre ++ i :: post).Pairwise (· < ·) := by rw [← hl]; exact List.Pairwise.filter _ List.pairwise_lt_range
 have hmem : i ∈ (List.range (servedL s).length).filter fun i => decide (mostW s (servedL s) ≤ payW s ((servedL s).getD i [])) := by rw [hl]; simp
 obtain ⟨hi, hp⟩ := List.mem_filter.1 hmem
 have hi := List.mem_range.1 hi
 rw [decide_eq_true_eq] at hp
 have hle := mostW_le s _ _ (getD_mem hi)
 have hpe : payW s ((servedL s).getD i []) = mostW s (servedL s) := by omega
 obtain ⟨hw, c, hc⟩ := served_iff.1 (getD_mem hi)
 refine ⟨hi, bestW_of hok (fun _ => true) hw rfl hc fun v d hv _ hd hne => ?_, hpe⟩
 have hcw := (crushW_some hc).1
 have hdw := (crushW_some hd).1
 have hvs : v ∈ servedL s := served_iff.2 ⟨hv, d, hd⟩
 have hvp := mostW_le s _ _ hvs
 unfold ltB
 rw [hcw, hdw]
 by_cases e : payW s v = mostW s (servedL s)
 ·obtain ⟨j, hj, hje⟩ := List.getElem_of_mem hvs
  have hgj : (servedL s).getD j [] = v := by rw [List.getD_eq_getElem?_getD, List.getElem?_eq_getElem hj, ← hje]; rfl
  have hjm : j ∈ pre ++ i :: post := by
   rw [← hl]
   exact List.mem_filter.2 ⟨List.mem_range.2 hj, by rw [hgj, decide_eq_true_eq]; omega⟩
  have cc : coW s ((servedL s).getD i []) = c.c := by unfold coW; rw [hc]; rfl
  have cd : coW s v = d.c := by unfold coW; rw [hd]; rfl
  rcases List.mem_append.1 hjm with hjm | hjm
  ·have := h1 j hjm
   simp only [hgj] at this
   rw [if_pos (by omega)]
   simp only [Bool.or_eq_true, decide_eq_true_eq, Bool.and_eq_true]
   omega
  ·rcases List.mem_cons.1 hjm with rfl | hjm
   ·exact absurd hgj.symm hne
   ·have h3 := h2 j hjm
    simp only [hgj] at h3
    by_cases e2 : c.c = d.c
    ·rw [if_neg (by omega)]
     have hij : i < j := (List.pairwise_cons.1 (List.pairwise_append.1 hsort).2.1).1 j hjm
     have := List.pairwise_iff_getElem.1 (served_sorted s) i j hi hj hij
     rw [hje] at this
     rw [List.getD_eq_getElem?_getD, List.getElem?_eq_getElem hi]
     exact this
    ·rw [if_pos (by omega)]
     simp only [Bool.or_eq_true, decide_eq_true_eq, Bool.and_eq_true]
     omega
 ·rw [if_pos (by omega)]
  simp only [Bool.or_eq_true, decide_eq_true_eq, Bool.and_eq_true]
  omega
end Go.Mz


namespace Go.Mz
open Go
end Go.Mz


namespace Go.Mz
open Go
end Go.Mz


namespace Go.Mz
open Go
theorem best_pay {s : Sw} (hok : SOk s) : payW s (crWants (bestW s fun _ => true)) = mostW s (servedL s) := by
 obtain ⟨i, hi⟩ := bestIx_some hok
 obtain ⟨_, h2, h3⟩ := bestIx_eq hok hi
 rw [h2, h3]
end Go.Mz


namespace Go.Mz
open Go
section
variable {s s' : Sw} {f g : Nat → Nat}
variable {xs : List Want} (hxs : ∀ x ∈ xs, WtOk s.loaves x)
include hxs
end
end Go.Mz


namespace Go.Mz
open Go
end Go.Mz


namespace Go.Mz
open Go
end Go.Mz


set_option maxRecDepth 100000
namespace Go.Mz
open Go.Conc Go.Proofs
variable {X : Logic Tryz.prog}
end Go.Mz


set_option maxRecDepth 100000
namespace Go.Mz
open Go.Conc Go.Proofs
variable {X : Logic Tryz.prog}
end Go.Mz


set_option maxRecDepth 100000
namespace Go.Mz
open Go.Conc Go.Proofs
variable {X : Logic Tryz.prog}
end Go.Mz


namespace Go.Mz
open Go
end Go.Mz


namespace Go.Mz
open Go
theorem ltB_pay {s : Sw} {a b : Cr} (h : ltB s a b = false) : payW s a.w ≤ payW s b.w := by
 unfold ltB at h
 split at h
 ·simp only [Bool.or_eq_false_iff, decide_eq_false_iff_not] at h
  omega
 ·rename_i e
  have : payW s a.w = payW s b.w := Decidable.byContradiction fun h' => e (.inl h')
  omega
section
variable {s : Sw} (hok : SOk s) {M : List (List Nat)} (hM : ∀ w, w ∈ M ↔ w ∈ picksW s.wants.length s.wants.length)
include hok hM
theorem best_so (so : List Nat → Bool) (h0 : so [] = true) : payW s (crWants (bestW s so)) = mostW s (M.filter fun w => srvB s w && so w) := by
 obtain ⟨c0, hc0⟩ := crush_nil hok
 have m0 : c0 ∈ ((allW s).filterMap id).filter fun c => so c.w := by
  have hw := (crushW_some hc0).1
  refine List.mem_filter.2 ⟨(cand_iff hok c0).2 ⟨by rw [hw]; exact nil_picks _ _, by rw [hw]; exact hc0⟩, by rw [hw]; exact h0⟩
 obtain ⟨d, hd⟩ := firstBy_some (lt := ltB s) (List.ne_nil_of_mem m0)
 have hd' : bestW s so = some d := hd
 obtain ⟨g1, g2⟩ := firstBy_min (ltB_trans s) (ltB_irr s) _ _ hd
 obtain ⟨g1, g3⟩ := List.mem_filter.1 g1
 obtain ⟨g4, g5⟩ := (cand_iff hok d).1 g1
 rw [hd']
 show payW s d.w = _
 have in1 : d.w ∈ M.filter fun w => srvB s w && so w := List.mem_filter.2 ⟨(hM _).2 g4, by rw [Bool.and_eq_true]; exact ⟨by unfold srvB; rw [g5]; rfl, g3⟩⟩
 have h1 := mostW_le s _ _ in1
 obtain ⟨w, hw, hp⟩ := mostW_mem hok (M.filter fun w => srvB s w && so w) (List.ne_nil_of_mem in1)
 obtain ⟨w1, w2⟩ := List.mem_filter.1 hw
 rw [Bool.and_eq_true] at w2
 unfold srvB at w2
 obtain ⟨e, he⟩ := Option.isSome_iff_exists.1 w2.1
 have ew := (crushW_some he).1
 have := ltB_pay (g2 e (List.mem_filter.2 ⟨(cand_iff hok e).2 ⟨by rw [ew]; exact (hM w).1 w1, by rw [ew]; exact he⟩, by rw [ew]; exact w2.2⟩))
 rw [ew] at this
 omega
theorem best_all : payW s (crWants (bestW s fun _ => true)) = mostW s (M.filter (srvB s)) := by
 rw [best_so hok hM (fun _ => true) rfl]
 congr 1
 exact List.filter_congr fun w _ => by simp
def topL (s : Sw) (M : List (List Nat)) : List (List Nat) := M.filter fun w => srvB s w && payW s w == payW s (crWants (bestW s fun _ => true))
omit hok in
theorem top_mem {w : List Nat} : w ∈ topL s M ↔ w ∈ picksW s.wants.length s.wants.length ∧ srvB s w = true ∧ payW s w = payW s (crWants (bestW s fun _ => true)) := by
 unfold topL
 rw [List.mem_filter, Bool.and_eq_true, beq_iff_eq, hM]
theorem top_ne : topL s M ≠ [] := by
 obtain ⟨w, hw, hp⟩ := mostW_mem hok (M.filter (srvB s)) (List.ne_nil_of_mem (a := []) (List.mem_filter.2 ⟨(hM _).2 (nil_picks _ _), by
  obtain ⟨c, hc⟩ := crush_nil hok
  unfold srvB; rw [hc]; rfl⟩))
 obtain ⟨h1, h2⟩ := List.mem_filter.1 hw
 exact List.ne_nil_of_mem ((top_mem hM).2 ⟨(hM w).1 h1, h2, by rw [hp, best_all hok hM]⟩)
theorem verd_eq (i : Nat) : verdW s i = if (topL s M).all (·.contains i) then 1 else if (topL s M).any (·.contains i) then 3 else 2 := by
 have cl : ∀ (q : List Nat → Bool), (((allW s).filterMap id).filter fun c => payW s c.w == payW s (crWants (bestW s fun _ => true))).all (fun c => q c.w) = (topL s M).all q := fun q => by
  rw [Bool.eq_iff_iff, List.all_eq_true, List.all_eq_true]
  constructor
  ·intro h w hw
   obtain ⟨h1, h2, h3⟩ := (top_mem hM).1 hw
   unfold srvB at h2
   obtain ⟨e, he⟩ := Option.isSome_iff_exists.1 h2
   have ew := (crushW_some he).1
   have := h e (List.mem_filter.2 ⟨(cand_iff hok e).2 ⟨by rw [ew]; exact h1, by rw [ew]; exact he⟩, by rw [ew, beq_iff_eq]; exact h3⟩)
   rw [ew] at this
   exact this
  ·intro h c hc
   obtain ⟨h1, h2⟩ := List.mem_filter.1 hc
   obtain ⟨h3, h4⟩ := (cand_iff hok c).1 h1
   exact h c.w ((top_mem hM).2 ⟨h3, by unfold srvB; rw [h4]; rfl, by simpa using h2⟩)
 have hne := top_ne hok hM
 unfold verdW
 simp only
 rw [cl fun w => !w.contains i, cl fun w => w.contains i]
 obtain ⟨x, t, ht⟩ := List.exists_cons_of_ne_nil hne
 by_cases h1 : (topL s M).all (·.contains i) = true
 ·rw [if_pos h1, if_neg (by
   rw [List.all_eq_true] at h1 ⊢
   intro h2
   have a1 := h1 x (by rw [ht]; exact List.mem_cons_self)
   have a2 := h2 x (by rw [ht]; exact List.mem_cons_self)
   rw [a1] at a2; cases a2), if_pos h1]
 ·rw [if_neg h1, if_neg h1]
  by_cases h2 : (topL s M).any (·.contains i) = true
  ·rw [if_pos h2, if_neg (by
    rw [List.any_eq_true] at h2
    rw [List.all_eq_true]
    intro h3
    obtain ⟨y, hy, hc⟩ := h2
    have := h3 y hy
    rw [hc] at this; cases this)]
  ·rw [if_neg h2, if_pos (by
    rw [List.all_eq_true]
    intro y hy
    rw [List.any_eq_true] at h2
    cases e : y.contains i with
    | false => rfl
    | true => exact absurd ⟨y, hy, e⟩ h2)]
theorem worth_eq (i : Nat) : worthW s i = mostW s (M.filter (srvB s)) - mostW s (M.filter fun w => srvB s w && !w.contains i) := by
 unfold worthW
 rw [best_all hok hM, best_so hok hM (fun w => !w.contains i) rfl]
end
end Go.Mz


set_option maxRecDepth 100000
namespace Go.Mz
open Go.Conc Go.Proofs
variable {X : Logic Tryz.prog}
theorem rAsked_sp (s : Sw) (p : Wp) (n : Int) (L : LH) (h : SwAt L s p) (hn : Sm s) : Sp X 116 [swA s p, .int .i64 n] L (fun v L' => v = .int .i64 (openW s [] [n]) ∧ L = L') := by
 refine Sp.enter (n := 15) Tryz.func116 rfl rfl rfl rfl fun C hX _ hL0 r => ?_
 refine W.go 99 rfl ?_
 refine W.eff rfl rfl rfl (Ef.call rfl (rCheck_sp s p L h hn)) ?_
 rintro _ _ _ ⟨_, rfl, rfl, rfl, rfl⟩
 refine W.go 99 rfl ?_
 refine W.split rfl rfl rfl (fun c1 => W.go 99 rfl ?_) (fun c1 => W.go 99 rfl ?_)
 ·have c1' : sawE s ≠ 0 := by simpa using c1
  have hCE : openW s [] [n] = sawE s := by unfold openW; rw [if_pos c1']
  exact W.ret r rfl rfl ⟨by rw [hCE]; rfl, rfl⟩
 have h0 : sawE s = 0 := by simpa using c1
 have hok1 := openW_n h0 n
 have hw5 := (sawE_0 h0).w5
 refine W.eff rfl rfl rfl (Ef.call rfl (rIsWant_sp s p n L (by omega))) ?_
 rintro _ _ _ ⟨_, rfl, rfl, rfl, rfl⟩
 refine W.go 99 rfl ?_
 cases hik : inB n 0 ((s.wants.length : Int) - 1) with
 | false =>
  rw [hik] at hok1
  refine W.split rfl rfl rfl (fun c => ?_) (fun c => absurd c (by decide))
  refine W.go 99 rfl ?_
  exact W.ret r rfl rfl ⟨by rw [hok1]; rfl, rfl⟩
 | true =>
  rw [hik] at hok1
  refine W.split rfl rfl rfl (fun c => absurd c (by decide)) (fun c => ?_)
  refine W.go 99 rfl ?_
  exact W.ret r rfl rfl ⟨by rw [hok1]; rfl, rfl⟩
def topT (s : Sw) (j : Nat) : List (List Nat) := ((servedL s).take j).filter fun w => payW s w == mostW s (servedL s)
theorem topT_no {s : Sw} {j : Nat} {w : List Nat} (h : (servedL s)[j]? = some w) (hp : payW s w ≠ mostW s (servedL s)) : topT s (j + 1) = topT s j := by
 obtain ⟨hj, rfl⟩ := List.getElem?_eq_some_iff.1 h
 unfold topT
 rw [List.take_succ_eq_append_getElem hj, List.filter_append, List.filter_cons_of_neg (by simpa using hp), List.filter_nil, List.append_nil]
theorem topT_yes {s : Sw} {j : Nat} {w : List Nat} (h : (servedL s)[j]? = some w) (hp : payW s w = mostW s (servedL s)) : topT s (j + 1) = topT s j ++ [w] := by
 obtain ⟨hj, rfl⟩ := List.getElem?_eq_some_iff.1 h
 unfold topT
 rw [List.take_succ_eq_append_getElem hj, List.filter_append, List.filter_cons_of_pos (by simpa using hp), List.filter_nil]
theorem topT_all {s : Sw} (hok : SOk s) : topT s (servedL s).length = topL s (picksW s.wants.length s.wants.length) := by
 unfold topT topL
 rw [List.take_length, best_pay hok]
 show (((picksW s.wants.length s.wants.length).filter (srvB s)).filter _) = _
 rw [List.filter_filter]
 exact List.filter_congr fun w _ => Bool.and_comm _ _
theorem verd_doc {s : Sw} (hok : SOk s) (i : Nat) : verdW s i = if (topT s (servedL s).length).all (·.contains i) then 1 else if (topT s (servedL s).length).any (·.contains i) then 3 else 2 := by
 rw [topT_all hok]
 exact verd_eq hok (fun w => Iff.rfl) i
theorem worth_doc {s : Sw} (hok : SOk s) (i : Nat) : worthW s i = mostW s (servedL s) - mostW s ((servedL s).filter fun w => !w.contains i) := by
 rw [worth_eq hok (fun w => Iff.rfl) i]
 congr 2
 show _ = ((picksW s.wants.length s.wants.length).filter (srvB s)).filter _
 rw [List.filter_filter]
 exact List.filter_congr fun w _ => Bool.and_comm _ _
theorem rVerdict_sp (s : Sw) (p : Wp) (n : Int) (L : LH) (h : SwAt L s p) (hn : Sm s) : Sp X 60 [swA s p, .int .i64 n] L (fun v L' => v = .tuple #[.int .i64 (VerdW s n).1, .int .i64 (VerdW s n).2] ∧ Le L L') := by
 refine Sp.enter (n := 59) Tryz.func60 rfl rfl rfl rfl fun C hX _ hL0 r => ?_
 refine W.go 99 rfl ?_
 refine W.eff rfl rfl rfl (Ef.call rfl (rAsked_sp s p n L h hn)) ?_
 rintro _ _ _ ⟨_, rfl, rfl, rfl, rfl⟩
 refine W.go 99 rfl ?_
 refine W.split rfl rfl rfl (fun c1 => W.go 99 rfl ?_) (fun c1 => W.go 99 rfl ?_)
 ·have c1' : openW s [] [n] ≠ 0 := by simpa using c1
  have hCE : VerdW s n = (0, openW s [] [n]) := by unfold VerdW; rw [if_pos c1']
  refine W.ret r rfl rfl ?_
  rw [hCE]
  exact ⟨rfl, Le.refl _⟩
 have c1' : openW s [] [n] = 0 := by simpa using c1
 obtain ⟨h0, _, hk⟩ := openW_0 c1'
 have hok := sawE_0 h0
 have hk := hk n (by simp)
 have hw5 := hok.w5
 obtain ⟨i, rfl⟩ : ∃ i : Nat, n = (i : Int) := ⟨n.toNat, by omega⟩
 have hSE : VerdW s i = (verdW s i, 0) := by unfold VerdW; rw [if_neg (by simp [c1'])]; rfl
 rw [hSE] at r
 refine W.eff rfl rfl rfl (Ef.call rfl (rServed_sp s p L h hok)) ?_
 rintro _ _ _ ⟨v1, rfl, rfl, pa, pc, rfl, hle, hrows⟩
 refine W.go 99 rfl ?_
 rename_i L1
 rw [List.length_map]
 have hls := served_ls hok
 refine W.eff rfl rfl rfl (Ef.call rfl (rMost_sp s p pa pc (servedL s) L1 (h.le hle) hok hrows hls)) ?_
 rintro _ _ _ ⟨_, rfl, rfl, rfl, rfl⟩
 have hv := verd_doc hok i
 have hno := fun j w => topT_no (s := s) (j := j) (w := w)
 have hyes := fun j w => topT_yes (s := s) (j := j) (w := w)
 have hlen := hls.1
 have hmw := hls.2
 have ht0 : topT s 0 = [] := rfl
 generalize mostW s (servedL s) = M at *
 generalize servedL s = P at *
 refine W.go 99 rfl ?_
 refine W.loop (fun m E B L' => ∃ (j : Nat) (b1 b2 : Bool), m = P.length - j ∧ j ≤ P.length ∧ L1 = L' ∧ (topT s j).any (·.contains i) = b1 ∧ (topT s j).all (·.contains i) = b2 ∧
   E = [(1, .v (.int .i64 i)), (2, .p 0 0), (7, .lit b1), (8, .lit b2), (9, .v (.slice pa P.length pc)), (10, .v (.int .i64 M)), (11, .v (.int .i64 j))] ∧ B = [some ⟨cellsS (.v (swA s p)), 26⟩])
  ⟨0, false, true, rfl, by omega, rfl, by rw [ht0]; rfl, by rw [ht0]; rfl, rfl, rfl⟩ (by exact ⟨rfl, rfl, rfl, rfl, rfl, rfl, rfl, trivial⟩) (by exact ⟨rfl, trivial⟩) ?_
 rintro _ _ _ _ ⟨j, b1, b2, rfl, hj, rfl, hb1, hb2, rfl, rfl⟩ again
 refine W.go 99 rfl ?_
 refine W.split rfl rfl rfl (fun e1 => W.go 99 rfl ?_) (fun e1 => W.go 99 rfl ?_)
 ·have hjl : j < P.length := by simpa using e1
  obtain ⟨w, hw⟩ : ∃ w, P[j]? = some w := ⟨_, List.getElem?_eq_getElem hjl⟩
  obtain ⟨hwn, hw5⟩ := hmw w (List.mem_of_getElem? hw)
  have hwm : (P.map natI)[j]? = some (natI w) := by rw [List.getElem?_map, hw]; rfl
  obtain ⟨pa', rfl⟩ := hrows.addr (i := j) (by simpa using hjl)
  obtain ⟨xa, xc, hxc, hxs, hxcp⟩ := hrows.row hwm
  rw [natI_len] at hxc hxcp
  refine W.drawn (by kernel_rfl) _ (Le.refl _) ?_
  refine DD.run' [0, 1, 2, 6] rfl ?_
  refine DD.vf 3 rfl rfl rfl rfl rfl (Vf.idx1 rfl rfl rfl rfl rfl rfl rfl (hjl)) ?_
  refine DD.vf 4 rfl rfl rfl rfl rfl (Vf.load rfl rfl rfl (hxc)) ?_
  refine DD.act 5 rfl rfl rfl rfl rfl (Ef.call rfl ((rPays_sp s p xa xc w L1 (h.le hle) hok hxs hwn (by omega)))) (by rintro _ _ _ ⟨_, rfl, rfl, rfl, rfl⟩; exact ⟨Le.refl _, rfl, .inl rfl⟩) ?_
  rintro _ _ _ ⟨_, rfl, rfl, rfl, rfl⟩
  refine DD.run' [7] rfl ?_
  refine .fin rfl ?_
  refine W.go 99 rfl ?_
  refine W.split rfl rfl rfl (fun e3 => ?_) (fun e3 => ?_)
  ·have heq : payW s w = M := by simpa using e3
   have hy := hyes j w hw heq
   have ha : (topT s (j + 1)).any (·.contains i) = (b1 || w.contains i) := by rw [hy, List.any_append, hb1]; simp
   have hl : (topT s (j + 1)).all (·.contains i) = (b2 && w.contains i) := by rw [hy, List.all_append, hb2]; simp
   refine W.go 99 rfl ?_
   cases b2
   ·cases b1
    ·refine W.go 99 rfl ?_
     refine W.vf rfl rfl rfl rfl (Vf.idx1 rfl rfl rfl rfl rfl rfl rfl (hjl)) ?_
     refine W.go 99 rfl ?_
     refine W.vf rfl rfl rfl rfl (Vf.load rfl rfl rfl (hxc)) ?_
     refine W.go 99 rfl ?_
     refine W.eff rfl rfl rfl (Ef.call rfl (rHas_sp xa xc w i L1 hxs (by omega))) ?_
     rintro _ _ _ ⟨_, rfl, rfl, rfl, rfl⟩
     refine W.go 99 rfl ?_
     refine W.asLit 7 (p := w.contains i) rfl rfl ?_
     exact W.again (again _ _ _ _ (by omega) ⟨j + 1, _, _, rfl, by omega, rfl, ha, hl, rfl, rfl⟩) (by exact ⟨rfl, rfl, rfl, rfl, rfl, rfl, congrArg some (inc64 (by omega)), trivial⟩) (by exact ⟨rfl, trivial⟩)
    ·refine W.go 99 rfl ?_
     exact W.again (again _ _ _ _ (by omega) ⟨j + 1, _, _, rfl, by omega, rfl, ha, hl, rfl, rfl⟩) (by exact ⟨rfl, rfl, rfl, rfl, rfl, rfl, congrArg some (inc64 (by omega)), trivial⟩) (by exact ⟨rfl, trivial⟩)
   ·cases b1
    ·refine W.go 99 rfl ?_
     refine W.vf rfl rfl rfl rfl (Vf.idx1 rfl rfl rfl rfl rfl rfl rfl (hjl)) ?_
     refine W.go 99 rfl ?_
     refine W.vf rfl rfl rfl rfl (Vf.load rfl rfl rfl (hxc)) ?_
     refine W.go 99 rfl ?_
     refine W.eff rfl rfl rfl (Ef.call rfl (rHas_sp xa xc w i L1 hxs (by omega))) ?_
     rintro _ _ _ ⟨_, rfl, rfl, rfl, rfl⟩
     refine W.go 99 rfl ?_
     refine W.vf rfl rfl rfl rfl (Vf.idx1 rfl rfl rfl rfl rfl rfl rfl (hjl)) ?_
     refine W.go 99 rfl ?_
     refine W.vf rfl rfl rfl rfl (Vf.load rfl rfl rfl (hxc)) ?_
     refine W.go 99 rfl ?_
     refine W.eff rfl rfl rfl (Ef.call rfl (rHas_sp xa xc w i L1 hxs (by omega))) ?_
     rintro _ _ _ ⟨_, rfl, rfl, rfl, rfl⟩
     refine W.go 99 rfl ?_
     refine W.asLit 7 (p := w.contains i) rfl rfl ?_
     refine W.asLit 8 (p := w.contains i) rfl rfl ?_
     exact W.again (again _ _ _ _ (by omega) ⟨j + 1, _, _, rfl, by omega, rfl, ha, hl, rfl, rfl⟩) (by exact ⟨rfl, rfl, rfl, rfl, rfl, rfl, congrArg some (inc64 (by omega)), trivial⟩) (by exact ⟨rfl, trivial⟩)
    ·refine W.go 99 rfl ?_
     refine W.vf rfl rfl rfl rfl (Vf.idx1 rfl rfl rfl rfl rfl rfl rfl (hjl)) ?_
     refine W.go 99 rfl ?_
     refine W.vf rfl rfl rfl rfl (Vf.load rfl rfl rfl (hxc)) ?_
     refine W.go 99 rfl ?_
     refine W.eff rfl rfl rfl (Ef.call rfl (rHas_sp xa xc w i L1 hxs (by omega))) ?_
     rintro _ _ _ ⟨_, rfl, rfl, rfl, rfl⟩
     refine W.go 99 rfl ?_
     refine W.asLit 8 (p := w.contains i) rfl rfl ?_
     exact W.again (again _ _ _ _ (by omega) ⟨j + 1, _, _, rfl, by omega, rfl, ha, hl, rfl, rfl⟩) (by exact ⟨rfl, rfl, rfl, rfl, rfl, rfl, congrArg some (inc64 (by omega)), trivial⟩) (by exact ⟨rfl, trivial⟩)
  ·have hne : payW s w ≠ M := by simpa using e3
   have hy := hno j w hw hne
   refine W.go 99 rfl ?_
   exact W.again (again _ _ _ _ (by omega) ⟨j + 1, b1, b2, rfl, by omega, rfl, by rw [hy]; exact hb1, by rw [hy]; exact hb2, rfl, rfl⟩) (by exact ⟨rfl, rfl, rfl, rfl, rfl, rfl, congrArg some (inc64 (by omega)), trivial⟩) (by exact ⟨rfl, trivial⟩)
 ·have hje : j = P.length := by simp at e1; omega
  subst hje
  rw [hb1, hb2] at hv
  cases b2
  ·cases b1
   ·refine W.go 99 rfl ?_
    refine W.ret r rfl rfl ?_
    rw [hv]
    exact ⟨rfl, hle⟩
   ·refine W.go 99 rfl ?_
    refine W.ret r rfl rfl ?_
    rw [hv]
    exact ⟨rfl, hle⟩
  ·refine W.go 99 rfl ?_
   refine W.ret r rfl rfl ?_
   rw [hv]
   exact ⟨rfl, hle⟩
theorem most_bd {s : Sw} (hok : SOk s) (l : List (List Nat)) (h : ∀ w ∈ l, WnOk s w ∧ w.length ≤ 5) : 0 ≤ mostW s l ∧ mostW s l ≤ 1000 := by
 induction l using snoc_ind with
 | h0 => exact ⟨Int.le_refl 0, by show (0 : Int) ≤ 1000; decide⟩
 | h1 l w ih =>
  rw [mostW_snoc]
  have h1 := ih fun w hw => h w (List.mem_append_left _ hw)
  have h2 := (h w (List.mem_append_right _ List.mem_cons_self)).2
  have := pay_bd hok w
  omega
def othT (s : Sw) (i j : Nat) : List (List Nat) := ((servedL s).take j).filter fun w => !w.contains i
theorem othT_succ {s : Sw} {i j : Nat} {w : List Nat} (h : (servedL s)[j]? = some w) : othT s i (j + 1) = othT s i j ++ if (!w.contains i) = true then [w] else [] := by
 obtain ⟨hj, rfl⟩ := List.getElem?_eq_some_iff.1 h
 unfold othT
 rw [List.take_succ_eq_append_getElem hj, List.filter_append]
 congr 1
 rw [List.filter_cons, List.filter_nil]
theorem othT_ls {s : Sw} (hok : SOk s) (i j : Nat) : LsOk s (othT s i j) := by
 obtain ⟨h1, h2⟩ := served_ls hok
 unfold othT
 refine ⟨Nat.le_trans (List.length_filter_le _ _) (by rw [List.length_take]; omega), fun w hw => h2 w (List.mem_of_mem_take (List.mem_filter.1 hw).1)⟩
theorem rWorth_sp (s : Sw) (p : Wp) (n : Int) (L : LH) (h : SwAt L s p) (hn : Sm s) : Sp X 62 [swA s p, .int .i64 n] L (fun v L' => v = .tuple #[.int .i64 (WorthE s n).1, .int .i64 (WorthE s n).2] ∧ Le L L') := by
 refine Sp.enter (n := 45) Tryz.func62 rfl rfl rfl rfl fun C hX _ hL0 r => ?_
 refine W.go 99 rfl ?_
 refine W.eff rfl rfl rfl (Ef.call rfl (rAsked_sp s p n L h hn)) ?_
 rintro _ _ _ ⟨_, rfl, rfl, rfl, rfl⟩
 refine W.go 99 rfl ?_
 refine W.split rfl rfl rfl (fun c1 => W.go 99 rfl ?_) (fun c1 => W.go 99 rfl ?_)
 ·have c1' : openW s [] [n] ≠ 0 := by simpa using c1
  have hCE : WorthE s n = (0, openW s [] [n]) := by unfold WorthE; rw [if_pos c1']
  refine W.ret r rfl rfl ?_
  rw [hCE]
  exact ⟨rfl, Le.refl _⟩
 have c1' : openW s [] [n] = 0 := by simpa using c1
 obtain ⟨h0, _, hk⟩ := openW_0 c1'
 have hok := sawE_0 h0
 have hk := hk n (by simp)
 have hw5 := hok.w5
 obtain ⟨i, rfl⟩ : ∃ i : Nat, n = (i : Int) := ⟨n.toNat, by omega⟩
 have hSE : WorthE s i = (worthW s i, 0) := by unfold WorthE; rw [if_neg (by simp [c1'])]; rfl
 rw [hSE] at r
 refine W.eff rfl rfl rfl (Ef.call rfl (rServed_sp s p L h hok)) ?_
 rintro _ _ _ ⟨v1, rfl, rfl, pa, pc, rfl, hle, hrows⟩
 refine W.go 99 rfl ?_
 rename_i L1
 rw [List.length_map]
 have hls := served_ls hok
 have hv := worth_doc hok i
 have hst := fun j w => othT_succ (s := s) (i := i) (j := j) (w := w)
 have hol := othT_ls hok i
 have ht0 : othT s i 0 = [] := rfl
 have htn : othT s i (servedL s).length = (servedL s).filter fun w => !w.contains i := by unfold othT; rw [List.take_length]
 rw [← htn] at hv
 have hm1 := fun L3 la lc (hh : SwAt L3 s p) hr => rMost_sp (X := C.X) s p la lc (servedL s) L3 hh hok hr hls
 have hlen := hls.1
 have hmw := hls.2
 have hb1 : 0 ≤ mostW s (servedL s) ∧ mostW s (servedL s) ≤ 1000 := most_bd hok _ hmw
 generalize mostW s (servedL s) = M at *
 generalize servedL s = P at *
 refine W.loop (fun m E B L' => ∃ (j : Nat) (v : Value), m = P.length - j ∧ j ≤ P.length ∧ GrowL L1 23 1 encI L' v ((othT s i j).map natI) ∧
   E = [(1, .v (.int .i64 i)), (2, .p 0 0), (7, .v v), (8, .v (.slice pa P.length pc)), (9, .v (.int .i64 j))] ∧ B = [some ⟨cellsS (.v (swA s p)), 26⟩])
  ⟨0, _, rfl, by omega, GrowL.nil (Le.refl _), rfl, rfl⟩ (by exact ⟨rfl, rfl, rfl, rfl, rfl, trivial⟩) (by exact ⟨rfl, trivial⟩) ?_
 rintro _ _ _ L2 ⟨j, v, rfl, hj, hgr, rfl, rfl⟩ again
 have hl2 := hgr.hle
 refine W.go 99 rfl ?_
 refine W.split rfl rfl rfl (fun e1 => W.go 99 rfl ?_) (fun e1 => W.go 99 rfl ?_)
 ·have hjl : j < P.length := by simpa using e1
  obtain ⟨w, hw⟩ : ∃ w, P[j]? = some w := ⟨_, List.getElem?_eq_getElem hjl⟩
  obtain ⟨hwn, hw5⟩ := hmw w (List.mem_of_getElem? hw)
  have hwm : (P.map natI)[j]? = some (natI w) := by rw [List.getElem?_map, hw]; rfl
  obtain ⟨pa', rfl⟩ := hrows.addr (i := j) (by simpa using hjl)
  obtain ⟨xa, xc, hxc, hxs, hxcp⟩ := hrows.row hwm
  rw [natI_len] at hxc hxcp
  have hs2 := hst j w hw
  obtain ⟨va, vc, rfl⟩ := hgr.slice
  refine W.vf rfl rfl rfl rfl (Vf.idx1 rfl rfl rfl rfl rfl rfl rfl (hjl)) ?_
  refine W.go 99 rfl ?_
  refine W.vf rfl rfl rfl rfl (Vf.load rfl rfl rfl (hl2.cell hxc)) ?_
  refine W.go 99 rfl ?_
  refine W.eff rfl rfl rfl (Ef.call rfl (rHas_sp xa xc w i L2 (hxs.le hl2) (by omega))) ?_
  rintro _ _ _ ⟨_, rfl, rfl, rfl, rfl⟩
  refine W.go 99 rfl ?_
  cases hci : w.contains i with
  | true =>
   refine W.split rfl rfl rfl (fun c => absurd c (by decide)) (fun c => ?_)
   refine W.go 99 rfl ?_
   exact W.again (again _ _ _ _ (by omega) ⟨j + 1, _, rfl, by omega, by rw [hs2, if_neg (by rw [hci]; decide), List.append_nil]; exact hgr, rfl, rfl⟩) (by exact ⟨rfl, rfl, rfl, rfl, congrArg some (inc64 (by omega)), trivial⟩) (by exact ⟨rfl, trivial⟩)
  | false =>
   refine W.split rfl rfl rfl (fun c => ?_) (fun c => absurd c (by decide))
   obtain ⟨J, rs, hLJ, hrs, hgo, hrk⟩ := hgr
   have hrl : rs.length ≤ 32 := by
    have h1 := congrArg List.length hrs
    rw [List.length_map, List.length_map] at h1
    have h2 := (hol j).1
    omega
   refine W.go 99 rfl ?_
   refine W.vf rfl rfl rfl rfl (Vf.idx1 rfl rfl rfl rfl rfl rfl rfl (hjl)) ?_
   refine W.go 99 rfl ?_
   refine W.vf rfl rfl rfl rfl (Vf.load rfl rfl rfl (hl2.cell hxc)) ?_
   refine W.go 99 rfl ?_
   refine W.eff rfl rfl rfl (Ef.grow rfl rfl rfl rfl rfl rfl rfl rfl rfl encRw_len encRw_sg hgo (ls := [((xa, w.length, xc), natI w)]) (.own rfl rfl rfl rfl) (by simp; omega)) ?_
   rintro _ _ _ ⟨v6, rfl, rfl, hg6, _⟩
   refine W.go 99 rfl ?_
   refine W.again (again _ _ _ _ (by omega) ⟨j + 1, v6, rfl, by omega, ⟨J, rs ++ [((xa, w.length, xc), natI w)], hLJ, ?_, hg6, ?_⟩, rfl, rfl⟩) (by exact ⟨rfl, rfl, rfl, rfl, congrArg some (inc64 (by omega)), trivial⟩) (by exact ⟨rfl, trivial⟩)
   ·rw [List.map_append, hrs, hs2, if_pos (by rw [hci]; rfl), List.map_append]
    rfl
   ·intro z hz
    rcases List.mem_append.1 hz with hz | hz
    ·exact hrk z hz
    ·rw [List.mem_singleton.1 hz]; exact ⟨hxs.le hLJ, (natI_len w).symm, by show (natI w).length ≤ xc; rw [natI_len]; exact hxcp⟩
 ·have hje : j = P.length := by simp at e1; omega
  subst hje
  obtain ⟨va, vc, rfl⟩ := hgr.slice
  rw [List.length_map]
  have ho2 := rMost_sp (X := C.X) s p va vc (othT s i P.length) L2 (h.le (hle.trans hl2)) hok hgr.at.2 (hol _)
  have hb2 : 0 ≤ mostW s (othT s i P.length) ∧ mostW s (othT s i P.length) ≤ 1000 := most_bd hok _ (hol _).2
  refine W.drawn (by kernel_rfl) L2 (Le.refl _) ?_
  refine DD.run' [0, 1, 3, 4] rfl ?_
  refine DD.act 2 rfl rfl rfl rfl rfl (Ef.call rfl (hm1 L2 pa pc (h.le (hle.trans hl2)) (hrows.le hl2))) (by rintro _ _ _ ⟨_, rfl, rfl, rfl, rfl⟩; exact ⟨Le.refl _, rfl, .inl rfl⟩) ?_
  rintro _ _ _ ⟨_, rfl, rfl, rfl, rfl⟩
  refine DD.act 5 rfl rfl rfl rfl rfl (Ef.call rfl (ho2)) (by rintro _ _ _ ⟨_, rfl, rfl, rfl, rfl⟩; exact ⟨Le.refl _, rfl, .inl rfl⟩) ?_
  rintro _ _ _ ⟨_, rfl, rfl, rfl, rfl⟩
  refine DD.run' [6, 7, 8] rfl ?_
  refine .fin rfl ?_
  refine W.go 99 rfl ?_
  refine W.ret r rfl rfl ?_
  rw [hv]
  refine ⟨?_, hle.trans hl2⟩
  show Value.tuple #[.int .i64 (IntKind.i64.wrap (M - mostW s (othT s i P.length))), _] = _
  rw [wrap64_in _ (by omega) (by omega)]
end Go.Mz


namespace Go.Mz
open Go
end Go.Mz


namespace Go.Mz
open Go
def cntAt (ms : List (List Int × Nat)) (i : Nat) : List (List Int × Nat) := ms.modify i fun x => (x.1, x.2 + 1)
def sumC (ms : List (List Int × Nat)) : Nat := (ms.map (·.2)).sum
theorem sumC_at : ∀ {ms : List (List Int × Nat)} {i : Nat}, i < ms.length → sumC (cntAt ms i) = sumC ms + 1
 | [], i, h => absurd h (Nat.not_lt_zero _)
 | x :: ms, 0, _ => by simp [sumC, cntAt]; omega
 | x :: ms, i + 1, h => by
  have ih := sumC_at (ms := ms) (i := i) (by simpa using h)
  unfold sumC cntAt at ih ⊢
  rw [List.modify_succ_cons, List.map_cons, List.map_cons, List.sum_cons, List.sum_cons, ih]; omega
theorem sumC_new (ms : List (List Int × Nat)) (k : List Int) : sumC (ms ++ [(k, 0)]) = sumC ms := by simp [sumC]
def seenC (ms : List (List Int × Nat)) (sl : List Nat) : Nat := (sl.map fun i => (ms[i]?.map (·.2)).getD 0).sum
theorem seenC_snoc (ms : List (List Int × Nat)) (sl : List Nat) {i : Nat} {x : List Int × Nat} (hx : ms[i]? = some x) : seenC ms (sl ++ [i]) = seenC ms sl + x.2 := by
 unfold seenC
 rw [List.map_append, List.sum_append, List.map_cons, List.map_nil, hx]
 simp
theorem range_sum (ms : List (List Int × Nat)) : seenC ms (List.range ms.length) = sumC ms := by
 unfold seenC sumC
 congr 1
 apply List.ext_getElem?
 intro i
 rw [List.getElem?_map, List.getElem?_map]
 rcases Nat.lt_or_ge i ms.length with h | h
 ·rw [List.getElem?_range h, List.getElem?_eq_getElem h]; simp [List.getElem?_eq_getElem h]
 ·rw [List.getElem?_eq_none (by simpa using h), List.getElem?_eq_none h]; rfl
theorem perm_sum {a b : List Nat} (h : a.Perm b) : a.sum = b.sum := by
 induction h with
 | nil => rfl
 | cons x _ ih => rw [List.sum_cons, List.sum_cons, ih]
 | swap x y l => rw [List.sum_cons, List.sum_cons, List.sum_cons, List.sum_cons]; omega
 | trans _ _ ih1 ih2 => rw [ih1, ih2]
theorem seenC_all {ms : List (List Int × Nat)} {sl : List Nat} (hn : sl.Nodup) (hm : ∀ i, i ∈ sl ↔ i < ms.length) : seenC ms sl = sumC ms := by
 rw [← range_sum]
 have hp : sl.Perm (List.range ms.length) := (List.perm_ext_iff_of_nodup hn List.nodup_range).2 fun i => by rw [hm, List.mem_range]
 unfold seenC
 exact perm_sum (hp.map _)
theorem seenC_le {ms : List (List Int × Nat)} {sl : List Nat} (hn : sl.Nodup) (hm : ∀ i ∈ sl, i < ms.length) : sl.length ≤ ms.length := by
 have := List.Nodup.length_le_of_subset hn (l₂ := List.range ms.length) fun i hi => List.mem_range.2 (hm i hi)
 simpa using this
theorem seenC_bd {ms : List (List Int × Nat)} {B : Nat} (hB : ∀ x ∈ ms, x.2 ≤ B) (sl : List Nat) : seenC ms sl ≤ sl.length * B := by
 unfold seenC
 induction sl with
 | nil => simp
 | cons i sl ih =>
  rw [List.map_cons, List.sum_cons, List.length_cons, Nat.succ_mul]
  have : (ms[i]?.map (·.2)).getD 0 ≤ B := by
   cases h : ms[i]? with
   | none => simp
   | some x => exact hB x (List.mem_of_getElem? h)
  omega
theorem verd_cnt (s : Sw) (i : Nat) : verdW s i =
  if (((allW s).filterMap id).filter fun c => payW s c.w == payW s (crWants (bestW s fun _ => true))).countP (fun c => c.w.contains i) = 0 then 2 else
  if (((allW s).filterMap id).filter fun c => payW s c.w == payW s (crWants (bestW s fun _ => true))).countP (fun c => c.w.contains i) = (((allW s).filterMap id).filter fun c => payW s c.w == payW s (crWants (bestW s fun _ => true))).length then 1 else 3 := by
 unfold verdW
 simp only
 generalize ((allW s).filterMap id).filter (fun c => payW s c.w == payW s (crWants (bestW s fun _ => true))) = l
 have e1 : (l.all fun c => !c.w.contains i) = true ↔ l.countP (fun c => c.w.contains i) = 0 := by
  rw [List.countP_eq_zero, List.all_eq_true]
  constructor
  ·intro h x hx hc
   have := h x hx
   rw [hc] at this
   cases this
  ·intro h x hx
   have := h x hx
   simpa using this
 have e2 : (l.all fun c => c.w.contains i) = true ↔ l.countP (fun c => c.w.contains i) = l.length := by
  rw [List.countP_eq_length, List.all_eq_true]
 by_cases h1 : l.countP (fun c => c.w.contains i) = 0
 ·rw [if_pos (e1.2 h1), if_pos h1]
 ·rw [if_neg (mt e1.1 h1), if_neg h1]
  by_cases h2 : l.countP (fun c => c.w.contains i) = l.length
  ·rw [if_pos (e2.2 h2), if_pos h2]
  ·rw [if_neg (mt e2.1 h2), if_neg h2]
end Go.Mz


set_option maxRecDepth 100000
namespace Go.Mz
open Go.Conc Go.Proofs
section
variable {P : Program} {C : Cx P} {E : Look} {B : List (Option Bx)} {L : LH} {dst : Option Tmp} {ty : TypeId} {pos : String} {af : Array Edge} {gd : Option (Nat × Bool)}
theorem Ef.entryNew {t kt et : TypeId} {x y : Operand} {r : Nat} {sk : SV} {kv z : Value} {es : Array MapEntry} {clk : Nat} (hx : evS E x = some (.v (.map (some r)))) (hy : evS E y = some sk) (dk : den nm0 sk = some kv) (hu : P.underlying t = some (.map kt et)) (hz : (P.info? et).bind (·.zero) = some z) (hL : L r = some (.map es clk, true))
  (hc : ∀ (e : Bool) (Q : Unit → LH → Prop) (H : Value → LH → Prop) (R : LH), wpS P Q H (Instr.checkKey e 10000 kt kv) R = Q () R) (hf : ∀ (Q : Option (Nat × Value) → LH → Prop) (H : Value → LH → Prop) (R : LH), wpS P Q H (Instr.findKey kt kv es.toList) R = Q none R) :
  Ef C ⟨dst, .mapEntry t x y, ty, pos, af, gd⟩ E B L (fun sv B' L' => sv = .v (.tuple #[z, .int .i64 clk]) ∧ B' = B ∧ L' = L.put r (.map (es.push { key := kv, val := z, born := clk }) (clk + 1))) := by
 intro T R β hE hH
 have ex := (Option.some.inj (hE.val hx)).symm
 have ey : ev T y = kv := Option.some.inj ((hE.val hy).symm.trans (den_nil dk β))
 refine ⟨rfl, ?_⟩
 simp only [execOp, ex, ey]
 rw [wpS_bind]
 unfold Instr.mapEntry
 rw [wpS_bind, wpS_underlying hu]
 simp only
 rw [wpS_bind, wpS_getMap (hH.le _ _ hL)]
 simp only
 rw [wpS_bind, hc, wpS_bind, hf]
 simp only
 rw [wpS_bind, wpS_zeroValue hz, wpS_bind, wpS_setObj (hH.le _ _ hL) rfl rfl]
 exact ⟨_, B, _, ⟨rfl, rfl, rfl⟩, rfl, hH.setF hL (put_same _ _ _) (fun b' hb' => put_ne R _ hb'), fun _ _ => rfl⟩
theorem Ef.entryOld {t kt et : TypeId} {x y : Operand} {r i : Nat} {sk : SV} {kv v : Value} {es : Array MapEntry} {clk : Nat} {e : MapEntry} (hx : evS E x = some (.v (.map (some r)))) (hy : evS E y = some sk) (dk : den nm0 sk = some kv) (hu : P.underlying t = some (.map kt et)) (hL : L r = some (.map es clk, true)) (he : es[i]? = some e) (hk : e.key = kv) (hsb : Instr.sameBits 10000 kv kv = true)
  (hc : ∀ (e : Bool) (Q : Unit → LH → Prop) (H : Value → LH → Prop) (R : LH), wpS P Q H (Instr.checkKey e 10000 kt kv) R = Q () R) (hf : ∀ (Q : Option (Nat × Value) → LH → Prop) (H : Value → LH → Prop) (R : LH), wpS P Q H (Instr.findKey kt kv es.toList) R = Q (some (i, v)) R) :
  Ef C ⟨dst, .mapEntry t x y, ty, pos, af, gd⟩ E B L (fun sv B' L' => sv = .v (.tuple #[v, .int .i64 e.born]) ∧ B' = B ∧ L' = L.put r (.map es clk)) := by
 intro T R β hE hH
 have ex := (Option.some.inj (hE.val hx)).symm
 have ey : ev T y = kv := Option.some.inj ((hE.val hy).symm.trans (den_nil dk β))
 refine ⟨rfl, ?_⟩
 simp only [execOp, ex, ey]
 rw [wpS_bind]
 unfold Instr.mapEntry
 rw [wpS_bind, wpS_underlying hu]
 simp only
 rw [wpS_bind, wpS_getMap (hH.le _ _ hL)]
 simp only
 rw [wpS_bind, hc, wpS_bind, hf]
 simp only [he, Option.map_some, Option.getD_some, hk]
 unfold Instr.keyThatStays
 rw [if_pos hsb, wpS_bind, wpS_pure]
 have em : es.modify i (fun e => { e with key := kv }) = es := by
  apply Array.ext_getElem?
  intro j
  rw [Array.getElem?_modify]
  split
  ·rename_i hij
   subst hij
   rw [he]
   cases e
   simp only at hk
   subst hk
   rfl
  ·rfl
 rw [em, wpS_bind, wpS_setObj (hH.le _ _ hL) rfl rfl]
 exact ⟨_, B, _, ⟨rfl, rfl, rfl⟩, rfl, hH.setF hL (put_same _ _ _) (fun b' hb' => put_ne R _ hb'), fun _ _ => rfl⟩
theorem Ef.entryStore {t : TypeId} {x y u : Operand} {r i : Nat} {j : Int} {k : IntKind} {su : SV} {uv : Value} {es : Array MapEntry} {clk : Nat} (hx : evS E x = some (.v (.map (some r)))) (hy : evS E y = some (.v (.int k j))) (hw : evS E u = some su) (du : den nm0 su = some uv) (hL : L r = some (.map es clk, true)) (hi : es.findIdx? (fun e => (e.born : Int) == j) = some i) :
  Ef C ⟨dst, .entryStore t x y u, ty, pos, af, gd⟩ E B L (StoQ (L.put r (.map (es.modify i fun e => { e with val := uv }) clk)) B) := by
 intro T R β hE hH
 have ex := (Option.some.inj (hE.val hx)).symm
 have ey : ev T y = .int k j := (Option.some.inj (hE.val hy)).symm
 have eu : ev T u = uv := Option.some.inj ((hE.val hw).symm.trans (den_nil du β))
 refine ⟨rfl, ?_⟩
 simp only [execOp, ex, ey, eu]
 rw [wpS_bind]
 unfold Instr.entryStore
 simp only
 rw [wpS_bind, wpS_getMap (hH.le _ _ hL)]
 simp only
 rw [wpS_bind]
 show wpS P _ _ (match es.findIdx? (fun e => (e.born : Int) == j) with | some i => _ | none => _) R
 rw [hi]
 simp only
 rw [wpS_setObj (hH.le _ _ hL) rfl rfl]
 exact ⟨.v undef, B, _, ⟨rfl, rfl, rfl⟩, rfl, hH.setF hL (put_same _ _ _) (fun b' hb' => put_ne R _ hb'), fun _ _ => rfl⟩
theorem Ef.range {t kt et : TypeId} {x : Operand} {r : Nat} {es : Array MapEntry} {clk : Nat} {wr : Bool} (hx : evS E x = some (.v (.map (some r)))) (hu : P.underlying t = some (.map kt et)) (hL : L r = some (.map es clk, wr)) :
  Ef C ⟨dst, .range t x, ty, pos, af, gd⟩ E B L (fun sv B' L' => ∃ b, sv = .v (.pointer (some ⟨b, 0, none⟩)) ∧ B' = B ∧ L b = none ∧ L' = L.put b (.mapIter (some r) clk #[] clk)) := by
 intro T R β hE hH
 have ex := (Option.some.inj (hE.val hx)).symm
 refine ⟨rfl, ?_⟩
 simp only [execOp, ex]
 rw [wpS_bind]
 unfold Instr.range
 rw [wpS_bind, wpS_underlying hu]
 simp only
 rw [wpS_bind, wpS_getMap (hH.le _ _ hL)]
 simp only
 rw [wpS_bind, wpS_pure, wpS_bind, wpS_newObj]
 intro b hb
 exact ⟨_, B, _, ⟨b, rfl, rfl, (hH.free hb).1, rfl⟩, rfl, hH.newF hb _, fun _ _ => rfl⟩
theorem Ef.next {y : Operand} {q r since last : Nat} {es : Array MapEntry} {clk : Nat} {seen : Array Nat} {wr : Bool} (hy : evS E y = some (.v (.pointer (some ⟨q, 0, none⟩)))) (hq : L q = some (.mapIter (some r) since seen last, true)) (hL : L r = some (.map es clk, wr)) (hb : ∀ e ∈ es, e.born < since ∧ e.born < last) :
  Ef C ⟨dst, .next y false, ty, pos, af, gd⟩ E B L (fun sv B' L' => B' = B ∧ ((sv = .v (.tuple #[.bool false]) ∧ (∀ e ∈ es, seen.contains e.born = true) ∧ L' = L) ∨ ∃ e ∈ es, seen.contains e.born = false ∧ sv = .v (.tuple #[.bool true, e.key, e.val]) ∧ L' = L.put q (.mapIter (some r) since (seen.push e.born) clk))) := by
 intro T R β hE hH
 have ey := (Option.some.inj (hE.val hy)).symm
 refine ⟨rfl, ?_⟩
 simp only [execOp, ey]
 rw [wpS_bind]
 unfold Instr.next
 simp only
 rw [wpS_bind]
 show wpS P _ _ (.getObj q .pure) R
 unfold wpS
 rw [hH.le _ _ hq]
 simp only [special, Bool.false_eq_true, if_false]
 show wpS P _ _ (getObj r >>= _) R
 rw [wpS_bind, wpS_getMap (hH.le _ _ hL)]
 simp only
 have h1 : (!seen.isEmpty && !es.isEmpty && es.all (fun e => decide (e.born ≥ last))) = false := by
  cases he : es.all (fun e => decide (e.born ≥ last)) with
  | false => rw [Bool.and_false]
  | true =>
   have : es = #[] := by
    apply Array.eq_empty_of_size_eq_zero
    rcases Nat.eq_zero_or_pos es.size with h | h
    ·exact h
    ·have h2 := Array.all_eq_true.1 he 0 h
     have h3 := (hb _ (Array.getElem_mem h)).2
     simp at h2
     omega
   subst this
   rw [show (#[] : Array MapEntry).isEmpty = true from rfl]
   cases seen.isEmpty <;> rfl
 rw [h1]
 simp only [Bool.false_eq_true, if_false]
 have hold : (es.filter fun e => !seen.contains e.born).filter (fun e => decide (e.born < since)) = es.filter fun e => !seen.contains e.born := by
  rw [Array.filter_eq_self]
  intro e he
  have := (hb e (Array.mem_filter.1 he).1).1
  simpa using this
 have hnew : (es.filter fun e => !seen.contains e.born).filter (fun e => decide (e.born ≥ since)) = #[] := by
  rw [Array.filter_eq_empty_iff]
  intro e he
  have := (hb e (Array.mem_filter.1 he).1).1
  simp
  omega
 rw [hold, hnew, Array.append_empty]
 have hmem : ∀ e, e ∈ (es.filter fun e => !seen.contains e.born) ↔ e ∈ es ∧ seen.contains e.born = false := fun e => by rw [Array.mem_filter]; simp
 generalize (es.filter fun e => !seen.contains e.born) = lf at hmem
 rw [wpS_bind, wpS_choose]
 intro n hn
 have done : ∀ {K : Value → LH → Prop}, K (.tuple #[.bool false]) R → wpS P K (fun _ _ => False) (pure (.tuple #[.bool false]) : Sem Value) R := fun h => h
 cases hl : lf.isEmpty with
 | true =>
  have h0 : lf = #[] := by rw [Array.isEmpty_iff] at hl; exact hl
  subst h0
  simp only [if_true, Array.map_empty, Array.append_empty]
  have hn0 : n = 0 := by
   unfold Answers at hn
   rw [if_pos (by simp [Question.forced])] at hn
   exact hn
  subst hn0
  refine ⟨_, B, L, ⟨rfl, .inl ⟨rfl, fun e he => ?_, rfl⟩⟩, rfl, hH, fun _ _ => rfl⟩
  cases hs : seen.contains e.born with
  | true => rfl
  | false => have := (hmem e).2 ⟨he, hs⟩; simp at this
 | false =>
  simp only [Bool.false_eq_true, if_false, Array.empty_append]
  have hpos : 0 < lf.size := by
   rcases Nat.eq_zero_or_pos lf.size with h | h
   ·rw [Array.isEmpty] at hl; simp [h] at hl
   ·exact h
  have hlt : n < lf.size := by
   rw [hl] at hn
   simp only [Bool.false_eq_true, if_false, Array.empty_append, Array.size_map] at hn
   unfold Answers at hn
   split at hn
   ·omega
   ·obtain ⟨t, rfl⟩ := hn
    exact Nat.mod_lt _ hpos
  rw [Array.getElem?_map, Array.getElem?_eq_getElem hlt]
  simp only [Option.map_some]
  obtain ⟨g1, g2⟩ := (hmem _).1 (Array.getElem_mem hlt)
  rw [wpS_bind, wpS_setObj (hH.le _ _ hq) rfl rfl]
  exact ⟨_, B, _, ⟨rfl, .inr ⟨lf[n], g1, g2, rfl, rfl⟩⟩, rfl, hH.setF hq (put_same _ _ _) (fun b' hb' => put_ne R _ hb'), fun _ _ => rfl⟩
theorem Vf.entry {y : Operand} {q r since : Nat} {es : Array MapEntry} {clk : Nat} {seen : Array Nat} {wr wr' : Bool} {e : MapEntry} (hy : evS E y = some (.v (.pointer (some ⟨q, 0, none⟩)))) (hq : L q = some (.mapIter (some r) since seen clk, wr)) (hL : L r = some (.map es clk, wr')) (hb : seen.back? = some e.born) (he : es.find? (·.born == e.born) = some e) :
  Vf P (.entry y) E B L (.v (.tuple #[e.key, e.val])) := fun T R β hE _ hR => by
 have ey := (Option.some.inj (hE.val hy)).symm
 refine ⟨_, rfl, fun ty dst pos af gd Q H hq' => ?_⟩
 simp only [execOp, ey]
 rw [wpS_bind]
 unfold Instr.entry
 simp only
 rw [wpS_bind]
 show wpS P _ _ (.getObj q .pure) R
 unfold wpS
 rw [hR _ _ hq]
 simp only [special, Bool.false_eq_true, if_false]
 show wpS P _ _ (match seen.back? with | some stamp => _ | _ => _) R
 rw [hb]
 simp only
 show wpS P _ _ (getObj r >>= _) R
 rw [wpS_bind, wpS_getMap (hR _ _ hL)]
 simp only [bne_self_eq_false, Bool.false_eq_true, if_false]
 show wpS P _ _ (match es.find? (·.born == e.born) with | some e => _ | none => _) R
 rw [he]
 exact hq'
theorem Vf.lookup1 {t kt et : TypeId} {x y : Operand} {r : Nat} {sk : SV} {kv z : Value} {es : Array MapEntry} {clk : Nat} {wr : Bool} {res : Option (Nat × Value)} (hx : evS E x = some (.v (.map (some r)))) (hy : evS E y = some sk) (dk : den nm0 sk = some kv) (hu : P.underlying t = some (.map kt et)) (hL : L r = some (.map es clk, wr)) (hz : (P.info? et).bind (·.zero) = some z)
  (hc : ∀ (e : Bool) (Q : Unit → LH → Prop) (H : Value → LH → Prop) (R : LH), wpS P Q H (Instr.checkKey e 10000 kt kv) R = Q () R) (hf : ∀ (Q : Option (Nat × Value) → LH → Prop) (H : Value → LH → Prop) (R : LH), wpS P Q H (Instr.findKey kt kv es.toList) R = Q res R) :
  Vf P (.lookup t x y false) E B L (.v ((res.map (·.2)).getD z)) := fun T R β hE _ hR => by
 have ex := (Option.some.inj (hE.val hx)).symm
 have ey : ev T y = kv := Option.some.inj ((hE.val hy).symm.trans (den_nil dk β))
 refine ⟨_, rfl, fun ty dst pos af gd Q H hq => ?_⟩
 simp only [execOp, ex, ey]
 rw [wpS_bind]
 unfold Instr.lookup
 rw [wpS_bind, wpS_underlying hu]
 simp only
 rw [wpS_bind, wpS_getMap (hR _ _ hL)]
 show wpS P _ H (Instr.checkKey es.isEmpty 10000 kt kv >>= _) R
 rw [wpS_bind, hc, wpS_bind, hf]
 cases res with
 | none => simp only; rw [wpS_bind, wpS_zeroValue hz]; exact hq
 | some p => exact hq
end
end Go.Mz


set_option maxRecDepth 100000
namespace Go.Mz
open Go.Conc Go.Proofs
theorem eq99 {a b c a' b' c' : Int} {n : Nat} {Q : Bool → LH → Prop} {H : Value → LH → Prop} {L : LH} : wpS Tryz.prog Q H (Op.equalIn (n + 3) 99 (intsV [a, b, c]) (intsV [a', b', c'])) L = Q ((a == a') && ((b == b') && (c == c'))) L := by
 unfold intsV
 rw [Op.equalIn, wpS_bind, wpS_underlying Tryz.underlying99, wpS_bind, wpS_sizeOf size3, wpS_bind]
 simp only [Std.Legacy.Range.forIn_eq_forIn_range', Std.Legacy.Range.size, Nat.sub_zero, Nat.add_sub_cancel, Nat.div_one, List.range'_succ, List.range'_zero, List.forIn_cons, List.forIn_nil]
 rw [wpS_bind, wpS_bind, wpS_part1 (v := .int .i64 a) agg3 rfl, wpS_bind, wpS_part1 (v := .int .i64 a') agg3 rfl, wpS_bind, eqIn_int Tryz.underlying3]
 cases e1 : (a == a')
 ·rfl
 rw [Bool.true_and]
 show wpS Tryz.prog _ H (_ >>= _) L = _
 rw [wpS_bind, wpS_bind, wpS_part1 (v := .int .i64 b) agg3 rfl, wpS_bind, wpS_part1 (v := .int .i64 b') agg3 rfl, wpS_bind, eqIn_int Tryz.underlying3]
 cases e2 : (b == b')
 ·rfl
 rw [Bool.true_and]
 show wpS Tryz.prog _ H (_ >>= _) L = _
 rw [wpS_bind, wpS_bind, wpS_part1 (v := .int .i64 c) agg3 rfl, wpS_bind, wpS_part1 (v := .int .i64 c') agg3 rfl, wpS_bind, eqIn_int Tryz.underlying3]
 cases e3 : (c == c')
 ·rfl
 ·rfl
theorem key99 {a b c : Int} (em : Bool) (Q : Unit → LH → Prop) (H : Value → LH → Prop) (R : LH) : wpS Tryz.prog Q H (Instr.checkKey em 10000 99 (intsV [a, b, c])) R = Q () R := by
 kernel_rfl
theorem bits99 (a b c : Int) : Instr.sameBits 10000 (intsV [a, b, c]) (intsV [a, b, c]) = true := by
 show Instr.sameBits (9998 + 2) _ _ = true
 simp [intsV, Instr.sameBits]
theorem ints3 {k : List Int} (h : k.length = 3) : ∃ a b c, k = [a, b, c] := list3 h
def mapL : List (List Int × Nat) → Nat → List MapEntry
 | [], _ => []
 | x :: t, i => { key := intsV x.1, val := .int .i64 x.2, born := i } :: mapL t (i + 1)
theorem mapL_get : ∀ (ms : List (List Int × Nat)) (j i : Nat), (mapL ms j)[i]? = ms[i]?.map fun x => { key := intsV x.1, val := .int .i64 x.2, born := j + i }
 | [], j, i => by simp [mapL]
 | x :: ms, j, 0 => by simp [mapL]
 | x :: ms, j, i + 1 => by
  rw [mapL, List.getElem?_cons_succ, mapL_get ms (j + 1) i, List.getElem?_cons_succ]
  congr 1
  funext y
  congr 1
  omega
theorem mapL_len (ms : List (List Int × Nat)) (j : Nat) : (mapL ms j).length = ms.length := by
 induction ms generalizing j with
 | nil => rfl
 | cons x ms ih => rw [mapL, List.length_cons, List.length_cons, ih]
theorem mapL_snoc (ms : List (List Int × Nat)) (x : List Int × Nat) (j : Nat) : mapL (ms ++ [x]) j = mapL ms j ++ [{ key := intsV x.1, val := .int .i64 x.2, born := j + ms.length }] := by
 induction ms generalizing j with
 | nil => rfl
 | cons y ms ih =>
  rw [List.cons_append, mapL, ih, mapL, List.cons_append, List.length_cons]
  congr 4
  omega
theorem mapL_set (ms : List (List Int × Nat)) (i c : Nat) : (mapL ms 0).modify i (fun e => { e with val := .int .i64 c }) = mapL (ms.modify i fun x => (x.1, c)) 0 := by
 apply List.ext_getElem?
 intro j
 rw [List.getElem?_modify, mapL_get, mapL_get, List.getElem?_modify]
 cases ms[j]? with
 | none => rfl
 | some x =>
  simp only [Option.map_some, Option.map_eq_map]
  split <;> rfl
def mapE (ms : List (List Int × Nat)) : Array MapEntry := (mapL ms 0).toArray
theorem mapE_get {ms : List (List Int × Nat)} {i : Nat} {x : List Int × Nat} (h : ms[i]? = some x) : (mapE ms)[i]? = some { key := intsV x.1, val := .int .i64 x.2, born := i } := by
 unfold mapE
 rw [List.getElem?_toArray, mapL_get, h]
 simp
theorem mapE_push (ms : List (List Int × Nat)) (k : List Int) : (mapE ms).push { key := intsV k, val := .int .i64 0, born := ms.length } = mapE (ms ++ [(k, 0)]) := by
 unfold mapE
 rw [mapL_snoc, List.push_toArray]
 simp
theorem mapE_set (ms : List (List Int × Nat)) (i c : Nat) : (mapE ms).modify i (fun e => { e with val := .int .i64 c }) = mapE (ms.modify i fun x => (x.1, c)) := by
 unfold mapE
 rw [← mapL_set]
 apply Array.ext_getElem?
 intro j
 rw [Array.getElem?_modify, List.getElem?_toArray, List.getElem?_toArray, List.getElem?_modify]
 split
 ·rename_i h; subst h; simp
 ·rename_i h
  cases (mapL ms 0)[j]? <;> rfl
theorem mapE_born {ms : List (List Int × Nat)} {i : Nat} (h : i < ms.length) : (mapE ms).findIdx? (fun e => (e.born : Int) == (i : Int)) = some i := by
 unfold mapE
 rw [List.findIdx?_toArray, List.findIdx?_eq_some_iff_getElem]
 have hg : ∀ (j : Nat) (hj : j < (mapL ms 0).length), (mapL ms 0)[j].born = j := fun j hj => by
  have := mapL_get ms 0 j
  rw [List.getElem?_eq_getElem hj, List.getElem?_eq_getElem (by rw [mapL_len] at hj; exact hj)] at this
  have := Option.some.inj this
  rw [this]
  simp
 refine ⟨by rw [mapL_len]; exact h, by rw [hg]; simp, fun j hj => ?_⟩
 rw [hg]
 simp
 omega
theorem mapE_mem {ms : List (List Int × Nat)} {e : MapEntry} (h : e ∈ mapE ms) : ∃ x, ms[e.born]? = some x ∧ e.val = .int .i64 x.2 ∧ (mapE ms).find? (·.born == e.born) = some e := by
 unfold mapE at h ⊢
 rw [List.mem_toArray] at h
 obtain ⟨i, hi⟩ := List.mem_iff_getElem?.1 h
 have hi' := hi
 rw [mapL_get] at hi
 rw [Option.map_eq_some_iff] at hi
 obtain ⟨x, hx, rfl⟩ := hi
 simp only [Nat.zero_add] at hi' ⊢
 refine ⟨x, hx, rfl, ?_⟩
 rw [List.find?_toArray, List.find?_eq_some_iff_getElem]
 refine ⟨by simp, i, by rw [mapL_len]; exact (List.getElem?_eq_some_iff.1 hx).1, ?_, fun j hj => ?_⟩
 ·have := (List.getElem?_eq_some_iff.1 hi').2
  exact this
 ·have hjl : j < (mapL ms 0).length := by rw [mapL_len]; have := (List.getElem?_eq_some_iff.1 hx).1; omega
  have := mapL_get ms 0 j
  rw [List.getElem?_eq_getElem hjl, List.getElem?_eq_getElem (by rw [mapL_len] at hjl; exact hjl)] at this
  have := Option.some.inj this
  rw [this]
  simp
  omega
def fndK (k : List Int) : List (List Int × Nat) → Nat → Option (Nat × Value)
 | [], _ => none
 | x :: t, i => if k = x.1 then some (i, .int .i64 x.2) else fndK k t (i + 1)
theorem fndK_some {k : List Int} : ∀ {ms : List (List Int × Nat)} {i n : Nat} {v : Value}, fndK k ms i = some (n, v) → ∃ x, i ≤ n ∧ ms[n - i]? = some x ∧ x.1 = k ∧ v = .int .i64 x.2
 | [], i, n, v, h => by cases h
 | x :: ms, i, n, v, h => by
  rw [fndK] at h
  split at h
  ·rename_i e
   cases h
   exact ⟨x, Nat.le_refl _, by simp, e.symm, rfl⟩
  ·obtain ⟨y, h1, h2, h3, h4⟩ := fndK_some h
   refine ⟨y, by omega, ?_, h3, h4⟩
   rw [show n - i = (n - (i + 1)) + 1 by omega, List.getElem?_cons_succ]
   exact h2
theorem findA {k : List Int} (hk : k.length = 3) : ∀ (ms : List (List Int × Nat)) (j i : Nat), (∀ x ∈ ms, x.1.length = 3) → ∀ (Q : Option (Nat × Value) → LH → Prop) (H : Value → LH → Prop) (R : LH), wpS Tryz.prog Q H (Instr.findAsking 99 (intsV k) (mapL ms j) i) R = Q (fndK k ms i) R
 | [], j, i, _, Q, H, R => rfl
 | x :: ms, j, i, h, Q, H, R => by
  have ih := findA hk ms (j + 1) (i + 1) (fun y hy => h y (List.mem_cons_of_mem _ hy)) Q H R
  obtain ⟨a, b, c, rfl⟩ := ints3 hk
  obtain ⟨a', b', c', e⟩ := ints3 (h x List.mem_cons_self)
  rw [mapL, Instr.findAsking, wpS_bind, e]
  show wpS Tryz.prog _ H (Op.equalIn (9997 + 3) 99 _ _) R = _
  rw [eq99, fndK, e]
  by_cases hq : ([a, b, c] : List Int) = [a', b', c']
  ·rw [if_pos hq]
   simp only [List.cons.injEq, and_true] at hq
   obtain ⟨rfl, rfl, rfl⟩ := hq
   simp only [BEq.rfl, Bool.and_self, if_true]
   rfl
  ·rw [if_neg hq, ← ih]
   have : ((a == a') && ((b == b') && (c == c'))) = false := by
    rw [← Bool.not_eq_true]
    intro hh
    simp only [Bool.and_eq_true, beq_iff_eq] at hh
    exact hq (by rw [hh.1, hh.2.1, hh.2.2])
   rw [this]
   simp only [Bool.false_eq_true, if_false]
theorem findM {k : List Int} (hk : k.length = 3) (ms : List (List Int × Nat)) (h : ∀ x ∈ ms, x.1.length = 3) (Q : Option (Nat × Value) → LH → Prop) (H : Value → LH → Prop) (R : LH) : wpS Tryz.prog Q H (Instr.findKey 99 (intsV k) (mapE ms).toList) R = Q (fndK k ms 0) R := by
 unfold Instr.findKey mapE
 rw [wpS_bind, wpS_underlying Tryz.underlying99]
 cases ms with
 | nil => rfl
 | cons x ms => exact findA hk (x :: ms) 0 0 h Q H R
end Go.Mz


set_option maxRecDepth 100000
namespace Go.Mz
open Go.Conc Go.Proofs
variable {Post : Value → World → Prop} {W0 : World}
def candU (s : Sw) (k : Nat) : List Cr := ((firstsW s k).filterMap id).filter fun c => payW s c.w == payW s (crWants (bestW s fun _ => true))
theorem candU_none {s : Sw} {k : Nat} (h : crushW s (bits5 k) = none) : candU s (k + 1) = candU s k := by
 unfold candU; rw [firstsW_succ, h, List.filterMap_append]; simp
theorem candU_no {s : Sw} {k : Nat} {c : Cr} (h : crushW s (bits5 k) = some c) (hp : payW s c.w ≠ payW s (crWants (bestW s fun _ => true))) : candU s (k + 1) = candU s k := by
 unfold candU; rw [firstsW_succ, h, List.filterMap_append, List.filter_append]; simp [hp]
theorem candU_yes {s : Sw} {k : Nat} {c : Cr} (h : crushW s (bits5 k) = some c) (hp : payW s c.w = payW s (crWants (bestW s fun _ => true))) : candU s (k + 1) = candU s k ++ [c] := by
 unfold candU; rw [firstsW_succ, h, List.filterMap_append, List.filter_append]; simp [hp]
theorem candU_len (s : Sw) (k : Nat) : (candU s k).length ≤ k := by
 unfold candU
 refine Nat.le_trans (List.length_filter_le _ _) (Nat.le_trans (List.length_filterMap_le _ _) ?_)
 unfold firstsW
 simp
structure CntM (s : Sw) (i k : Nat) (ms : List (List Int × Nat)) : Prop where
 k3 : ∀ x ∈ ms, x.1.length = 3
 ln : ms.length ≤ k
 sm : sumC ms = (candU s k).countP fun c => c.w.contains i
theorem sumC_le {ms : List (List Int × Nat)} {i : Nat} {x : List Int × Nat} (h : ms[i]? = some x) : x.2 ≤ sumC ms := by
 have hm := List.mem_of_getElem? h
 unfold sumC
 have : ∀ (l : List Nat) (y : Nat), y ∈ l → y ≤ l.sum := fun l y hy => by
  induction l with
  | nil => cases hy
  | cons z l ih =>
   rw [List.sum_cons]
   rcases List.mem_cons.1 hy with rfl | hy
   ·omega
   ·have := ih hy; omega
 exact this _ _ (List.mem_map.2 ⟨x, hm, rfl⟩)
theorem CntM.le {s : Sw} {i k : Nat} {ms : List (List Int × Nat)} (h : CntM s i k ms) : sumC ms ≤ k := by
 rw [h.sm]
 exact Nat.le_trans List.countP_le_length (candU_len s k)
theorem CntM.old {s : Sw} {i k n : Nat} {ms : List (List Int × Nat)} (h : CntM s i k ms) {c : Cr} (hc : candU s (k + 1) = candU s k ++ [c]) (hi : c.w.contains i = true) (hn : n < ms.length) : CntM s i (k + 1) (ms.modify n fun x => (x.1, x.2 + 1)) := by
 refine ⟨fun x hx => ?_, by rw [List.length_modify]; have := h.ln; omega, ?_⟩
 ·obtain ⟨j, hj, rfl⟩ := List.getElem_of_mem hx
  rw [List.length_modify] at hj
  rw [List.getElem_modify]
  have := h.k3 _ (List.getElem_mem hj)
  split <;> exact this
 ·have := sumC_at hn
  unfold cntAt at this
  rw [this, h.sm, hc, List.countP_append, List.countP_singleton, if_pos hi]
theorem CntM.new {s : Sw} {i k : Nat} {ms : List (List Int × Nat)} (h : CntM s i k ms) {c : Cr} (hc : candU s (k + 1) = candU s k ++ [c]) (hi : c.w.contains i = true) {q : List Int} (hq : q.length = 3) : CntM s i (k + 1) ((ms ++ [(q, 0)]).modify ms.length fun x => (x.1, x.2 + 1)) := by
 refine ⟨fun x hx => ?_, by rw [List.length_modify, List.length_append, List.length_singleton]; have := h.ln; omega, ?_⟩
 ·obtain ⟨j, hj, rfl⟩ := List.getElem_of_mem hx
  rw [List.length_modify] at hj
  rw [List.getElem_modify]
  have : ((ms ++ [(q, 0)])[j]).1.length = 3 := by
   rcases List.mem_append.1 (List.getElem_mem hj) with hm | hm
   ·exact h.k3 _ hm
   ·rw [List.mem_singleton.1 hm]; exact hq
  split <;> exact this
 ·have := sumC_at (ms := ms ++ [(q, 0)]) (i := ms.length) (by simp)
  unfold cntAt at this
  rw [this, sumC_new, h.sm, hc, List.countP_append, List.countP_singleton, if_pos hi]
theorem CntM.no {s : Sw} {i k : Nat} {ms : List (List Int × Nat)} (h : CntM s i k ms) {c : Cr} (hc : candU s (k + 1) = candU s k ++ [c]) (hi : c.w.contains i = false) : CntM s i (k + 1) ms :=
 ⟨h.k3, Nat.le_succ_of_le h.ln, by rw [h.sm, hc, List.countP_append, List.countP_singleton, if_neg (by rw [hi]; decide)]; omega⟩
theorem fndK_new {k : List Int} : ∀ {ms : List (List Int × Nat)} {i : Nat}, fndK k ms i = none → fndK k (ms ++ [(k, 0)]) i = some (i + ms.length, .int .i64 0)
 | [], i, _ => by simp [fndK]
 | x :: ms, i, h => by
  rw [fndK] at h
  split at h
  ·cases h
  ·rename_i hne
   rw [List.cons_append, fndK, if_neg hne, fndK_new h, List.length_cons]
   congr 2
   omega
theorem modify_at {ms : List (List Int × Nat)} {n : Nat} {x : List Int × Nat} (h : ms[n]? = some x) : (ms.modify n fun y => (y.1, x.2 + 1)) = ms.modify n fun y => (y.1, y.2 + 1) := by
 apply List.ext_getElem?
 intro j
 rw [List.getElem?_modify, List.getElem?_modify]
 by_cases e : n = j
 ·subst e; rw [h]; simp
 ·simp [e]
theorem Verdict_sp (s : Sw) (p : Wp) (n : Int) (L : LH) (h : SwAt L s p) (hn : Sm s) : Sp (LFGo Tryz.prog Post W0) 59 [swA s p, .int .i64 n] L (fun v L' => v = .tuple #[.int .i64 (VerdW s n).1, .int .i64 (VerdW s n).2] ∧ Dim L L') := by
 refine Sp.enter (n := 80) Tryz.func59 rfl rfl rfl rfl fun C hX _ hL0 r => ?_
 refine W.go 99 rfl ?_
 refine W.pub 19 (.inr ⟨_, _, _, rfl⟩) rfl rfl ?_
 intro b12 hb12 _
 have f1 := Le.put hb12 (.cells #[.int .i64 n] 3)
 have g1 := put_same L b12 (.cells #[.int .i64 n] 3)
 change W _ _ _ _ _ _ (L.put b12 (.cells #[.int .i64 n] 3))
 generalize L.put b12 (.cells #[.int .i64 n] 3) = L1 at f1 g1 ⊢
 refine W.eff rfl rfl rfl (Ef.call rfl (open_sp s p none (some ⟨b12, 0, none⟩) 0 1 [] [n] L1 (h.le f1) hn SlAt.empty (ints1 g1) (by simp) (by simp))) ?_
 rintro _ _ _ ⟨v0, rfl, rfl, hle, hq⟩
 rename_i L2
 have hl2 := f1.trans hle
 rcases hq with ⟨he, rfl⟩ | ⟨he, rfl⟩
 ·refine W.go 99 rfl ?_
  refine W.split rfl rfl rfl (fun e1 => W.go 99 rfl ?_) (fun e1 => W.go 99 rfl ?_)
  ·refine W.ret r rfl rfl ?_
   have : VerdW s n = (0, openW s [] [n]) := by unfold VerdW; rw [if_pos he]
   rw [this]
   exact ⟨rfl, Dim.of_le hl2⟩
  ·simp at e1; exact absurd e1 he
 have hSE : VerdW s n = (verdW s n.toNat, 0) := by unfold VerdW; rw [if_neg (by simp [he])]
 rw [hSE] at r
 obtain ⟨h0, _, hk⟩ := openW_0 he
 have hok := sawE_0 h0
 have hk := hk n (by simp)
 have hw5 := hok.w5
 have h5 := pow5 hok
 obtain ⟨i, rfl⟩ : ∃ i : Nat, n = (i : Int) := ⟨n.toNat, by omega⟩
 have hi : i < s.wants.length := by omega
 rw [Int.toNat_natCast] at r
 refine W.go 99 rfl ?_
 refine W.split rfl rfl rfl (fun e1 => ?_) (fun e1 => ?_)
 ·simp at e1
 refine W.weak (E' := [(1, .v (.int .i64 i)), (6, .p 2 0), (24, .lit false)]) (B' := [some ⟨cellsS (.v (swA s p)), 26⟩, none, some ⟨cellsS (.v (swA s p)), 83⟩]) (by exact ⟨rfl, rfl, rfl, trivial⟩) (by exact ⟨rfl, rfl, rfl, trivial⟩) ?_
 refine W.go 99 rfl ?_
 refine W.drawn (by kernel_rfl) LH.nil (fun _ _ h => by cases h) ?_
 refine DD.run' [0, 1] rfl ?_
 have hb2 := best0_sp (Post := Post) (W0 := W0) s p L2 (h.le hl2) hok
 rw [← hX] at hb2
 refine DD.act 2 rfl rfl rfl rfl rfl (Ef.call rfl (hb2)) ((by rintro _ _ _ ⟨_, rfl, rfl, _, _, _, rfl, _⟩; exact ⟨(fun _ _ h => by cases h), rfl, .inl rfl⟩)) ?_
 rintro _ _ _ ⟨v2, rfl, rfl, gv2, y2, sm2, rfl, hbe2, hd2⟩
 have hyw2 := hbe2.wn hok
 have hd3 := (Dim.of_le hl2).trans hd2
 refine DD.vf 3 rfl rfl rfl rfl rfl (Vf.fieldN (cs := fsF gv2 :: (encC y2 ++ [Value.bool sm2])) (ds := encC y2) rfl rfl Tryz.underlying112 rfl agg101 size101 rfl) ?_
 refine DD.vf 4 rfl rfl rfl rfl rfl (Vf.field1 (cs := encC y2) rfl rfl Tryz.underlying101 rfl agg95 rfl) ?_
 refine DD.act 5 rfl rfl rfl rfl rfl (Ef.call rfl (pay_sp s p y2.w _ (hd3.sw h) hok hyw2.1 hyw2.2)) ((by rintro _ _ _ ⟨_, rfl, rfl, rfl, hl⟩; exact ⟨(fun _ _ h => by cases h), rfl, .inl rfl⟩)) ?_
 rintro _ _ _ ⟨v3, rfl, rfl, rfl, hl6⟩
 refine DD.run' [6] rfl ?_
 refine .fin rfl ?_
 refine W.go 99 rfl ?_
 rename_i L4
 have hd4 := hd3.trans (Dim.of_le hl6)
 have hmw : payW s (bits5 y2.w) = payW s (crWants (bestW s fun _ => true)) := by rw [hbe2.wants]
 rw [hmw]
 refine W.eff rfl rfl rfl (Ef.makeMap) ?_
 rintro _ _ _ ⟨r0, rfl, rfl, hr0, rfl⟩
 have hmr0 : ∀ o, Le L4 ((L4.put r0 o).less [r0]) := fun o b x hx => by
  have hb : b ≠ r0 := fun e => by subst e; rw [hr0] at hx; cases hx
  rw [less_get (by simpa using hb), put_ne _ _ hb]; exact hx
 have hal := (all_sp (Post := Post) (W0 := W0) s p ((L4.put r0 (.map #[] 0)).less [r0]) ((hd4.sw h).le (hmr0 _)) hok).frame (less_le (L4.put r0 (.map #[] 0)) [r0])
 rw [← hX] at hal
 refine W.go 99 rfl ?_
 refine W.eff rfl rfl rfl (Ef.call rfl (hal)) ?_
 rintro _ _ _ ⟨v1, rfl, rfl, L5, ⟨bn, rfl, ho, hd5⟩, hpo⟩
 rename_i L6
 have hmr : L6 r0 = some (.map #[] 0, true) := hpo.keep r0 _ (by unfold LH.less; rw [if_pos (by simp)]) (put_same _ _ _)
 have h5r : L5 r0 = none := by
  cases hx : L5 r0 with
  | none => rfl
  | some x =>
   rcases hpo.fresh r0 (by rw [hx]; simp) with e | e
   ·exact absurd (by unfold LH.less; rw [if_pos (by simp)]) e
   ·rw [put_same] at e; cases e
 have hd5 : Dim L L5 := hd4.trans ((Dim.of_le (hmr0 _)).trans hd5)
 have hs5 := hd5.sw h
 clear hal hb2
 generalize hM : payW s (crWants (bestW s fun _ => true)) = M
 have hcn := fun k => candU_none (s := s) (k := k)
 refine W.go 99 rfl ?_
 refine W.loop (fun m E B L' => ∃ (k : Nat) (ms : List (List Int × Nat)), m = 2 ^ s.wants.length - k ∧ k ≤ 2 ^ s.wants.length ∧ CntM s i k ms ∧ Le L5 L' ∧ L' r0 = some (.map (mapE ms) ms.length, true) ∧
   E = [(1, .v (.int .i64 i)), (6, .p 2 0), (8, .v (.int .i64 M)), (9, .v (.map (some r0))), (10, .v (.int .i64 ((candU s k).length : Nat))), (11, .v (.int .i64 0)), (34, .v (.slice (some ⟨bn, 0, none⟩) (2 ^ s.wants.length) (2 ^ s.wants.length))), (35, .v (.int .i64 ((2 ^ s.wants.length : Nat) : Int))), (36, .v (.int .i64 k))] ∧ B = [some ⟨cellsS (.v (swA s p)), 26⟩, none, some ⟨cellsS (.v (swA s p)), 83⟩])
  ⟨0, [], rfl, Nat.zero_le _, ⟨(fun x hx => by cases hx), Nat.le_refl _, rfl⟩, hpo.le, hmr, rfl, rfl⟩ (by exact ⟨rfl, rfl, rfl, rfl, rfl, rfl, rfl, rfl, rfl, trivial⟩) (by exact ⟨rfl, rfl, rfl, trivial⟩) ?_
 rintro _ _ _ L7 ⟨k, ms, rfl, hk8, hcm, hl7, hr7, rfl, rfl⟩ again
 have hcl := candU_len s k
 refine W.go 99 rfl ?_
 refine W.split rfl rfl rfl (fun e2 => W.go 99 rfl ?_) (fun e2 => W.go 99 rfl ?_)
 ·have hk2 : k < 2 ^ s.wants.length := Int.ofNat_lt.1 (of_decide_eq_true e2)
  have hgk : (outs s)[k]? = some (found s k) := by unfold outs; rw [List.getElem?_map, List.getElem?_range hk2]; rfl
  refine W.vf rfl rfl rfl rfl (Vf.idx rfl rfl rfl rfl rfl rfl (hk2)) ?_
  cases hc : crushW s (bits5 k) with
  | none =>
   have hfe : found s k = ⟨k, 0, 0, 0, 0, 0, false⟩ := by unfold found; rw [hc]; rfl
   rw [hfe] at hgk
   refine W.vf rfl rfl rfl rfl (Vf.loadN rfl rfl rfl ((ho.le hl7).whole hgk rfl)) ?_
   refine W.go 99 rfl ?_
   refine W.asLit 43 (p := true) rfl rfl ?_
   refine W.go 99 rfl ?_
   exact W.again (again _ _ _ _ (by omega) ⟨k + 1, ms, rfl, by omega, ⟨hcm.k3, Nat.le_succ_of_le hcm.ln, by rw [hcn _ hc]; exact hcm.sm⟩, hl7, hr7, by rw [hcn _ hc], rfl⟩) (by exact ⟨rfl, rfl, rfl, rfl, rfl, rfl, rfl, rfl, congrArg some (inc64 (by omega)), trivial⟩) (by exact ⟨rfl, rfl, rfl, trivial⟩)
  | some c =>
   have hcw := (crushW_some hc).1
   rw [found_some hc] at hgk
   refine W.vf rfl rfl rfl rfl (Vf.loadN rfl rfl rfl ((ho.le hl7).whole hgk rfl)) ?_
   refine W.go 99 rfl ?_
   refine W.asLit 43 (p := false) rfl rfl ?_
   refine W.go 99 rfl ?_
   have hpk := pay_sp (X := C.X) s p k L7 (hs5.le hl7) hok (by omega) (bits_wn hk2)
   refine W.eff rfl rfl rfl (Ef.call rfl (hpk)) ?_
   rintro _ _ _ ⟨_, rfl, rfl, rfl, hl8⟩
   rename_i L8
   have hr8 := hl8 _ _ hr7
   have hl58 := hl7.trans hl8
   refine W.go 99 rfl ?_
   refine W.split rfl rfl rfl (fun e3 => W.go 99 rfl ?_) (fun e3 => W.go 99 rfl ?_)
   ·have hne : payW s c.w ≠ payW s (crWants (bestW s fun _ => true)) := by rw [hM, hcw]; simpa using e3
    have hno := candU_no hc hne
    exact W.again (again _ _ _ _ (by omega) ⟨k + 1, ms, rfl, by omega, ⟨hcm.k3, Nat.le_succ_of_le hcm.ln, by rw [hno]; exact hcm.sm⟩, hl58, hr8, by rw [hno], rfl⟩) (by exact ⟨rfl, rfl, rfl, rfl, rfl, rfl, rfl, rfl, congrArg some (inc64 (by omega)), trivial⟩) (by exact ⟨rfl, rfl, rfl, trivial⟩)
   have heq : payW s c.w = payW s (crWants (bestW s fun _ => true)) := by rw [hM, hcw]; simpa using e3
   have hyes := candU_yes hc heq
   refine W.eff rfl rfl rfl (Ef.call rfl (has_sp k i (by omega) (by omega) L8)) ?_
   rintro _ _ _ ⟨_, rfl, rfl, rfl, rfl⟩
   refine W.go 99 rfl ?_
   have hin : (bits5 k).contains i = k.testBit i := contains_bits k i (by omega)
   refine W.split rfl rfl rfl (fun e4 => ?_) (fun e4 => ?_)
   ·have hci : c.w.contains i = true := by rw [hcw, hin]; exact e4
    have hput : ∀ o, Le L5 (L8.put r0 o) := fun o b x hx => by
     rw [put_ne _ _ (fun e => by subst e; rw [h5r] at hx; cases hx)]; exact hl58 _ _ hx
    have hfm := findM (k := [c.l.getD 0 0, c.l.getD 1 0, c.l.getD 2 0]) rfl ms hcm.k3
    have hmle := hcm.le
    refine W.go 99 rfl ?_
    refine W.drawn (by kernel_rfl) L5 hl58 ?_
    refine DD.run' [0, 1, 2] rfl ?_
    have hput2 : ∀ o o', Le L5 ((L8.put r0 o).put r0 o') := fun o o' b x hx => by
     rw [put_ne _ _ (fun e => by subst e; rw [h5r] at hx; cases hx)]; exact hput o _ _ hx
    have hput3 : ∀ o o' o'', Le L5 (((L8.put r0 o).put r0 o').put r0 o'') := fun o o' o'' b x hx => by
     rw [put_ne _ _ (fun e => by subst e; rw [h5r] at hx; cases hx)]; exact hput2 o o' _ _ hx
    cases hres : fndK [c.l.getD 0 0, c.l.getD 1 0, c.l.getD 2 0] ms 0 with
    | none =>
     rw [hres] at hfm
     have hnew := hcm.new hyes hci (q := [c.l.getD 0 0, c.l.getD 1 0, c.l.getD 2 0]) rfl
     have hms1 : ∀ x ∈ ms ++ [([c.l.getD 0 0, c.l.getD 1 0, c.l.getD 2 0], 0)], x.1.length = 3 := fun x hx => by
      rcases List.mem_append.1 hx with hx | hx
      ·exact hcm.k3 x hx
      ·rw [List.mem_singleton.1 hx]; rfl
     have hfm1 := findM (k := [c.l.getD 0 0, c.l.getD 1 0, c.l.getD 2 0]) rfl (ms ++ [([c.l.getD 0 0, c.l.getD 1 0, c.l.getD 2 0], 0)]) hms1
     rw [fndK_new hres, Nat.zero_add] at hfm1
     have hx1 : (ms ++ [([c.l.getD 0 0, c.l.getD 1 0, c.l.getD 2 0], 0)])[ms.length]? = some ([c.l.getD 0 0, c.l.getD 1 0, c.l.getD 2 0], 0) := by simp
     have hlen : ms.length < (ms ++ [([c.l.getD 0 0, c.l.getD 1 0, c.l.getD 2 0], 0)]).length := by simp
     have hbn := mapE_born hlen
     have hmd := modify_at hx1
     have hl1 : (ms ++ [([c.l.getD 0 0, c.l.getD 1 0, c.l.getD 2 0], 0)]).length = ms.length + 1 := by simp
     have hl2 : ((ms ++ [([c.l.getD 0 0, c.l.getD 1 0, c.l.getD 2 0], 0)]).modify ms.length fun y => (y.1, y.2 + 1)).length = ms.length + 1 := by simp
     refine DD.act2 3 5 rfl rfl rfl rfl rfl rfl rfl rfl (Ef.val rfl (Vf.lookup1 (kv := intsV [c.l.getD 0 0, c.l.getD 1 0, c.l.getD 2 0]) rfl rfl rfl Tryz.underlying131 hr8 zero3 (key99 (a := c.l.getD 0 0) (b := c.l.getD 1 0) (c := c.l.getD 2 0)) hfm)) (Ef.entryNew (kv := intsV [c.l.getD 0 0, c.l.getD 1 0, c.l.getD 2 0]) rfl rfl rfl Tryz.underlying131 zero3 hr8 (key99 (a := c.l.getD 0 0) (b := c.l.getD 1 0) (c := c.l.getD 2 0)) hfm) (by rintro _ _ _ ⟨rfl, rfl, rfl⟩; exact ⟨hl58, rfl, .inl rfl⟩) (by rintro _ _ _ ⟨rfl, rfl, rfl⟩; exact ⟨hput _, rfl, .inl rfl⟩) ?_ ?_
     ·rintro _ _ _ ⟨rfl, rfl, rfl⟩
      refine DD.run' [4] rfl ?_
      refine DD.act 5 rfl rfl rfl rfl rfl (Ef.entryNew (kv := intsV [c.l.getD 0 0, c.l.getD 1 0, c.l.getD 2 0]) rfl rfl rfl Tryz.underlying131 zero3 hr8 (key99 (a := c.l.getD 0 0) (b := c.l.getD 1 0) (c := c.l.getD 2 0)) hfm) ((by rintro _ _ _ ⟨rfl, rfl, rfl⟩; exact ⟨hput _, rfl, .inl rfl⟩)) ?_
      rintro _ _ _ ⟨rfl, rfl, rfl⟩
      rw [mapE_push]
      refine DD.run' [6] rfl ?_
      refine DD.act 7 rfl rfl rfl rfl rfl (Ef.entryStore rfl rfl rfl rfl (put_same _ _ _) hbn) ((by rintro _ _ _ ⟨rfl, rfl, rfl⟩; exact ⟨hput2 _ _, rfl, .inl rfl⟩)) ?_
      rintro _ _ _ ⟨rfl, rfl, rfl⟩
      refine .fin rfl ?_
      refine W.go 99 rfl ?_
      exact W.again (again _ _ _ _ (by omega) ⟨k + 1, _, rfl, by omega, hnew, hput2 _ _, (by rw [put_same, hl2, ← hmd, ← mapE_set]; rfl), by rw [hyes, List.length_append, List.length_singleton], rfl⟩) (by exact ⟨rfl, rfl, rfl, rfl, congrArg some (inc64 (by omega)), rfl, rfl, rfl, congrArg some (inc64 (by omega)), trivial⟩) (by exact ⟨rfl, rfl, rfl, trivial⟩)
     ·rintro _ _ _ ⟨rfl, rfl, rfl⟩
      rw [mapE_push]
      refine DD.run' [6] rfl ?_
      refine DD.act 3 rfl rfl rfl rfl rfl (Ef.val rfl (Vf.lookup1 (kv := intsV [c.l.getD 0 0, c.l.getD 1 0, c.l.getD 2 0]) rfl rfl rfl Tryz.underlying131 (put_same _ _ _) zero3 (key99 (a := c.l.getD 0 0) (b := c.l.getD 1 0) (c := c.l.getD 2 0)) hfm1)) (by rintro _ _ _ ⟨rfl, rfl, rfl⟩; exact ⟨hput _, rfl, .inl rfl⟩) ?_
      rintro _ _ _ ⟨rfl, rfl, rfl⟩
      refine DD.run' [4] rfl ?_
      refine DD.act 7 rfl rfl rfl rfl rfl (Ef.entryStore rfl rfl rfl rfl (put_same _ _ _) hbn) ((by rintro _ _ _ ⟨rfl, rfl, rfl⟩; exact ⟨hput2 _ _, rfl, .inl rfl⟩)) ?_
      rintro _ _ _ ⟨rfl, rfl, rfl⟩
      refine .fin rfl ?_
      refine W.go 99 rfl ?_
      exact W.again (again _ _ _ _ (by omega) ⟨k + 1, _, rfl, by omega, hnew, hput2 _ _, (by rw [put_same, hl2, ← hmd, ← mapE_set]; rfl), by rw [hyes, List.length_append, List.length_singleton], rfl⟩) (by exact ⟨rfl, rfl, rfl, rfl, congrArg some (inc64 (by omega)), rfl, rfl, rfl, congrArg some (inc64 (by omega)), trivial⟩) (by exact ⟨rfl, rfl, rfl, trivial⟩)
    | some q =>
     obtain ⟨n, v⟩ := q
     rw [hres] at hfm
     obtain ⟨x, _, hx, hxk, rfl⟩ := fndK_some hres
     rw [Nat.sub_zero] at hx
     have hnl : n < ms.length := (List.getElem?_eq_some_iff.1 hx).1
     have hold := hcm.old hyes hci hnl
     have hxs := sumC_le hx
     have hbn := mapE_born hnl
     have hmd := modify_at hx
     have hl2 : (ms.modify n fun y => (y.1, y.2 + 1)).length = ms.length := by simp
     have hge := mapE_get hx
     have hkk : ({ key := intsV x.1, val := .int .i64 x.2, born := n } : MapEntry).key = intsV [c.l.getD 0 0, c.l.getD 1 0, c.l.getD 2 0] := by rw [hxk]
     refine DD.act2 3 5 rfl rfl rfl rfl rfl rfl rfl rfl (Ef.val rfl (Vf.lookup1 (kv := intsV [c.l.getD 0 0, c.l.getD 1 0, c.l.getD 2 0]) rfl rfl rfl Tryz.underlying131 hr8 zero3 (key99 (a := c.l.getD 0 0) (b := c.l.getD 1 0) (c := c.l.getD 2 0)) hfm)) (Ef.entryOld (kv := intsV [c.l.getD 0 0, c.l.getD 1 0, c.l.getD 2 0]) rfl rfl rfl Tryz.underlying131 hr8 hge hkk (bits99 _ _ _) (key99 (a := c.l.getD 0 0) (b := c.l.getD 1 0) (c := c.l.getD 2 0)) hfm) (by rintro _ _ _ ⟨rfl, rfl, rfl⟩; exact ⟨hl58, rfl, .inl rfl⟩) (by rintro _ _ _ ⟨rfl, rfl, rfl⟩; exact ⟨hput _, rfl, .inl rfl⟩) ?_ ?_
     ·rintro _ _ _ ⟨rfl, rfl, rfl⟩
      refine DD.run' [4] rfl ?_
      refine DD.act 5 rfl rfl rfl rfl rfl (Ef.entryOld (kv := intsV [c.l.getD 0 0, c.l.getD 1 0, c.l.getD 2 0]) rfl rfl rfl Tryz.underlying131 hr8 hge hkk (bits99 _ _ _) (key99 (a := c.l.getD 0 0) (b := c.l.getD 1 0) (c := c.l.getD 2 0)) hfm) ((by rintro _ _ _ ⟨rfl, rfl, rfl⟩; exact ⟨hput _, rfl, .inl rfl⟩)) ?_
      rintro _ _ _ ⟨rfl, rfl, rfl⟩
      refine DD.run' [6] rfl ?_
      refine DD.act 7 rfl rfl rfl rfl rfl (Ef.entryStore rfl rfl rfl rfl (put_same _ _ _) hbn) ((by rintro _ _ _ ⟨rfl, rfl, rfl⟩; exact ⟨hput2 _ _, rfl, .inl rfl⟩)) ?_
      rintro _ _ _ ⟨rfl, rfl, rfl⟩
      refine .fin rfl ?_
      refine W.go 99 rfl ?_
      exact W.again (again _ _ _ _ (by omega) ⟨k + 1, _, rfl, by omega, hold, hput2 _ _, (by rw [put_same, hl2, ← hmd, ← mapE_set]; exact congrArg (fun z => some (Obj.map ((mapE ms).modify n fun e => { e with val := .int .i64 z }) ms.length, true)) (nat1 (by omega))), by rw [hyes, List.length_append, List.length_singleton], rfl⟩) (by exact ⟨rfl, rfl, rfl, rfl, congrArg some (inc64 (by omega)), rfl, rfl, rfl, congrArg some (inc64 (by omega)), trivial⟩) (by exact ⟨rfl, rfl, rfl, trivial⟩)
     ·rintro _ _ _ ⟨rfl, rfl, rfl⟩
      refine DD.run' [6] rfl ?_
      refine DD.act 3 rfl rfl rfl rfl rfl (Ef.val rfl (Vf.lookup1 (kv := intsV [c.l.getD 0 0, c.l.getD 1 0, c.l.getD 2 0]) rfl rfl rfl Tryz.underlying131 (put_same _ _ _) zero3 (key99 (a := c.l.getD 0 0) (b := c.l.getD 1 0) (c := c.l.getD 2 0)) hfm)) (by rintro _ _ _ ⟨rfl, rfl, rfl⟩; exact ⟨hput _, rfl, .inl rfl⟩) ?_
      rintro _ _ _ ⟨rfl, rfl, rfl⟩
      refine DD.run' [4] rfl ?_
      refine DD.act 7 rfl rfl rfl rfl rfl (Ef.entryStore rfl rfl rfl rfl (put_same _ _ _) hbn) ((by rintro _ _ _ ⟨rfl, rfl, rfl⟩; exact ⟨hput2 _ _, rfl, .inl rfl⟩)) ?_
      rintro _ _ _ ⟨rfl, rfl, rfl⟩
      refine .fin rfl ?_
      refine W.go 99 rfl ?_
      exact W.again (again _ _ _ _ (by omega) ⟨k + 1, _, rfl, by omega, hold, hput2 _ _, (by rw [put_same, hl2, ← hmd, ← mapE_set]; exact congrArg (fun z => some (Obj.map ((mapE ms).modify n fun e => { e with val := .int .i64 z }) ms.length, true)) (nat1 (by omega))), by rw [hyes, List.length_append, List.length_singleton], rfl⟩) (by exact ⟨rfl, rfl, rfl, rfl, congrArg some (inc64 (by omega)), rfl, rfl, rfl, congrArg some (inc64 (by omega)), trivial⟩) (by exact ⟨rfl, rfl, rfl, trivial⟩)
   ·have hci : c.w.contains i = false := by rw [hcw, hin]; exact e4
    refine W.go 99 rfl ?_
    exact W.again (again _ _ _ _ (by omega) ⟨k + 1, ms, rfl, by omega, hcm.no hyes hci, hl58, hr8, by rw [hyes, List.length_append, List.length_singleton], rfl⟩) (by exact ⟨rfl, rfl, rfl, rfl, congrArg some (inc64 (by omega)), rfl, rfl, rfl, congrArg some (inc64 (by omega)), trivial⟩) (by exact ⟨rfl, rfl, rfl, trivial⟩)
 ·have hke : k = 2 ^ s.wants.length := by
   have : ¬ (k : Int) < ((2 ^ s.wants.length : Nat) : Int) := of_decide_eq_false e2
   have := mt Int.ofNat_lt.2 this
   omega
  subst hke
  have hcand : candU s (2 ^ s.wants.length) = ((allW s).filterMap id).filter fun c => payW s c.w == payW s (crWants (bestW s fun _ => true)) := rfl
  have hv := verd_cnt s i
  rw [← hcand, ← hcm.sm] at hv
  have hmle := hcm.le
  clear hcand again hcn
  refine W.eff rfl rfl rfl (Ef.range rfl Tryz.underlying131 hr7) ?_
  rintro _ _ _ ⟨q0, rfl, rfl, hq0, rfl⟩
  have hqr : r0 ≠ q0 := fun e => by subst e; rw [hr7] at hq0; cases hq0
  have h5q : L5 q0 = none := by
   cases hx : L5 q0 with
   | none => rfl
   | some x => rw [hl7 _ _ hx] at hq0; cases hq0
  have hput : ∀ {L' : LH} o, Le L5 L' → Le L5 (L'.put q0 o) := fun {L'} o hL b x hx => by
   rw [put_ne _ _ (fun e => by subst e; rw [h5q] at hx; cases hx)]; exact hL _ _ hx
  refine W.go 99 rfl ?_
  refine W.loop (fun m E B L' => ∃ (seen : Array Nat), m = ms.length - seen.size ∧ seen.toList.Nodup ∧ (∀ j ∈ seen.toList, j < ms.length) ∧ Le L5 L' ∧ L' r0 = some (.map (mapE ms) ms.length, true) ∧ L' q0 = some (.mapIter (some r0) ms.length seen ms.length, true) ∧
    E = [(10, .v (.int .i64 ((candU s (2 ^ s.wants.length)).length : Nat))), (11, .v (.int .i64 (seenC ms seen.toList : Nat))), (66, .v (.pointer (some ⟨q0, 0, none⟩)))] ∧ B = [])
   ⟨#[], rfl, by simp, (fun j hj => by simp at hj), hput _ hl7, by rw [put_ne _ _ hqr]; exact hr7, put_same _ _ _, rfl, rfl⟩ (by exact ⟨rfl, rfl, rfl, trivial⟩) (by exact trivial) ?_
  rintro _ _ _ L8 ⟨seen, rfl, hnd, hlt, hl8, hr8, hq8, rfl, rfl⟩ again
  have hborn : ∀ e ∈ mapE ms, e.born < ms.length ∧ e.born < ms.length := fun e he => by
   obtain ⟨x, hx, _⟩ := mapE_mem he
   have := (List.getElem?_eq_some_iff.1 hx).1
   exact ⟨this, this⟩
  refine W.go 99 rfl ?_
  refine W.eff rfl rfl rfl (Ef.next rfl hq8 hr8 hborn) ?_
  rintro _ _ _ ⟨rfl, hcase⟩
  rcases hcase with ⟨rfl, hall, rfl⟩ | ⟨e, he, hns, rfl, rfl⟩
  ·have hsum : seenC ms seen.toList = sumC ms := seenC_all hnd fun j => by
    refine ⟨hlt j, fun hj => ?_⟩
    have hm : (mapE ms)[j]? = some _ := mapE_get (List.getElem?_eq_getElem hj)
    have := hall _ (Array.mem_of_getElem? hm)
    simpa using this
   rw [hsum]
   refine W.go 99 rfl ?_
   refine W.split rfl rfl rfl (fun c => absurd c (by decide)) (fun c => ?_)
   refine W.go 99 rfl ?_
   refine W.split rfl rfl rfl (fun e3 => W.go 99 rfl ?_) (fun e3 => W.go 99 rfl ?_)
   ·have h0 : sumC ms = 0 := by have : ((sumC ms : Nat) : Int) = 0 := (by simpa using e3); omega
    refine W.ret r rfl rfl ?_
    rw [hv, if_pos h0]
    exact ⟨rfl, hd5.trans (Dim.of_le hl8)⟩
   have h0 : ¬ sumC ms = 0 := by have : ¬ ((sumC ms : Nat) : Int) = 0 := (by simpa using e3); omega
   rw [if_neg h0] at hv
   refine W.split rfl rfl rfl (fun e4 => W.go 99 rfl ?_) (fun e4 => W.go 99 rfl ?_)
   ·have h1 : sumC ms = (candU s (2 ^ s.wants.length)).length := by have : ((sumC ms : Nat) : Int) = ((candU s (2 ^ s.wants.length)).length : Nat) := (by simpa using e4); omega
    refine W.ret r rfl rfl ?_
    rw [hv, if_pos h1]
    exact ⟨rfl, hd5.trans (Dim.of_le hl8)⟩
   have h1 : ¬ sumC ms = (candU s (2 ^ s.wants.length)).length := by have : ¬ ((sumC ms : Nat) : Int) = ((candU s (2 ^ s.wants.length)).length : Nat) := (by simpa using e4); omega
   refine W.ret r rfl rfl ?_
   rw [hv, if_neg h1]
   exact ⟨rfl, hd5.trans (Dim.of_le hl8)⟩
  ·obtain ⟨x, hx, hxv, hfe⟩ := mapE_mem he
   obtain ⟨ek, ev, eb⟩ := e
   obtain rfl : ev = .int .i64 x.2 := hxv
   dsimp only at hx hfe hns
   have hxl := (List.getElem?_eq_some_iff.1 hx).1
   have hnew : eb ∉ seen.toList := fun hm => by
    have : seen.contains eb = true := by simpa using hm
    rw [this] at hns; cases hns
   have hnd2 : (seen.push eb).toList.Nodup := by
    rw [Array.toList_push, List.nodup_append]
    exact ⟨hnd, by simp, fun a ha b hb => by rw [List.mem_singleton.1 hb]; exact fun e => hnew (e ▸ ha)⟩
   have hlt2 : ∀ j ∈ (seen.push eb).toList, j < ms.length := fun j hj => by
    rw [Array.toList_push] at hj
    rcases List.mem_append.1 hj with h | h
    ·exact hlt j h
    ·rw [List.mem_singleton.1 h]; exact hxl
   have hsz := seenC_le hnd2 hlt2
   rw [Array.toList_push, List.length_append, List.length_singleton, Array.length_toList] at hsz
   have hle1 := seenC_bd (ms := ms) (B := 32) (fun y hy => by obtain ⟨j, hj⟩ := List.mem_iff_getElem?.1 hy; have := sumC_le hj; omega) seen.toList
   have hxs := sumC_le hx
   have hln := hcm.ln
   rw [Array.length_toList] at hle1
   have hle3 : seen.size * 32 ≤ 32 * 32 := Nat.mul_le_mul_right _ (by omega)
   refine W.go 99 rfl ?_
   refine W.split rfl rfl rfl (fun c => ?_) (fun c => absurd c (by decide))
   refine W.go 99 rfl ?_
   refine W.vf rfl rfl rfl rfl (Vf.entry (e := ⟨ek, .int .i64 x.2, eb⟩) rfl (put_same _ _ _) (by rw [put_ne _ _ hqr]; exact hr8) (by simp) hfe) ?_
   refine W.go 99 rfl ?_
   have hwr : IntKind.i64.wrap (((seenC ms seen.toList : Nat) : Int) + ((x.2 : Nat) : Int)) = ((seenC ms (seen.push eb).toList : Nat) : Int) := by
    rw [Array.toList_push, seenC_snoc _ _ hx, wrap64_in _ (by omega) (by omega)]; omega
   exact W.again (again _ _ _ _ (by rw [Array.size_push]; omega) ⟨seen.push eb, rfl, hnd2, hlt2, hput _ hl8, by rw [put_ne _ _ hqr]; exact hr8, put_same _ _ _, rfl, rfl⟩) (by exact ⟨rfl, congrArg (fun z => some (SV.v (Value.int .i64 z))) hwr, rfl, trivial⟩) (by exact trivial)
end Go.Mz


set_option maxRecDepth 100000
namespace Go.Mz
open Go.Conc Go.Proofs
variable {Post : Value → World → Prop} {W0 : World}
theorem WsF_run (s : Sw) (p : Wp) (x : Want) (wn : Int) (na : Option Addr) (nc : Nat) (nums : List Int) (L : LH) (hst : SwAt L s p) (hn : IntsAt L na nums) (hgl : GlOk L) (hl2 : nums.length ≤ 140737488355328)
    (hQ : ∀ v L' w, (v = .bool true ∧ Dim L L') → Sub L' w → Same W0 w → Post v w) :
    FGo Tryz.prog Post W0 (G (Frame.enter Tryz.prog 16 [swA s p, .agg (encWt x).toArray, .int .i64 wn, .slice na nums.length nc].toArray .normal) []) L := by
  refine root_enter (n := 105) (s := 8) Tryz.func16 rfl rfl (by kernel_rfl) rfl rfl hQ fun C hX _ hL0 r => ?_
  refine W.go 99 rfl ?_
  refine W.eff rfl rfl rfl (Ef.call rfl (long_sp s p L hst)) ?_
  rintro _ _ _ ⟨_, rfl, rfl, rfl, rfl⟩
  refine W.go 99 rfl ?_
  have drd : ∀ L2, GlOk L2 → Sp C.X 21 [] L2 (fun v L' => v = .bool true ∧ Dim L2 L') := fun L2 h => by rw [hX]; exact cut_sp L2 h
  refine W.split rfl rfl rfl (fun e1 => W.go 99 rfl ?_) (fun e1 => W.go 99 rfl ?_)
  · refine W.eff rfl rfl rfl (Ef.call rfl (drd L hgl)) ?_
    rintro _ _ _ ⟨_, rfl, rfl, rfl, hdm⟩
    refine W.go 99 rfl ?_
    refine W.retO r rfl ⟨rfl, hdm⟩
  have hsm := long_no e1
  refine W.drawn (by kernel_rfl) noL (noL_le _) ?_
  refine DD.run' [0, 1, 2] rfl ?_
  refine DD.act 3 rfl rfl rfl rfl rfl (Ef.call rfl ((NewHat_sp na nc nums L hn))) ((by rintro _ _ _ ⟨_, rfl, rfl, _, rfl, _⟩; exact ⟨noL_le _, rfl, .inl rfl⟩)) ?_
  rintro _ _ _ ⟨_, rfl, rfl, b, rfl, hb, hle1, hh1⟩
  rename_i L1
  have hb1 := le_but hb hle1
  refine DD.act 4 rfl rfl rfl rfl rfl (Ef.call rfl ((several_sp s p x b na nc nums 0 L1 (hst.le hb1) hsm hh1 (by omega) hl2))) ((by rintro _ _ _ ⟨_, rfl, rfl, _, _, _, _, _, rfl, _⟩; exact ⟨noL_le _, rfl, .inl rfl⟩)) ?_
  rintro _ _ _ ⟨_, rfl, rfl, own, p1, p2, ba, m, rfl, ho, hm, hh2, hle2, hsev⟩
  refine DD.run' [5] rfl ?_
  refine .fin rfl ?_
  refine W.go 99 rfl ?_
  rename_i L8
  have hgl8 := hgl.le (hb1.trans ((but_but hle2).trans (but_le _ _)))
  have hL8 : Le L L8 := hb1.trans ((but_but hle2).trans (but_le _ _))
  have hsev := hsev.le (but_le _ _)
  generalize hSs : [(s, p), (own, p1), (({ own with wants := own.wants ++ [x] } : Sw), p2)] = Ss at hsev
  have nS : Ss.length = 3 := by rw [← hSs]; rfl
  refine W.loop (fun w E B L' => ∃ k : Nat, w = 3 - k ∧ k ≤ 3 ∧ Dim L8 L' ∧ E = [(2, .v (.int .i64 wn)), (9, .v (.slice (some ⟨ba, 0, none⟩) 3 3)), (10, .v (.int .i64 k))] ∧ B = [])
    ⟨0, rfl, by omega, Dim.refl _, rfl, rfl⟩ (by exact ⟨rfl, rfl, rfl, trivial⟩) (by exact trivial) ?_
  rintro _ _ _ L9 ⟨k, rfl, hk, hd9, rfl, rfl⟩ again
  have hsv9 := hsev.dim hd9
  refine W.go 99 rfl ?_
  refine W.split rfl rfl rfl (fun e3 => W.go 99 rfl ?_) (fun e3 => W.go 99 rfl ?_)
  · have hk3 : k < 3 := by have : (k : Int) < 3 := by simpa using e3
                           omega
    obtain ⟨⟨sk, pk⟩, hx⟩ : ∃ x, Ss[k]? = some x := ⟨_, List.getElem?_eq_getElem (by omega)⟩
    obtain ⟨hsk, hskm⟩ := hsv9.so _ (List.mem_of_getElem? hx)
    dsimp only at hsk hskm
    refine W.vf rfl rfl rfl rfl (Vf.idx rfl rfl rfl rfl rfl rfl (hk3)) ?_
    refine W.go 99 rfl ?_
    refine W.vf rfl rfl rfl rfl (Vf.loadN rfl rfl rfl (hsv9.ss.whole hx rfl)) ?_
    refine W.go 99 rfl ?_
    refine W.eff rfl rfl rfl (Ef.call rfl (DupSaw_sp sk pk L9 hsk hskm)) ?_
    rintro _ _ _ ⟨v9, rfl, rfl, p9, I9, hd9'⟩
    obtain ⟨hst10, hl10⟩ := hd9'.at_
    have hv9 := hd9'.v
    subst hv9
    rename_i L10
    refine W.go 99 rfl ?_
    refine W.loop (fun w E B L' => ∃ j : Nat, w = 6 - j ∧ j ≤ 6 ∧ Dim L10 L' ∧ E = [(2, .v (.int .i64 wn)), (9, .v (.slice (some ⟨ba, 0, none⟩) 3 3)), (10, .v (.int .i64 k)), (11, .p 0 0), (12, .v (.int .i64 ((j : Int) - 1)))] ∧ B = [some ⟨cellsS (.v (swA sk p9)), 26⟩])
      ⟨0, rfl, by omega, Dim.refl _, rfl, rfl⟩ (by exact ⟨rfl, rfl, rfl, rfl, rfl, trivial⟩) (by exact ⟨rfl, trivial⟩) ?_
    rintro _ _ _ L11 ⟨j, rfl, hj, hd11, rfl, rfl⟩ again2
    have hst11 := hd11.sw hst10
    have hd911 := (Dim.of_le hl10).trans hd11
    refine W.go 99 rfl ?_
    refine W.split rfl rfl rfl (fun e4 => W.go 99 rfl ?_) (fun e4 => W.go 99 rfl ?_)
    · have hj6 : j < 6 := by have : (j : Int) - 1 < 5 := (by simpa using e4); omega
      apply W.cut (fun E B L' => L11 = L' ∧ ∃ n : Int, SubE E [(2, .v (.int .i64 wn)), (9, .v (.slice (some ⟨ba, 0, none⟩) 3 3)), (10, .v (.int .i64 k)), (11, .p 0 0), (12, .v (.int .i64 ((j : Int) - 1))), (13, .v (.int .i64 n)), (50, .a (cellsS (.v (swA sk p9)))), (51, .v (.int .i64 n))] ∧ PreB B [some ⟨cellsS (.v (swA sk p9)), 26⟩])
      rotate_left
      · intro rest
        refine W.split rfl rfl rfl (fun e5 => W.go 99 rfl ?_) (fun e5 => W.go 99 rfl ?_)
        · exact rest _ _ _ ⟨rfl, _, by exact ⟨rfl, rfl, rfl, rfl, rfl, rfl, rfl, rfl, trivial⟩, by exact ⟨rfl, trivial⟩⟩
        · exact rest _ _ _ ⟨rfl, _, by exact ⟨rfl, rfl, rfl, rfl, rfl, rfl, rfl, rfl, trivial⟩, by exact ⟨rfl, trivial⟩⟩
      rintro E B _ ⟨rfl, n, hE, hB⟩
      refine W.weak hE hB ?_
      have hf := Verdict_sp (Post := Post) (W0 := W0) sk p9 n L11 hst11 hskm
      rw [← hX] at hf
      refine W.eff rfl rfl rfl (Ef.call rfl (hf)) ?_
      rintro _ _ _ ⟨v12, rfl, rfl, rfl, hd12⟩
      refine W.go 99 rfl ?_
      rename_i L12
      have hsv12 := hsv9.dim (hd911.trans hd12)
      refine W.vf rfl rfl rfl rfl (Vf.idx rfl rfl rfl rfl rfl rfl (hk3)) ?_
      refine W.go 99 rfl ?_
      refine W.vf rfl rfl rfl rfl (Vf.loadN rfl rfl rfl (hsv12.ss.whole hx rfl)) ?_
      refine W.go 99 rfl ?_
      refine W.eff rfl rfl rfl (Ef.call rfl (rVerdict_sp sk pk n L12 (hsv12.so _ (List.mem_of_getElem? hx)).1 hskm)) ?_
      rintro _ _ _ ⟨v13, rfl, rfl, rfl, hl13⟩
      refine W.go 99 rfl ?_
      rename_i L13
      have hd13 := hd12.trans (Dim.of_le hl13)
      have hf := Worth_sp (Post := Post) (W0 := W0) sk p9 n L13 (hd13.sw hst11) hskm
      rw [← hX] at hf
      refine W.eff rfl rfl rfl (Ef.call rfl (hf)) ?_
      rintro _ _ _ ⟨v14, rfl, rfl, rfl, hd14⟩
      refine W.go 99 rfl ?_
      rename_i L14
      have hd14 := hd13.trans hd14
      have hsv14 := hsv9.dim (hd911.trans hd14)
      refine W.vf rfl rfl rfl rfl (Vf.idx rfl rfl rfl rfl rfl rfl (hk3)) ?_
      refine W.go 99 rfl ?_
      refine W.vf rfl rfl rfl rfl (Vf.loadN rfl rfl rfl (hsv14.ss.whole hx rfl)) ?_
      refine W.go 99 rfl ?_
      refine W.eff rfl rfl rfl (Ef.call rfl (rWorth_sp sk pk n L14 (hsv14.so _ (List.mem_of_getElem? hx)).1 hskm)) ?_
      rintro _ _ _ ⟨v15, rfl, rfl, rfl, hl15⟩
      refine W.go 99 rfl ?_
      rename_i L15
      have hd15 := hd14.trans (Dim.of_le hl15)
      rw [bne_self_eq_false]
      refine W.asLit 82 (p := false) rfl rfl ?_
      refine W.go 99 rfl ?_
      rw [bne_self_eq_false]
      refine W.asLit 87 (p := false) rfl rfl ?_
      refine W.go 99 rfl ?_
      rw [bne_self_eq_false]
      refine W.asLit 92 (p := false) rfl rfl ?_
      refine W.go 99 rfl ?_
      rw [bne_self_eq_false]
      refine W.split rfl rfl rfl (fun c => absurd c (by decide)) (fun c => ?_)
      refine W.go 99 rfl ?_
      exact W.again (again2 _ _ _ _ (by omega) ⟨j + 1, rfl, by omega, hd11.trans hd15, rfl, rfl⟩) (by exact ⟨rfl, rfl, rfl, rfl, congrArg (fun z => some (SV.v (Value.int .i64 z))) (show IntKind.i64.wrap ((j : Int) - 1 + 1) = ((j + 1 : Nat) : Int) - 1 by rw [wrap64_in _ (by omega) (by omega)]; omega), trivial⟩) (by exact ⟨rfl, trivial⟩)
    have hsv11 := hsv9.dim hd911
    refine W.drawn (by kernel_rfl) _ (Le.refl _) ?_
    refine DD.run' [0, 1, 2] rfl ?_
    refine DD.vf 3 rfl rfl rfl rfl rfl (Vf.idx rfl rfl rfl rfl rfl rfl (hk3)) ?_
    refine DD.vf 4 rfl rfl rfl rfl rfl (Vf.loadN rfl rfl rfl (hsv11.ss.whole hx rfl)) ?_
    refine DD.act 5 rfl rfl rfl rfl rfl (Ef.call rfl (EqSaws_sp sk p9 pk L11 hst11 (hsv11.so _ (List.mem_of_getElem? hx)).1 hskm)) (by rintro _ _ _ ⟨_, rfl, rfl, rfl, rfl⟩; exact ⟨Le.refl _, rfl, .inl rfl⟩) ?_
    rintro _ _ _ ⟨_, rfl, rfl, rfl, rfl⟩
    refine DD.run' [6] rfl ?_
    refine .fin rfl ?_
    refine W.go 99 rfl ?_
    refine W.split rfl rfl rfl (fun c => absurd c (by decide)) (fun c => ?_)
    refine W.go 99 rfl ?_
    exact W.again (again _ _ _ _ (by omega) ⟨k + 1, rfl, by omega, hd9.trans hd911, rfl, rfl⟩) (by exact ⟨rfl, rfl, congrArg some (inc64 (by omega)), trivial⟩) (by exact trivial)
  · have hk3 : k = 3 := by simp at e3; omega
    refine W.eff rfl rfl rfl (Ef.call rfl (drd _ (hd9.cell hgl8))) ?_
    rintro _ _ _ ⟨v20, rfl, rfl, rfl, hdm⟩
    refine W.go 99 rfl ?_
    exact W.retO r rfl ⟨rfl, ((Dim.of_le hL8).trans hd9).trans hdm⟩
end Go.Mz

