/- Lemmas on which the claim leans. -/
import Derived.Test.YtfnjganjlkoehaaGreatDoorMzLb
set_option maxRecDepth 100000
namespace Go.Mz
open Go.Conc Go.Proofs
variable {X : Logic Tryz.prog}
def mostW (s : Sw) (l : List (List Nat)) : Int := l.foldl (fun n w => max n (payW s w)) 0
theorem mostW_snoc (s : Sw) (l : List (List Nat)) (w : List Nat) : mostW s (l ++ [w]) = max (mostW s l) (payW s w) := by unfold mostW; rw [List.foldl_append]; rfl
def LsOk (s : Sw) (l : List (List Nat)) : Prop := l.length ≤ 32 ∧ ∀ w ∈ l, WnOk s w ∧ w.length ≤ 5
theorem served_ls {s : Sw} (hok : SOk s) : LsOk s (servedL s) := by
 refine ⟨Nat.le_trans (List.length_filter_le _ _) (picks_32 hok), fun w hw => ?_⟩
 have h := (List.mem_filter.1 hw).1
 exact ⟨(picks_wn h).2, picks_5 hok h⟩
theorem rMost_sp (s : Sw) (p : Wp) (la : Option Addr) (lc : Nat) (l : List (List Nat)) (L : LH) (hs : SwAt L s p) (hok : SOk s) (hrows : RowsAt L la 1 encI (l.map natI)) (hl : LsOk s l) :
  Sp X 99 [swA s p, .slice la l.length lc] L (fun v L' => v = .int .i64 (mostW s l) ∧ L = L') := by
 obtain ⟨h32, hmw⟩ := hl
 refine Sp.enter (n := 22) Tryz.func99 rfl rfl rfl rfl fun C hX _ hL0 r => ?_
 refine W.go 99 rfl ?_
 refine W.loop (fun m E B L' => ∃ j : Nat, m = l.length - j ∧ j ≤ l.length ∧ L = L' ∧ E = [(1, .v (.slice la l.length lc)), (2, .p 0 0), (5, .v (.int .i64 (mostW s (l.take j)))), (6, .v (.int .i64 j))] ∧ B = [some ⟨cellsS (.v (swA s p)), 26⟩])
  ⟨0, rfl, by omega, rfl, rfl, rfl⟩ (by exact ⟨rfl, rfl, rfl, rfl, trivial⟩) (by exact ⟨rfl, trivial⟩) ?_
 rintro _ _ _ _ ⟨j, rfl, hj, rfl, rfl, rfl⟩ again
 refine W.go 99 rfl ?_
 refine W.split rfl rfl rfl (fun e1 => W.go 99 rfl ?_) (fun e1 => W.go 99 rfl ?_)
 ·have hjl : j < l.length := by simpa using e1
  obtain ⟨w, hw⟩ : ∃ w, l[j]? = some w := ⟨_, List.getElem?_eq_getElem hjl⟩
  obtain ⟨hwn, hw5⟩ := hmw w (List.mem_of_getElem? hw)
  have hwm : (l.map natI)[j]? = some (natI w) := by rw [List.getElem?_map, hw]; rfl
  obtain ⟨lad, rfl⟩ := hrows.addr (i := j) (by simpa using hjl)
  obtain ⟨xa, xc, hxc, hxs, _⟩ := hrows.row hwm
  rw [natI_len] at hxc
  have htk : l.take (j + 1) = l.take j ++ [w] := by obtain ⟨_, hwe⟩ := List.getElem?_eq_some_iff.1 hw; rw [← hwe]; exact List.take_succ_eq_append_getElem hjl
  refine W.drawn (by kernel_rfl) _ (Le.refl _) ?_
  refine DD.run' [0, 1, 2, 3] rfl ?_
  refine DD.vf 4 rfl rfl rfl rfl rfl (Vf.idx1 rfl rfl rfl rfl rfl rfl rfl (hjl)) ?_
  refine DD.vf 5 rfl rfl rfl rfl rfl (Vf.load rfl rfl rfl (hxc)) ?_
  refine DD.act 6 rfl rfl rfl rfl rfl (Ef.call rfl (rPays_sp s p xa xc w L hs hok hxs hwn (by omega))) (by rintro _ _ _ ⟨_, rfl, rfl, rfl, rfl⟩; exact ⟨Le.refl _, rfl, .inl rfl⟩) ?_
  rintro _ _ _ ⟨_, rfl, rfl, rfl, rfl⟩
  refine DD.run' [7, 8] rfl ?_
  refine .fin rfl ?_
  refine W.go 99 rfl ?_
  exact W.again (again _ _ _ _ (by omega) ⟨j + 1, rfl, by omega, rfl, rfl, rfl⟩) (by exact ⟨rfl, rfl, congrArg (fun z => some (SV.v (Value.int .i64 z))) (by rw [htk, mostW_snoc]; show (if payW s w > mostW s (l.take j) then payW s w else mostW s (l.take j)) = _; split <;> omega), congrArg some (inc64 (by omega)), trivial⟩) (by exact ⟨rfl, trivial⟩)
 ·have hje : j = l.length := by simp at e1; omega
  subst hje
  refine W.ret r rfl rfl ?_
  rw [List.take_length]
  exact ⟨rfl, rfl⟩
def coW (s : Sw) (w : List Nat) : Int := ((crushW s w).map (·.c)).getD (-1)
def ltIx (s : Sw) (l : List (List Nat)) (a b : Nat) : Bool := decide (coW s (l.getD a []) < coW s (l.getD b []))
def bestIx (s : Sw) (l : List (List Nat)) (j : Nat) : Option Nat := firstBy (ltIx s l) ((List.range j).filter fun i => decide (mostW s l ≤ payW s (l.getD i [])))
theorem bestIx_no {s : Sw} {l : List (List Nat)} {j : Nat} (h : payW s (l.getD j []) < mostW s l) : bestIx s l (j + 1) = bestIx s l j := by
 unfold bestIx
 rw [List.range_succ, List.filter_append, List.filter_cons_of_neg (by rw [decide_eq_true_eq]; omega), List.filter_nil, List.append_nil]
theorem bestIx_yes {s : Sw} {l : List (List Nat)} {j : Nat} (h : ¬ payW s (l.getD j []) < mostW s l) : bestIx s l (j + 1) = takeBy (ltIx s l) (bestIx s l j) j := by
 unfold bestIx
 rw [List.range_succ, List.filter_append, List.filter_cons_of_pos (by rw [decide_eq_true_eq]; omega), List.filter_nil, firstBy_snoc]
def BixV (s : Sw) (l : List (List Nat)) (o : Option Nat) (v8 v9 : Int) : Prop := match o with
 | none => v8 = -1 ∧ v9 = 0
 | some i => v8 = i ∧ v9 = coW s (l.getD i []) ∧ i < l.length
theorem snoc_ind {α : Type} {P : List α → Prop} (h0 : P []) (h1 : ∀ l x, P l → P (l ++ [x])) (l : List α) : P l := by
 generalize hn : l.length = n
 induction n generalizing l with
 | zero => rw [List.length_eq_zero_iff] at hn; subst hn; exact h0
 | succ n ih =>
  have hne : l ≠ [] := fun e => by subst e; simp at hn
  rw [← List.dropLast_concat_getLast hne]
  exact h1 _ _ (ih _ (by simp; omega))
theorem firstBy_key {α : Type} {f : α → Int} : ∀ (l : List α) (x : α), firstBy (fun a b => decide (f a < f b)) l = some x → ∃ pre post, l = pre ++ x :: post ∧ (∀ y ∈ pre, f x < f y) ∧ ∀ y ∈ post, f x ≤ f y := by
 intro l
 induction l using snoc_ind with
 | h0 => intro x h; cases h
 | h1 l z ih =>
  intro x h
  rw [firstBy_snoc] at h
  cases ho : firstBy (fun a b => decide (f a < f b)) l with
  | none =>
   rw [ho] at h
   cases h
   have hl : l = [] := by
    cases l with
    | nil => rfl
    | cons y l =>
     exfalso
     have : ∀ (l : List α) (y : α), ∃ w, l.foldl (takeBy (fun a b => decide (f a < f b))) (some y) = some w := fun l => by
      induction l with
      | nil => intro y; exact ⟨y, rfl⟩
      | cons u l ih =>
       intro y
       rw [List.foldl_cons]
       show ∃ w, l.foldl _ (if decide (f u < f y) then some u else some y) = some w
       split
       ·exact ih u
       ·exact ih y
     obtain ⟨w, hw⟩ := this l y
     unfold firstBy at ho
     rw [List.foldl_cons] at ho
     exact absurd (hw.symm.trans ho) (by simp)
   subst hl
   exact ⟨[], [], rfl, fun y hy => (by cases hy), fun y hy => (by cases hy)⟩
  | some b =>
   rw [ho] at h
   obtain ⟨pre, post, hl, h1, h2⟩ := ih b ho
   change (if decide (f z < f b) then some z else some b) = some x at h
   by_cases e : f z < f b
   ·rw [if_pos (by simpa using e)] at h
    cases h
    refine ⟨l, [], rfl, fun y hy => ?_, fun y hy => (by cases hy)⟩
    rw [hl] at hy
    rcases List.mem_append.1 hy with hy | hy
    ·have := h1 y hy; omega
    ·rcases List.mem_cons.1 hy with rfl | hy
     ·exact e
     ·have := h2 y hy; omega
   ·rw [if_neg (by simpa using e)] at h
    cases h
    refine ⟨pre, post ++ [z], by rw [hl]; simp, h1, fun y hy => ?_⟩
    rcases List.mem_append.1 hy with hy | hy
    ·exact h2 y hy
    ·rw [List.mem_singleton.1 hy]; omega
theorem firstBy_min {α : Type} {lt : α → α → Bool} (ht : ∀ a b c, lt a b = true → lt b c = true → lt a c = true) (hi : ∀ a, lt a a = false) : ∀ (l : List α) (x : α), firstBy lt l = some x → x ∈ l ∧ ∀ y ∈ l, lt y x = false := by
 intro l
 induction l using snoc_ind with
 | h0 => intro x h; cases h
 | h1 l z ih =>
  intro x h
  rw [firstBy_snoc] at h
  cases ho : firstBy lt l with
  | none =>
   rw [ho] at h
   cases h
   have hl : l = [] := by
    cases l with
    | nil => rfl
    | cons y l =>
     exfalso
     have : ∀ (l : List α) (y : α), ∃ w, l.foldl (takeBy lt) (some y) = some w := fun l => by
      induction l with
      | nil => intro y; exact ⟨y, rfl⟩
      | cons u l ih =>
       intro y
       rw [List.foldl_cons]
       show ∃ w, l.foldl _ (if lt u y then some u else some y) = some w
       split
       ·exact ih u
       ·exact ih y
     obtain ⟨w, hw⟩ := this l y
     unfold firstBy at ho
     rw [List.foldl_cons] at ho
     exact absurd (hw.symm.trans ho) (by simp)
   subst hl
   exact ⟨by simp, fun y hy => by simp at hy; rw [hy]; exact hi _⟩
  | some b =>
   rw [ho] at h
   obtain ⟨h1, h2⟩ := ih b ho
   change (if lt z b then some z else some b) = some x at h
   by_cases e : lt z b = true
   ·rw [if_pos e] at h
    cases h
    refine ⟨by simp, fun y hy => ?_⟩
    rcases List.mem_append.1 hy with hy | hy
    ·have h3 := h2 y hy
     cases h4 : lt y z with
     | false => rfl
     | true => rw [ht _ _ _ h4 e] at h3; cases h3
    ·rw [List.mem_singleton.1 hy]; exact hi _
   ·rw [if_neg e] at h
    cases h
    refine ⟨by simp [h1], fun y hy => ?_⟩
    rcases List.mem_append.1 hy with hy | hy
    ·exact h2 y hy
    ·rw [List.mem_singleton.1 hy]; simpa using e
theorem ltL_trans : ∀ {a b c : List Nat}, ltL a b = true → ltL b c = true → ltL a c = true
 | a, [], _, h, _ => by rw [show ltL a [] = false by cases a <;> rfl] at h; cases h
 | _, _ :: _, [], _, h => by cases h
 | [], _ :: _, _ :: _, _, _ => rfl
 | a :: l, b :: k, c :: m, h1, h2 => by
  rw [ltL] at h1 h2 ⊢
  simp only [Bool.or_eq_true, decide_eq_true_eq, Bool.and_eq_true] at h1 h2 ⊢
  rcases h1 with h1 | ⟨rfl, h1⟩
  ·rcases h2 with h2 | ⟨rfl, h2⟩
   ·exact .inl (by omega)
   ·exact .inl h1
  ·rcases h2 with h2 | ⟨rfl, h2⟩
   ·exact .inl h2
   ·exact .inr ⟨rfl, ltL_trans h1 h2⟩
theorem ltB_trans (s : Sw) (a b c : Cr) (h1 : ltB s a b = true) (h2 : ltB s b c = true) : ltB s a c = true := by
 unfold ltB at h1 h2 ⊢
 split at h1
 ·rename_i e1
  simp only [Bool.or_eq_true, decide_eq_true_eq, Bool.and_eq_true] at h1
  split at h2
  ·simp only [Bool.or_eq_true, decide_eq_true_eq, Bool.and_eq_true] at h2
   rw [if_pos (by omega)]
   simp only [Bool.or_eq_true, decide_eq_true_eq, Bool.and_eq_true]
   omega
  ·rename_i e2
   rw [if_pos (by omega)]
   simp only [Bool.or_eq_true, decide_eq_true_eq, Bool.and_eq_true]
   omega
 ·rename_i e1
  split at h2
  ·simp only [Bool.or_eq_true, decide_eq_true_eq, Bool.and_eq_true] at h2
   rw [if_pos (by omega)]
   simp only [Bool.or_eq_true, decide_eq_true_eq, Bool.and_eq_true]
   omega
  ·rename_i e2
   rw [if_neg (by omega)]
   exact ltL_trans h1 h2
theorem ltB_irr (s : Sw) (a : Cr) : ltB s a a = false := by
 unfold ltB
 rw [if_neg (by simp)]
 exact ltL_irr _
theorem mask_lt {n : Nat} {w : List Nat} (hw : ∀ i ∈ w, i < n) : maskW w < 2 ^ n := by
 refine Nat.lt_pow_two_of_testBit _ fun i hi => ?_
 rw [maskW_bit]
 cases h : w.contains i with
 | false => rfl
 | true => have := hw i (List.contains_iff_mem.1 h); omega
theorem bits_asc (m : Nat) : Asc (bits5 m) := List.Pairwise.filter _ List.pairwise_lt_range
theorem cand_iff {s : Sw} (hok : SOk s) (c : Cr) : c ∈ (allW s).filterMap id ↔ c.w ∈ picksW s.wants.length s.wants.length ∧ crushW s c.w = some c := by
 unfold allW
 rw [List.mem_filterMap]
 simp only [List.mem_map, List.mem_range, id, exists_eq_right]
 constructor
 ·rintro ⟨m, hm, hc⟩
  have hw := (crushW_some hc).1
  refine ⟨?_, by rw [hw]; exact hc⟩
  rw [hw, picksW_mem (Nat.le_refl _)]
  exact ⟨bits_asc m, fun i hi => ⟨by omega, bits_wn hm i hi⟩⟩
 ·rintro ⟨h1, h2⟩
  obtain ⟨ha, hw⟩ := picks_wn h1
  refine ⟨maskW c.w, mask_lt hw, ?_⟩
  rw [bits5_mask ha fun x hx => Nat.lt_of_lt_of_le (hw x hx) hok.w5]
  exact h2
theorem served_iff {s : Sw} {w : List Nat} : w ∈ servedL s ↔ w ∈ picksW s.wants.length s.wants.length ∧ ∃ c, crushW s w = some c := by
 unfold servedL
 rw [List.mem_filter]
 unfold srvB
 rw [Option.isSome_iff_exists]
theorem bestW_of {s : Sw} (hok : SOk s) (so : List Nat → Bool) {w : List Nat} {c : Cr} (hw : w ∈ picksW s.wants.length s.wants.length) (hs : so w = true) (hc : crushW s w = some c)
  (hall : ∀ v d, v ∈ picksW s.wants.length s.wants.length → so v = true → crushW s v = some d → v ≠ w → ltB s c d = true) : crWants (bestW s so) = w := by
 have hcw := (crushW_some hc).1
 have hmem : c ∈ ((allW s).filterMap id).filter fun c => so c.w := List.mem_filter.2 ⟨(cand_iff hok c).2 ⟨by rw [hcw]; exact hw, by rw [hcw]; exact hc⟩, by rw [hcw]; exact hs⟩
 cases hb : bestW s so with
 | none =>
  exfalso
  unfold bestW at hb
  generalize ((allW s).filterMap id).filter (fun c => so c.w) = l at hmem hb
  obtain ⟨pre, post, rfl⟩ := List.append_of_mem hmem
  have : ∀ (l : List Cr) (o : Option Cr), l.foldl (takeBy (ltB s)) o = none → l = [] ∧ o = none := fun l => by
   induction l with
   | nil => intro o h; exact ⟨rfl, h⟩
   | cons x l ih =>
    intro o h
    rw [List.foldl_cons] at h
    have := (ih _ h).2
    cases o with
    | none => cases this
    | some y =>
     change (if ltB s x y then some x else some y) = none at this
     split at this <;> cases this
  have := (this _ _ hb).1
  simp at this
 | some d =>
  obtain ⟨h1, h2⟩ := firstBy_min (ltB_trans s) (ltB_irr s) _ _ hb
  have h3 := h2 c hmem
  obtain ⟨h4, h5⟩ := List.mem_filter.1 h1
  obtain ⟨h6, h7⟩ := (cand_iff hok d).1 h4
  show d.w = w
  refine Classical.byContradiction fun hne => ?_
  rw [hall d.w d h6 h5 h7 hne] at h3
  cases h3
theorem mostW_le (s : Sw) (l : List (List Nat)) : ∀ w ∈ l, payW s w ≤ mostW s l := by
 induction l using snoc_ind with
 | h0 => intro w h; cases h
 | h1 l z ih =>
  intro w hw
  rw [mostW_snoc]
  rcases List.mem_append.1 hw with hw | hw
  ·have := ih w hw; omega
  ·rw [List.mem_singleton.1 hw]; omega
theorem mostW_mem {s : Sw} (hok : SOk s) (l : List (List Nat)) (hne : l ≠ []) : ∃ w ∈ l, payW s w = mostW s l := by
 induction l using snoc_ind with
 | h0 => exact absurd rfl hne
 | h1 l z ih =>
  rw [mostW_snoc]
  by_cases h : mostW s l ≤ payW s z
  ·exact ⟨z, by simp, by omega⟩
  ·by_cases hl : l = []
   ·subst hl
    have := (pay_bd hok z).1
    have h0 : mostW s [] = 0 := rfl
    omega
   ·obtain ⟨w, h1, h2⟩ := ih hl
    exact ⟨w, by simp [h1], by omega⟩
theorem firstBy_some {α : Type} {lt : α → α → Bool} {l : List α} (h : l ≠ []) : ∃ x, firstBy lt l = some x := by
 cases hb : firstBy lt l with
 | some x => exact ⟨x, rfl⟩
 | none =>
  exfalso
  have : ∀ (l : List α) (o : Option α), l.foldl (takeBy lt) o = none → l = [] ∧ o = none := fun l => by
   induction l with
   | nil => intro o h; exact ⟨rfl, h⟩
   | cons x l ih =>
    intro o h
    rw [List.foldl_cons] at h
    have := (ih _ h).2
    cases o with
    | none => cases this
    | some y =>
     change (if lt x y then some x else some y) = none at this
     split at this <;> cases this
  exact h (this _ _ hb).1
theorem zeros_mem : ∀ {st : List Int}, (∀ x ∈ st, 0 ≤ x ∧ x ≤ 8) → List.replicate st.length 0 ∈ listsW st
 | [], _ => by simp [listsW]
 | m :: t, h => by
  have hm := h m List.mem_cons_self
  rw [listsW, List.mem_flatMap]
  exact ⟨0, List.mem_range.2 (by omega), List.mem_map.2 ⟨_, zeros_mem fun x hx => h x (List.mem_cons_of_mem _ hx), rfl⟩⟩
theorem crush_nil {s : Sw} (hok : SOk s) : ∃ c, crushW s [] = some c := by
 refine firstBy_some ?_
 rw [plansW_doc hok]
 intro h
 rw [List.map_eq_nil_iff, List.filter_eq_nil_iff] at h
 refine h _ (zeros_mem hok.sr) ?_
 unfold okW
 rw [beq_iff_eq, right_eq hok]
 have hw : wantsOf s [] = [] := rfl
 have hg : ∀ k, (List.replicate s.stock.length (0 : Int)).getD k 0 = 0 := fun k => by
  rw [List.getD_eq_getElem?_getD, List.getElem?_replicate]
  split <;> rfl
 have h1 : (List.range s.loaves.length).any (fun k => decide (s.stock.getD k 0 < tkN (wantsOf s []) k + (List.replicate s.stock.length (0 : Int)).getD k 0)) = false := by
  rw [List.any_eq_false]
  intro k hk
  have hk := List.mem_range.1 hk
  have hst := hok.st
  have := hok.sr (s.stock.getD k 0) (by rw [List.getD_eq_getElem?_getD, List.getElem?_eq_getElem (by omega)]; exact List.getElem_mem _)
  rw [hg, hw]
  simp only [decide_eq_true_eq]
  have : tkN [] k = 0 := rfl
  omega
 have h2 : (List.range s.loaves.length).any (fun k => decide ((List.replicate s.stock.length (0 : Int)).getD k 0 * sumL (s.loaves.getD k []) + suN s (wantsOf s []) k < tksN k (wantsOf s []))) = false := by
  rw [List.any_eq_false]
  intro k _
  rw [hg, hw, Int.zero_mul]
  simp [suN, tksN, sumL]
 have h3 : ¬ sumL (sugarD s (wantsOf s []) (List.replicate s.stock.length 0)) < tksN (-1) (wantsOf s []) := by
  have := (sumL_bk 4000 _ (sugarD_bd hok (wantsOf s []) (l := List.replicate s.stock.length 0) (fun k => by rw [hg]; decide) (by simp [hw]))).1
  have h0 : tksN (-1) (wantsOf s []) = 0 := rfl
  omega
 rw [h1, h2, if_neg (by decide), if_neg (by decide), if_neg h3]
theorem nil_picks (n d : Nat) : [] ∈ picksW n d := by rw [picksW_eq]; exact List.mem_cons_self
theorem served_ne {s : Sw} (hok : SOk s) : servedL s ≠ [] := fun h => by
 have : [] ∈ servedL s := served_iff.2 ⟨nil_picks _ _, crush_nil hok⟩
 rw [h] at this; cases this
theorem served_sorted (s : Sw) : (servedL s).Pairwise fun a b => ltL a b = true := (picksW_sorted _ _).filter _
theorem getD_mem {l : List (List Nat)} {i : Nat} (h : i < l.length) : l.getD i [] ∈ l := by rw [List.getD_eq_getElem?_getD, List.getElem?_eq_getElem h]; exact List.getElem_mem h
theorem bestIx_some {s : Sw} (hok : SOk s) : ∃ i, bestIx s (servedL s) (servedL s).length = some i := by
 refine firstBy_some fun h => ?_
 obtain ⟨w, h1, h2⟩ := mostW_mem hok _ (served_ne hok)
 obtain ⟨i, hi, rfl⟩ := List.getElem_of_mem h1
 rw [List.filter_eq_nil_iff] at h
 refine h i (List.mem_range.2 hi) ?_
 rw [List.getD_eq_getElem?_getD, List.getElem?_eq_getElem hi, decide_eq_true_eq]
 exact Int.le_of_eq h2.symm
theorem bestIx_eq {s : Sw} (hok : SOk s) {i : Nat} (h : bestIx s (servedL s) (servedL s).length = some i) :
  i < (servedL s).length ∧ crWants (bestW s fun _ => true) = (servedL s).getD i [] ∧ payW s ((servedL s).getD i []) = mostW s (servedL s) := by
 obtain ⟨pre, post, hl, h1, h2⟩ := firstBy_key (f := fun i => coW s ((servedL s).getD i [])) _ _ h
 have hsort : (pre ++ i :: post).Pairwise (· < ·) := by rw [← hl]; exact List.Pairwise.filter _ List.pairwise_lt_range
 have hmem : i ∈ (List.range (servedL s).length).filter fun i => decide (mostW s (servedL s) ≤ payW s ((servedL s).getD i [])) := by rw [hl]; simp
 obtain ⟨hi, hp⟩ := List.mem_filter.1 hmem
 have hi := List.mem_range.1 hi
 rw [decide_eq_true_eq] at hp
 have hle := mostW_le s _ _ (getD_mem hi)
 have hpe : payW s ((servedL s).getD i []) = mostW s (servedL s) := by omega
 obtain ⟨hw, c, hc⟩ := served_iff.1 (getD_mem hi)
 refine ⟨hi, bestW_of hok (fun _ => true) hw rfl hc fun v d hv _ hd hne => ?_, hpe⟩
 have hcw := (crushW_some hc).1
 have hdw := (crushW_some hd).1
 have hvs : v ∈ servedL s := served_iff.2 ⟨hv, d, hd⟩
 have hvp := mostW_le s _ _ hvs
 unfold ltB
 rw [hcw, hdw]
 by_cases e : payW s v = mostW s (servedL s)
 ·obtain ⟨j, hj, hje⟩ := List.getElem_of_mem hvs
  have hgj : (servedL s).getD j [] = v := by rw [List.getD_eq_getElem?_getD, List.getElem?_eq_getElem hj, ← hje]; rfl
  have hjm : j ∈ pre ++ i :: post := by
   rw [← hl]
   exact List.mem_filter.2 ⟨List.mem_range.2 hj, by rw [hgj, decide_eq_true_eq]; omega⟩
  have cc : coW s ((servedL s).getD i []) = c.c := by unfold coW; rw [hc]; rfl
  have cd : coW s v = d.c := by unfold coW; rw [hd]; rfl
  rcases List.mem_append.1 hjm with hjm | hjm
  ·have := h1 j hjm
   simp only [hgj] at this
   rw [if_pos (by omega)]
   simp only [Bool.or_eq_true, decide_eq_true_eq, Bool.and_eq_true]
   omega
  ·rcases List.mem_cons.1 hjm with rfl | hjm
   ·exact absurd hgj.symm hne
   ·have h3 := h2 j hjm
    simp only [hgj] at h3
    by_cases e2 : c.c = d.c
    ·rw [if_neg (by omega)]
     have hij : i < j := (List.pairwise_cons.1 (List.pairwise_append.1 hsort).2.1).1 j hjm
     have := List.pairwise_iff_getElem.1 (served_sorted s) i j hi hj hij
     rw [hje] at this
     rw [List.getD_eq_getElem?_getD, List.getElem?_eq_getElem hi]
     exact this
    ·rw [if_pos (by omega)]
     simp only [Bool.or_eq_true, decide_eq_true_eq, Bool.and_eq_true]
     omega
 ·rw [if_pos (by omega)]
  simp only [Bool.or_eq_true, decide_eq_true_eq, Bool.and_eq_true]
  omega
def ListN (x : List Nat × Int × Int) (L : LH) (v : Value) (L' : LH) : Prop := ∃ ad cap, v = .tuple #[.slice ad x.1.length cap, .int .i64 x.2.1, .int .i64 x.2.2] ∧ IntsAt L' ad (natI x.1) ∧ Le L L'
theorem rBest_sp (s : Sw) (p : Wp) (L : LH) (h : SwAt L s p) (hn : Sm s) : Sp X 39 [swA s p] L (ListN (BestE s) L) := by
 refine Sp.enter (n := 60) Tryz.func39 rfl rfl rfl rfl fun C hX _ hL0 r => ?_
 refine W.go 99 rfl ?_
 refine W.eff rfl rfl rfl (Ef.call rfl (rCheck_sp s p L h hn)) ?_
 rintro _ _ _ ⟨_, rfl, rfl, rfl, rfl⟩
 refine W.go 99 rfl ?_
 refine W.split rfl rfl rfl (fun c1 => W.go 99 rfl ?_) (fun c1 => W.go 99 rfl ?_)
 ·have c1' : sawE s ≠ 0 := by simpa using c1
  have hCE : BestE s = ([], 0, sawE s) := by unfold BestE; rw [if_pos c1']
  rw [hCE] at r
  refine W.ret r rfl rfl ?_
  exact ⟨none, 0, rfl, SlAt.empty, Le.refl _⟩
 have h0 : sawE s = 0 := by simpa using c1
 have hok := sawE_0 h0
 obtain ⟨bi, hbi⟩ := bestIx_some hok
 obtain ⟨hbl, hbw, hbp⟩ := bestIx_eq hok hbi
 have hCE : BestE s = ((servedL s).getD bi [], mostW s (servedL s), 0) := by unfold BestE; rw [if_neg (by simp [h0]), hbw, hbp]
 rw [hCE] at r
 have hls := served_ls hok
 have hsv : ∀ w ∈ servedL s, ∃ c, crushW s w = some c := fun w hw => (served_iff.1 hw).2
 refine W.eff rfl rfl rfl (Ef.call rfl (rServed_sp s p L h hok)) ?_
 rintro _ _ _ ⟨v1, rfl, rfl, la, lc, rfl, hle, hrows⟩
 refine W.go 99 rfl ?_
 rename_i L1
 rw [List.length_map]
 refine W.eff rfl rfl rfl (Ef.call rfl (rMost_sp s p la lc (servedL s) L1 (h.le hle) hok hrows hls)) ?_
 rintro _ _ _ ⟨_, rfl, rfl, rfl, rfl⟩
 refine W.go 99 rfl ?_
 have h32 := hls.1
 generalize hS : servedL s = S at *
 refine W.loop (fun m E B L' => ∃ (j : Nat) (v8 v9 : Int), m = S.length - j ∧ j ≤ S.length ∧ Le L1 L' ∧ BixV s S (bestIx s S j) v8 v9 ∧
   E = [(1, .p 0 0), (6, .v (.slice la S.length lc)), (7, .v (.int .i64 (mostW s S))), (8, .v (.int .i64 v8)), (9, .v (.int .i64 v9)), (10, .v (.int .i64 j))] ∧ B = [some ⟨cellsS (.v (swA s p)), 26⟩])
  ⟨0, _, _, rfl, by omega, Le.refl _, ⟨rfl, rfl⟩, rfl, rfl⟩ (by exact ⟨rfl, rfl, rfl, rfl, rfl, rfl, trivial⟩) (by exact ⟨rfl, trivial⟩) ?_
 rintro _ _ _ L2 ⟨j, v8, v9, rfl, hj, hl12, hbv, rfl, rfl⟩ again
 refine W.go 99 rfl ?_
 refine W.split rfl rfl rfl (fun e1 => W.go 99 rfl ?_) (fun e1 => W.go 99 rfl ?_)
 ·have hjl : j < S.length := by simpa using e1
  obtain ⟨w, hw⟩ : ∃ w, S[j]? = some w := ⟨_, List.getElem?_eq_getElem hjl⟩
  obtain ⟨hwn, hw5⟩ := hls.2 w (List.mem_of_getElem? hw)
  obtain ⟨c, hc⟩ := hsv w (List.mem_of_getElem? hw)
  have hgj : S.getD j [] = w := by rw [List.getD_eq_getElem?_getD, hw]; rfl
  have hwm : (S.map natI)[j]? = some (natI w) := by rw [List.getElem?_map, hw]; rfl
  obtain ⟨lad, rfl⟩ := hrows.addr (i := j) (by simpa using hjl)
  obtain ⟨xa, xc, hxc, hxs, _⟩ := hrows.row hwm
  rw [natI_len] at hxc
  refine W.drawn (by kernel_rfl) _ (Le.refl _) ?_
  refine DD.run' [0, 1, 2, 6] rfl ?_
  refine DD.vf 3 rfl rfl rfl rfl rfl (Vf.idx1 rfl rfl rfl rfl rfl rfl rfl (hjl)) ?_
  refine DD.vf 4 rfl rfl rfl rfl rfl (Vf.load rfl rfl rfl (hl12.cell hxc)) ?_
  refine DD.act 5 rfl rfl rfl rfl rfl (Ef.call rfl (rPays_sp s p xa xc w L2 (h.le (hle.trans hl12)) hok (hxs.le hl12) hwn (by omega))) (by rintro _ _ _ ⟨_, rfl, rfl, rfl, rfl⟩; exact ⟨Le.refl _, rfl, .inl rfl⟩) ?_
  rintro _ _ _ ⟨_, rfl, rfl, rfl, rfl⟩
  refine DD.run' [7] rfl ?_
  refine .fin rfl ?_
  refine W.go 99 rfl ?_
  refine W.split rfl rfl rfl (fun e2 => W.go 99 rfl ?_) (fun e2 => W.go 99 rfl ?_)
  ·have e2' : payW s (S.getD j []) < mostW s S := by rw [hgj]; simpa using e2
   exact W.again (again _ _ _ _ (by omega) ⟨j + 1, v8, v9, rfl, by omega, hl12, by rw [bestIx_no e2']; exact hbv, rfl, rfl⟩) (by exact ⟨rfl, rfl, rfl, rfl, rfl, congrArg some (inc64 (by omega)), trivial⟩) (by exact ⟨rfl, trivial⟩)
  have e2' : ¬ payW s (S.getD j []) < mostW s S := by rw [hgj]; simpa using e2
  have hst := bestIx_yes e2'
  have hco : coW s (S.getD j []) = c.c := by rw [hgj]; unfold coW; rw [hc]; rfl
  refine W.drawn (by kernel_rfl) _ (Le.refl _) ?_
  refine DD.run' [0, 1, 2] rfl ?_
  refine DD.vf 3 rfl rfl rfl rfl rfl (Vf.idx1 rfl rfl rfl rfl rfl rfl rfl (hjl)) ?_
  refine DD.vf 4 rfl rfl rfl rfl rfl (Vf.load rfl rfl rfl (hl12.cell hxc)) ?_
  refine DD.act 5 rfl rfl rfl rfl rfl (Ef.call rfl ((rCrush_sp s p xa xc w L2 (h.le (hle.trans hl12)) hok (hxs.le hl12) hwn (by omega)))) ((by rintro _ _ _ ⟨_, rfl, rfl, hl, _⟩; exact ⟨hl, rfl, .inl rfl⟩)) ?_
  rintro _ _ _ ⟨v3, rfl, rfl, hl3, hcd⟩
  rename_i L3
  rw [hc] at hcd
  obtain ⟨ca, cc, rfl, _, hc0⟩ := hcd
  refine DD.run' [6, 7, 8, 9, 10] rfl ?_
  refine .fin rfl ?_
  refine W.go 99 rfl ?_
  have hl13 := hl12.trans hl3
  cases ho : bestIx s S j with
  | none =>
   rw [ho] at hbv hst
   obtain ⟨rfl, rfl⟩ := hbv
   refine W.split rfl rfl rfl (fun _ => ?_) (fun e => absurd e (by decide))
   refine W.go 99 rfl ?_
   exact W.again (again _ _ _ _ (by omega) ⟨j + 1, (j : Int), c.c, rfl, by omega, hl13, by rw [hst]; exact ⟨rfl, hco.symm, hjl⟩, rfl, rfl⟩) (by exact ⟨rfl, rfl, rfl, rfl, rfl, congrArg some (inc64 (by omega)), trivial⟩) (by exact ⟨rfl, trivial⟩)
  | some i =>
   rw [ho] at hbv hst
   obtain ⟨rfl, rfl, hil⟩ := hbv
   refine W.split rfl rfl rfl (fun e => absurd e (by simp)) (fun _ => ?_)
   refine W.go 99 rfl ?_
   refine W.split rfl rfl rfl (fun e3 => ?_) (fun e3 => ?_)
   ·have e3' : ltIx s S j i = true := by unfold ltIx; rw [hco]; exact e3
    refine W.go 99 rfl ?_
    exact W.again (again _ _ _ _ (by omega) ⟨j + 1, (j : Int), c.c, rfl, by omega, hl13, by rw [hst, show takeBy (ltIx s S) (some i) j = some j from if_pos e3']; exact ⟨rfl, hco.symm, hjl⟩, rfl, rfl⟩) (by exact ⟨rfl, rfl, rfl, rfl, rfl, congrArg some (inc64 (by omega)), trivial⟩) (by exact ⟨rfl, trivial⟩)
   ·have e3' : ltIx s S j i = false := by unfold ltIx; rw [hco]; exact e3
    refine W.go 99 rfl ?_
    exact W.again (again _ _ _ _ (by omega) ⟨j + 1, _, _, rfl, by omega, hl13, by rw [hst, show takeBy (ltIx s S) (some i) j = some i from if_neg (by rw [e3']; decide)]; exact ⟨rfl, rfl, hil⟩, rfl, rfl⟩) (by exact ⟨rfl, rfl, rfl, rfl, rfl, congrArg some (inc64 (by omega)), trivial⟩) (by exact ⟨rfl, trivial⟩)
 ·have hje : j = S.length := by simp at e1; omega
  subst hje
  rw [hbi] at hbv
  obtain ⟨rfl, rfl, hil⟩ := hbv
  have hw : S[bi]? = some (S.getD bi []) := by rw [List.getD_eq_getElem?_getD, List.getElem?_eq_getElem hil]; rfl
  have hwm : (S.map natI)[bi]? = some (natI (S.getD bi [])) := by rw [List.getElem?_map, hw]; rfl
  obtain ⟨lad, rfl⟩ := hrows.addr (i := bi) (by simpa using hil)
  obtain ⟨xa, xc, hxc, hxs, _⟩ := hrows.row hwm
  rw [natI_len] at hxc
  refine W.vf rfl rfl rfl rfl (Vf.idx1 rfl rfl rfl rfl rfl rfl rfl (hil)) ?_
  refine W.go 99 rfl ?_
  refine W.vf rfl rfl rfl rfl (Vf.load rfl rfl rfl (hl12.cell hxc)) ?_
  refine W.go 99 rfl ?_
  refine W.ret r rfl rfl ?_
  exact ⟨xa, xc, rfl, hxs.le hl12, hle.trans hl12⟩
end Go.Mz


set_option maxRecDepth 100000
namespace Go.Mz
open Go.Conc Go.Proofs
variable {X : Logic Tryz.prog}
theorem shortB_trans (a b c : List Nat) (h1 : shortB a b = true) (h2 : shortB b c = true) : shortB a c = true := by
 unfold shortB at h1 h2 ⊢
 simp only [Bool.or_eq_true, decide_eq_true_eq, Bool.and_eq_true] at h1 h2 ⊢
 rcases h1 with h1 | ⟨e1, h1⟩
 ·rcases h2 with h2 | ⟨e2, h2⟩ <;> exact .inl (by omega)
 ·rcases h2 with h2 | ⟨e2, h2⟩
  ·exact .inl (by omega)
  ·exact .inr ⟨by omega, ltL_trans h1 h2⟩
theorem shortB_irr (a : List Nat) : shortB a a = false := by unfold shortB; rw [ltL_irr]; simp
theorem others_picks (s : Sw) (w : List Nat) : othersW s w ∈ picksW s.wants.length s.wants.length := by
 rw [picksW_mem (Nat.le_refl _)]
 exact ⟨List.Pairwise.filter _ List.pairwise_lt_range, fun i hi => ⟨by omega, List.mem_range.1 (List.mem_filter.1 hi).1⟩⟩
theorem mem_others {s : Sw} {w : List Nat} {i : Nat} : i ∈ othersW s w ↔ i < s.wants.length ∧ i ∉ w := by
 unfold othersW
 rw [List.mem_filter, List.mem_range]
 simp
theorem asc_eq : ∀ {a b : List Nat}, Asc a → Asc b → (∀ i, i ∈ a ↔ i ∈ b) → a = b
 | [], [], _, _, _ => rfl
 | [], y :: b, _, _, h => absurd ((h y).2 List.mem_cons_self) (by simp)
 | x :: a, [], _, _, h => absurd ((h x).1 List.mem_cons_self) (by simp)
 | x :: a, y :: b, ha, hb, h => by
  obtain ⟨a1, a2⟩ := List.pairwise_cons.1 ha
  obtain ⟨b1, b2⟩ := List.pairwise_cons.1 hb
  have hxy : x = y := by
   have h1 := (h x).1 List.mem_cons_self
   have h2 := (h y).2 List.mem_cons_self
   rcases List.mem_cons.1 h1 with e | h1
   ·exact e
   ·rcases List.mem_cons.1 h2 with e | h2
    ·exact e.symm
    ·have := a1 y h2; have := b1 x h1; omega
  subst hxy
  congr 1
  refine asc_eq a2 b2 fun i => ⟨fun hi => ?_, fun hi => ?_⟩
  ·rcases List.mem_cons.1 ((h i).1 (List.mem_cons_of_mem _ hi)) with e | e
   ·have := a1 i hi; omega
   ·exact e
  ·rcases List.mem_cons.1 ((h i).2 (List.mem_cons_of_mem _ hi)) with e | e
   ·have := b1 i hi; omega
   ·exact e
theorem others_others {s : Sw} {w : List Nat} (h : w ∈ picksW s.wants.length s.wants.length) : othersW s (othersW s w) = w := by
 obtain ⟨ha, hw⟩ := picks_wn h
 refine asc_eq (picks_wn (others_picks s _)).1 ha fun i => ?_
 rw [mem_others, mem_others]
 constructor
 ·rintro ⟨h1, h2⟩
  exact Classical.byContradiction fun e => h2 ⟨h1, e⟩
 ·intro hi
  exact ⟨hw i hi, fun h => h.2 hi⟩
def refB (s : Sw) (w : List Nat) : Bool := srvB s (othersW s w)
def ltLen (a b : List Nat) : Bool := decide ((a.length : Int) < (b.length : Int))
def refD (s : Sw) (j : Nat) : Option (List Nat) := firstBy ltLen (((picksW s.wants.length s.wants.length).take j).filter (refB s))
theorem refD_no {s : Sw} {j : Nat} {w : List Nat} (h : (picksW s.wants.length s.wants.length)[j]? = some w) (ho : refB s w = false) : refD s (j + 1) = refD s j := by
 obtain ⟨hj, rfl⟩ := List.getElem?_eq_some_iff.1 h
 unfold refD
 rw [List.take_succ_eq_append_getElem hj, List.filter_append, List.filter_cons_of_neg (by rw [ho]; decide), List.filter_nil, List.append_nil]
theorem refD_yes {s : Sw} {j : Nat} {w : List Nat} (h : (picksW s.wants.length s.wants.length)[j]? = some w) (ho : refB s w = true) : refD s (j + 1) = takeBy ltLen (refD s j) w := by
 obtain ⟨hj, rfl⟩ := List.getElem?_eq_some_iff.1 h
 unfold refD
 rw [List.take_succ_eq_append_getElem hj, List.filter_append, List.filter_cons_of_pos ho, List.filter_nil, firstBy_snoc]
theorem refD_all {s : Sw} (hok : SOk s) : ∃ w, refD s (picksW s.wants.length s.wants.length).length = some w ∧ refusedW s = w := by
 unfold refD
 rw [List.take_length]
 have hne : (picksW s.wants.length s.wants.length).filter (refB s) ≠ [] := fun h => by
  rw [List.filter_eq_nil_iff] at h
  refine h _ (others_picks s []) ?_
  unfold refB srvB
  rw [others_others (nil_picks _ _)]
  obtain ⟨c, hc⟩ := crush_nil hok
  rw [hc]; rfl
 obtain ⟨x, hx⟩ := firstBy_some (lt := ltLen) hne
 refine ⟨x, hx, ?_⟩
 obtain ⟨pre, post, hl, h1, h2⟩ := firstBy_key (f := fun w : List Nat => (w.length : Int)) _ _ hx
 have hsort : (pre ++ x :: post).Pairwise fun a b => ltL a b = true := by rw [← hl]; exact (picksW_sorted _ _).filter _
 have hxm : x ∈ (picksW s.wants.length s.wants.length).filter (refB s) := by rw [hl]; simp
 have hlist : ∀ y, y ∈ ((allW s).filterMap id).map (fun c => othersW s c.w) ↔ y ∈ (picksW s.wants.length s.wants.length).filter (refB s) := fun y => by
  rw [List.mem_map, List.mem_filter]
  constructor
  ·rintro ⟨c, hc, rfl⟩
   obtain ⟨hc1, hc2⟩ := (cand_iff hok c).1 hc
   refine ⟨others_picks s _, ?_⟩
   unfold refB srvB
   rw [others_others hc1, hc2]; rfl
  ·rintro ⟨hy1, hy2⟩
   unfold refB srvB at hy2
   obtain ⟨c, hc⟩ := Option.isSome_iff_exists.1 hy2
   have hcw := (crushW_some hc).1
   exact ⟨c, (cand_iff hok c).2 ⟨by rw [hcw]; exact others_picks s _, by rw [hcw]; exact hc⟩, by rw [hcw]; exact others_others hy1⟩
 have hmin : ∀ y ∈ (picksW s.wants.length s.wants.length).filter (refB s), y ≠ x → shortB x y = true := fun y hy hyx => by
  rw [hl] at hy
  unfold shortB
  simp only [Bool.or_eq_true, decide_eq_true_eq, Bool.and_eq_true]
  rcases List.mem_append.1 hy with hy | hy
  ·exact .inl (by have := h1 y hy; omega)
  ·rcases List.mem_cons.1 hy with e | hy
   ·exact absurd e hyx
   ·have h3 := h2 y hy
    by_cases e : x.length = y.length
    ·exact .inr ⟨e, (List.pairwise_cons.1 (List.pairwise_append.1 hsort).2.1).1 y hy⟩
    ·exact .inl (by omega)
 have hne2 : ((allW s).filterMap id).map (fun c => othersW s c.w) ≠ [] := fun h => by
  have := (hlist x).2 hxm
  rw [h] at this; cases this
 obtain ⟨z, hz⟩ := firstBy_some (lt := shortB) hne2
 obtain ⟨z1, z2⟩ := firstBy_min shortB_trans shortB_irr _ _ hz
 have : z = x := Classical.byContradiction fun e => by
  have h3 := hmin z ((hlist z).1 z1) e
  rw [z2 x ((hlist x).2 hxm)] at h3
  cases h3
 unfold refusedW
 rw [hz]
 exact this
def RefX (o : Option (List Nat)) (v6 : Value) (fd : Bool) (L : LH) : Prop := match o with
 | none => v6 = .slice none 0 0 ∧ fd = false
 | some w => ∃ ad cap, v6 = .slice ad w.length cap ∧ fd = true ∧ IntsAt L ad (natI w)
theorem RefX.le {o : Option (List Nat)} {v6 : Value} {fd : Bool} {L L' : LH} (h : RefX o v6 fd L) (hl : Le L L') : RefX o v6 fd L' := by
 cases o with
 | none => exact h
 | some w => obtain ⟨ad, cap, h1, h2, h3⟩ := h; exact ⟨ad, cap, h1, h2, h3.le hl⟩
def oth (w : List Nat) (k : Nat) : List Nat := (List.range k).filter fun i => !w.contains i
theorem oth_succ (w : List Nat) (k : Nat) : oth w (k + 1) = oth w k ++ if (!w.contains k) = true then [k] else [] := range_filter (fun i => !w.contains i) k
theorem oth_len (w : List Nat) (k : Nat) : (oth w k).length ≤ k := by
 have := List.length_filter_le (fun i => !w.contains i) (List.range k)
 rw [List.length_range] at this
 exact this
theorem rRefused_sp (s : Sw) (p : Wp) (L : LH) (h : SwAt L s p) (hn : Sm s) : Sp X 41 [swA s p] L (fun v L' => ∃ ad cap, v = .tuple #[.slice ad (RefusedE s).1.length cap, .int .i64 (RefusedE s).2] ∧ IntsAt L' ad (natI (RefusedE s).1) ∧ Le L L') := by
 refine Sp.enter (n := 73) Tryz.func41 rfl rfl rfl rfl fun C hX _ hL0 r => ?_
 refine W.go 99 rfl ?_
 refine W.eff rfl rfl rfl (Ef.call rfl (rCheck_sp s p L h hn)) ?_
 rintro _ _ _ ⟨_, rfl, rfl, rfl, rfl⟩
 refine W.go 99 rfl ?_
 refine W.split rfl rfl rfl (fun c1 => W.go 99 rfl ?_) (fun c1 => W.go 99 rfl ?_)
 ·have c1' : sawE s ≠ 0 := by simpa using c1
  have hCE : RefusedE s = ([], sawE s) := by unfold RefusedE; rw [if_pos c1']
  rw [hCE] at r
  refine W.ret r rfl rfl ?_
  exact ⟨none, 0, rfl, SlAt.empty, Le.refl _⟩
 have h0 : sawE s = 0 := by simpa using c1
 have hok := sawE_0 h0
 have hw5 := hok.w5
 obtain ⟨x, hx, hxr⟩ := refD_all hok
 have hCE : RefusedE s = (x, 0) := by unfold RefusedE; rw [if_neg (by simp [h0]), hxr]
 rw [hCE] at r
 have h32 := picks_32 hok
 have hpk := picks_sp (X := C.X) s.wants.length hok.w5 s.wants.length L (Nat.le_refl _)
 rw [Nat.sub_self] at hpk
 refine W.eff rfl rfl rfl (Ef.call rfl (hpk)) ?_
 rintro _ _ _ ⟨v1, rfl, rfl, pa, pc, rfl, hle, hrows⟩
 refine W.go 99 rfl ?_
 rename_i L1
 rw [List.length_map]
 have hmw : ∀ w ∈ picksW s.wants.length s.wants.length, w.length ≤ 5 := fun w hw => picks_5 hok hw
 have hno := fun j w => refD_no (s := s) (j := j) (w := w)
 have hyes := fun j w => refD_yes (s := s) (j := j) (w := w)
 generalize picksW s.wants.length s.wants.length = P at *
 refine W.loop (fun m E B L' => ∃ (j : Nat) (v6 : Value) (fd : Bool), m = P.length - j ∧ j ≤ P.length ∧ Le L1 L' ∧ RefX (refD s j) v6 fd L' ∧
   E = [(1, .p 0 0), (5, .v (.slice pa P.length pc)), (6, .v v6), (7, .lit fd), (8, .v (.int .i64 j))] ∧ B = [some ⟨cellsS (.v (swA s p)), 26⟩])
  ⟨0, _, _, rfl, by omega, Le.refl _, ⟨rfl, rfl⟩, rfl, rfl⟩ (by exact ⟨rfl, rfl, rfl, rfl, rfl, trivial⟩) (by exact ⟨rfl, trivial⟩) ?_
 rintro _ _ _ L2 ⟨j, v6, fd, rfl, hj, hl12, hrx, rfl, rfl⟩ again
 refine W.go 99 rfl ?_
 refine W.split rfl rfl rfl (fun e1 => W.go 99 rfl ?_) (fun e1 => W.go 99 rfl ?_)
 ·have hjl : j < P.length := by simpa using e1
  obtain ⟨w, hw⟩ : ∃ w, P[j]? = some w := ⟨_, List.getElem?_eq_getElem hjl⟩
  have hwl := hmw w (List.mem_of_getElem? hw)
  have hwm : (P.map natI)[j]? = some (natI w) := by rw [List.getElem?_map, hw]; rfl
  obtain ⟨pad, rfl⟩ := hrows.addr (i := j) (by simpa using hjl)
  obtain ⟨xa, xc, hxc, hxs, _⟩ := hrows.row hwm
  rw [natI_len] at hxc
  refine W.loop (fun m E B L' => ∃ (k : Nat) (v : Value), m = s.wants.length - k ∧ k ≤ s.wants.length ∧ Grow L2 1 3 encI L' v (natI (oth w k)) ∧
    E = [(1, .p 0 0), (5, .v (.slice (some pad) P.length pc)), (6, .v v6), (7, .lit fd), (8, .v (.int .i64 j)), (9, .v v), (10, .v (.int .i64 k))] ∧ B = [some ⟨cellsS (.v (swA s p)), 26⟩])
   ⟨0, _, rfl, by omega, Grow.nil (Le.refl _), rfl, rfl⟩ (by exact ⟨rfl, rfl, rfl, rfl, rfl, rfl, rfl, trivial⟩) (by exact ⟨rfl, trivial⟩) ?_
  rintro _ _ _ L3 ⟨k, v, rfl, hk, hg, rfl, rfl⟩ again2
  have hl23 := hg.1
  refine W.go 99 rfl ?_
  refine W.split rfl rfl rfl (fun e2 => W.go 99 rfl ?_) (fun e2 => W.go 99 rfl ?_)
  ·have hkl : k < s.wants.length := by simpa using e2
   have hol := oth_len w k
   refine W.vf rfl rfl rfl rfl (Vf.idx1 rfl rfl rfl rfl rfl rfl rfl (hjl)) ?_
   refine W.go 99 rfl ?_
   refine W.vf rfl rfl rfl rfl (Vf.load rfl rfl rfl ((hl12.trans hl23).cell hxc)) ?_
   refine W.go 99 rfl ?_
   refine W.eff rfl rfl rfl (Ef.call rfl (rHas_sp xa xc w k L3 (hxs.le (hl12.trans hl23)) (by omega))) ?_
   rintro _ _ _ ⟨_, rfl, rfl, rfl, rfl⟩
   refine W.go 99 rfl ?_
   refine W.split rfl rfl rfl (fun e3 => ?_) (fun e3 => ?_)
   ·have e3' : w.contains k = false := by simpa using e3
    obtain ⟨va, vc, rfl, _⟩ := hg.slice
    refine W.go 99 rfl ?_
    refine W.eff rfl rfl rfl (Ef.grow rfl rfl rfl rfl rfl rfl rfl rfl rfl encI_len encI_sg hg (ls := [(k : Int)]) (.own rfl rfl rfl rfl) (by rw [natI_len]; simp; omega)) ?_
    rintro _ _ _ ⟨v5, rfl, rfl, hg5, _⟩
    rw [← natI_snoc] at hg5
    refine W.go 99 rfl ?_
    exact W.again (again2 _ _ _ _ (by omega) ⟨k + 1, v5, rfl, by omega, by rw [oth_succ, if_pos (by rw [e3']; rfl)]; exact hg5, rfl, rfl⟩) (by exact ⟨rfl, rfl, rfl, rfl, rfl, rfl, congrArg some (inc64 (by omega)), trivial⟩) (by exact ⟨rfl, trivial⟩)
   ·have e3' : w.contains k = true := by simpa using e3
    refine W.go 99 rfl ?_
    exact W.again (again2 _ _ _ _ (by omega) ⟨k + 1, v, rfl, by omega, by rw [oth_succ, if_neg (by rw [e3']; decide), List.append_nil]; exact hg, rfl, rfl⟩) (by exact ⟨rfl, rfl, rfl, rfl, rfl, rfl, congrArg some (inc64 (by omega)), trivial⟩) (by exact ⟨rfl, trivial⟩)
  have hke : k = s.wants.length := by simp at e2; omega
  subst hke
  clear again2
  obtain ⟨va, vc, rfl, _⟩ := hg.slice
  have hos := (hg.at encI_len).2
  have hoe : oth w s.wants.length = othersW s w := rfl
  rw [hoe] at hos ⊢
  have hol : (othersW s w).length ≤ 5 := by have := oth_len w s.wants.length; rw [hoe] at this; omega
  have hown : WnOk s (othersW s w) := fun i hi => (mem_others.1 hi).1
  have hcr := rCrush_sp (X := C.X) s p va vc (othersW s w) L3 (h.le (hle.trans (hl12.trans hl23))) hok hos hown (by omega)
  rw [natI_len]
  cases hc : crushW s (othersW s w) with
  | none =>
   rw [hc] at hcr
   have hrb : refB s w = false := by unfold refB srvB; rw [hc]; rfl
   refine W.eff rfl rfl rfl (Ef.call rfl (hcr)) ?_
   rintro _ _ _ ⟨v3, rfl, rfl, hl34, rfl⟩
   refine W.go 99 rfl ?_
   have hl14 := (hl12.trans hl23).trans hl34
   refine W.split rfl rfl rfl (fun e => absurd e (by decide)) (fun _ => ?_)
   refine W.go 99 rfl ?_
   exact W.again (again _ _ _ _ (by omega) ⟨j + 1, v6, fd, rfl, by omega, hl14, by rw [hno j w hw hrb]; exact hrx.le (hl23.trans hl34), rfl, rfl⟩) (by exact ⟨rfl, rfl, rfl, rfl, congrArg some (inc64 (by omega)), trivial⟩) (by exact ⟨rfl, trivial⟩)
  | some c =>
   rw [hc] at hcr
   have hrb : refB s w = true := by unfold refB srvB; rw [hc]; rfl
   refine W.eff rfl rfl rfl (Ef.call rfl (hcr)) ?_
   rintro _ _ _ ⟨v3, rfl, rfl, hl34, ca, cc, rfl, _, hc0⟩
   refine W.go 99 rfl ?_
   have hl14 := (hl12.trans hl23).trans hl34
   have hrx := hrx.le (hl23.trans hl34)
   have hstep := hyes j w hw hrb
   refine W.split rfl rfl rfl (fun _ => ?_) (fun e => absurd e (by simp; omega))
   cases ho : refD s j with
   | none =>
    rw [ho] at hrx hstep
    obtain ⟨rfl, rfl⟩ := hrx
    refine W.go 99 rfl ?_
    refine W.vf rfl rfl rfl rfl (Vf.idx1 rfl rfl rfl rfl rfl rfl rfl (hjl)) ?_
    refine W.go 99 rfl ?_
    refine W.vf rfl rfl rfl rfl (Vf.load rfl rfl rfl (hl14.cell hxc)) ?_
    refine W.go 99 rfl ?_
    exact W.again (again _ _ _ _ (by omega) ⟨j + 1, _, true, rfl, by omega, hl14, by rw [hstep]; exact ⟨xa, xc, rfl, rfl, hxs.le hl14⟩, rfl, rfl⟩) (by exact ⟨rfl, rfl, rfl, rfl, congrArg some (inc64 (by omega)), trivial⟩) (by exact ⟨rfl, trivial⟩)
   | some y =>
    rw [ho] at hrx hstep
    obtain ⟨ya, yc, rfl, rfl, hyi⟩ := hrx
    refine W.go 99 rfl ?_
    refine W.vf rfl rfl rfl rfl (Vf.idx1 rfl rfl rfl rfl rfl rfl rfl (hjl)) ?_
    refine W.go 99 rfl ?_
    refine W.vf rfl rfl rfl rfl (Vf.load rfl rfl rfl (hl14.cell hxc)) ?_
    refine W.go 99 rfl ?_
    refine W.split rfl rfl rfl (fun e4 => ?_) (fun e4 => ?_)
    ·have hlt : ltLen w y = true := e4
     refine W.go 99 rfl ?_
     refine W.vf rfl rfl rfl rfl (Vf.idx1 rfl rfl rfl rfl rfl rfl rfl (hjl)) ?_
     refine W.go 99 rfl ?_
     refine W.vf rfl rfl rfl rfl (Vf.load rfl rfl rfl (hl14.cell hxc)) ?_
     refine W.go 99 rfl ?_
     exact W.again (again _ _ _ _ (by omega) ⟨j + 1, _, true, rfl, by omega, hl14, by rw [hstep, show takeBy ltLen (some y) w = some w from if_pos hlt]; exact ⟨xa, xc, rfl, rfl, hxs.le hl14⟩, rfl, rfl⟩) (by exact ⟨rfl, rfl, rfl, rfl, congrArg some (inc64 (by omega)), trivial⟩) (by exact ⟨rfl, trivial⟩)
    ·have hlt : ltLen w y = false := e4
     refine W.go 99 rfl ?_
     exact W.again (again _ _ _ _ (by omega) ⟨j + 1, _, true, rfl, by omega, hl14, by rw [hstep, show takeBy ltLen (some y) w = some y from if_neg (by rw [hlt]; decide)]; exact ⟨ya, yc, rfl, rfl, hyi⟩, rfl, rfl⟩) (by exact ⟨rfl, rfl, rfl, rfl, congrArg some (inc64 (by omega)), trivial⟩) (by exact ⟨rfl, trivial⟩)
 ·have hje : j = P.length := by simp at e1; omega
  subst hje
  rw [hx] at hrx
  obtain ⟨ad, cap, rfl, _, hi⟩ := hrx
  refine W.ret r rfl rfl ?_
  exact ⟨ad, cap, rfl, hi, hle.trans hl12⟩
end Go.Mz


set_option maxRecDepth 100000
namespace Go.Mz
open Go.Conc Go.Proofs
variable {Post : Value → World → Prop} {W0 : World}
theorem best_len {s : Sw} (hok : SOk s) (so : List Nat → Bool) : (crWants (bestW s so)).length ≤ 5 := by
 cases hb : bestW s so with
 | none => exact Nat.zero_le _
 | some c =>
  have h1 := (List.mem_filter.1 (firstBy_mem hb)).1
  exact picks_5 hok ((cand_iff hok c).1 h1).1
theorem BestE_len {s : Sw} : (BestE s).1.length ≤ 5 := by
 unfold BestE
 split
 ·exact Nat.zero_le _
 ·rename_i h; exact best_len (sawE_0 (by simpa using h)) _
theorem RefusedE_len {s : Sw} : (RefusedE s).1.length ≤ 5 := by
 unfold RefusedE
 split
 ·exact Nat.zero_le _
 ·rename_i h
  have hok := sawE_0 (by simpa using h)
  obtain ⟨x, hx, hxr⟩ := refD_all hok
  rw [show ((refusedW s, (0 : Int))).1 = refusedW s from rfl, hxr]
  exact picks_5 hok (List.mem_of_mem_take (List.mem_filter.1 (firstBy_mem hx)).1)
theorem BsF_run (s : Sw) (p : Wp) (x : Want) (na : Option Addr) (nc : Nat) (nums : List Int) (L : LH) (hst : SwAt L s p) (hn : IntsAt L na nums) (hgl : GlOk L) (hl2 : nums.length ≤ 140737488355328)
    (hQ : ∀ v L' w, (v = .bool true ∧ Dim L L') → Sub L' w → Same W0 w → Post v w) :
    FGo Tryz.prog Post W0 (G (Frame.enter Tryz.prog 5 [swA s p, .agg (encWt x).toArray, .slice na nums.length nc].toArray .normal) []) L := by
  refine root_enter (n := 102) (s := 6) Tryz.func5 rfl rfl (by kernel_rfl) rfl rfl hQ fun C hX _ hL0 r => ?_
  refine W.go 99 rfl ?_
  refine W.eff rfl rfl rfl (Ef.call rfl (long_sp s p L hst)) ?_
  rintro _ _ _ ⟨_, rfl, rfl, rfl, rfl⟩
  refine W.go 99 rfl ?_
  have drd : ∀ L2, GlOk L2 → Sp C.X 21 [] L2 (fun v L' => v = .bool true ∧ Dim L2 L') := fun L2 h => by rw [hX]; exact cut_sp L2 h
  refine W.split rfl rfl rfl (fun e1 => W.go 99 rfl ?_) (fun e1 => W.go 99 rfl ?_)
  · refine W.eff rfl rfl rfl (Ef.call rfl (drd L hgl)) ?_
    rintro _ _ _ ⟨_, rfl, rfl, rfl, hdm⟩
    refine W.go 99 rfl ?_
    refine W.retO r rfl ⟨rfl, hdm⟩
  have hsm := long_no e1
  refine W.drawn (by kernel_rfl) noL (noL_le _) ?_
  refine DD.run' [0, 1, 2] rfl ?_
  refine DD.act 3 rfl rfl rfl rfl rfl (Ef.call rfl ((NewHat_sp na nc nums L hn))) ((by rintro _ _ _ ⟨_, rfl, rfl, _, rfl, _⟩; exact ⟨noL_le _, rfl, .inl rfl⟩)) ?_
  rintro _ _ _ ⟨_, rfl, rfl, b, rfl, hb, hle1, hh1⟩
  rename_i L1
  have hb1 := le_but hb hle1
  refine DD.act 4 rfl rfl rfl rfl rfl (Ef.call rfl ((several_sp s p x b na nc nums 0 L1 (hst.le hb1) hsm hh1 (by omega) hl2))) ((by rintro _ _ _ ⟨_, rfl, rfl, _, _, _, _, _, rfl, _⟩; exact ⟨noL_le _, rfl, .inl rfl⟩)) ?_
  rintro _ _ _ ⟨_, rfl, rfl, own, p1, p2, ba, m, rfl, ho, hm, hh2, hle2, hsev⟩
  refine DD.run' [5] rfl ?_
  refine .fin rfl ?_
  refine W.go 99 rfl ?_
  rename_i L8
  have hgl8 := hgl.le (hb1.trans ((but_but hle2).trans (but_le _ _)))
  have hL8 : Le L L8 := hb1.trans ((but_but hle2).trans (but_le _ _))
  have hsev := hsev.le (but_le _ _)
  generalize hSs : [(s, p), (own, p1), (({ own with wants := own.wants ++ [x] } : Sw), p2)] = Ss at hsev
  have nS : Ss.length = 3 := by rw [← hSs]; rfl
  refine W.loop (fun w E B L' => ∃ k : Nat, w = 3 - k ∧ k ≤ 3 ∧ Dim L8 L' ∧ E = [(7, .v (.slice (some ⟨ba, 0, none⟩) 3 3)), (8, .v (.int .i64 k))] ∧ B = [])
    ⟨0, rfl, by omega, Dim.refl _, rfl, rfl⟩ (by exact ⟨rfl, rfl, trivial⟩) (by exact trivial) ?_
  rintro _ _ _ L9 ⟨k, rfl, hk, hd9, rfl, rfl⟩ again
  have hsv9 := hsev.dim hd9
  refine W.go 99 rfl ?_
  refine W.split rfl rfl rfl (fun e3 => W.go 99 rfl ?_) (fun e3 => W.go 99 rfl ?_)
  · have hk3 : k < 3 := by have : (k : Int) < 3 := by simpa using e3
                           omega
    obtain ⟨⟨sk, pk⟩, hx⟩ : ∃ x, Ss[k]? = some x := ⟨_, List.getElem?_eq_getElem (by omega)⟩
    obtain ⟨hsk, hskm⟩ := hsv9.so _ (List.mem_of_getElem? hx)
    dsimp only at hsk hskm
    refine W.vf rfl rfl rfl rfl (Vf.idx rfl rfl rfl rfl rfl rfl (hk3)) ?_
    refine W.go 99 rfl ?_
    refine W.vf rfl rfl rfl rfl (Vf.loadN rfl rfl rfl (hsv9.ss.whole hx rfl)) ?_
    refine W.go 99 rfl ?_
    refine W.eff rfl rfl rfl (Ef.call rfl (DupSaw_sp sk pk L9 hsk hskm)) ?_
    rintro _ _ _ ⟨v9, rfl, rfl, p9, I9, hd9'⟩
    obtain ⟨hst10, hl10⟩ := hd9'.at_
    have hv9 := hd9'.v
    subst hv9
    rename_i L10
    refine W.go 99 rfl ?_
    have hf := Best_sp (Post := Post) (W0 := W0) sk p9 L10 hst10 hskm
    rw [← hX] at hf
    refine W.eff rfl rfl rfl (Ef.call rfl (hf)) ?_
    rintro _ _ _ ⟨v11, rfl, rfl, a1, q1, rfl, hi1, hd11⟩
    refine W.go 99 rfl ?_
    rename_i L11
    have hsv11 := hsv9.dim ((Dim.of_le hl10).trans hd11)
    refine W.vf rfl rfl rfl rfl (Vf.idx rfl rfl rfl rfl rfl rfl (hk3)) ?_
    refine W.go 99 rfl ?_
    refine W.vf rfl rfl rfl rfl (Vf.loadN rfl rfl rfl (hsv11.ss.whole hx rfl)) ?_
    refine W.go 99 rfl ?_
    refine W.eff rfl rfl rfl (Ef.call rfl (rBest_sp sk pk L11 (hsv11.so _ (List.mem_of_getElem? hx)).1 hskm)) ?_
    rintro _ _ _ ⟨v12, rfl, rfl, a2, q2, rfl, hi2, hl12⟩
    refine W.go 99 rfl ?_
    rename_i L12
    have hd1012 := hd11.trans (Dim.of_le hl12)
    have hf := Refused_sp (Post := Post) (W0 := W0) sk p9 L12 (hd1012.sw hst10) hskm
    rw [← hX] at hf
    refine W.eff rfl rfl rfl (Ef.call rfl (hf)) ?_
    rintro _ _ _ ⟨v13, rfl, rfl, a3, q3, rfl, hi3, hd13⟩
    refine W.go 99 rfl ?_
    rename_i L13
    have hd1013 := hd1012.trans hd13
    have hsv13 := hsv9.dim ((Dim.of_le hl10).trans hd1013)
    refine W.vf rfl rfl rfl rfl (Vf.idx rfl rfl rfl rfl rfl rfl (hk3)) ?_
    refine W.go 99 rfl ?_
    refine W.vf rfl rfl rfl rfl (Vf.loadN rfl rfl rfl (hsv13.ss.whole hx rfl)) ?_
    refine W.go 99 rfl ?_
    refine W.eff rfl rfl rfl (Ef.call rfl (rRefused_sp sk pk L13 (hsv13.so _ (List.mem_of_getElem? hx)).1 hskm)) ?_
    rintro _ _ _ ⟨v14, rfl, rfl, a4, q4, rfl, hi4, hl14⟩
    refine W.go 99 rfl ?_
    rename_i L14
    have hd1014 := hd1013.trans (Dim.of_le hl14)
    have hsv14 := hsv9.dim ((Dim.of_le hl10).trans hd1014)
    have hi1' := ((Dim.of_le hl12).trans (hd13.trans (Dim.of_le hl14))).sl hi1
    have hi2' := (hd13.trans (Dim.of_le hl14)).sl hi2
    have hi3' := (Dim.of_le hl14).sl hi3
    have nb : (natI (BestE sk).1).length ≤ 1000000 := by rw [natI_len]; have := BestE_len (s := sk); omega
    have nr : (natI (RefusedE sk).1).length ≤ 1000000 := by rw [natI_len]; have := RefusedE_len (s := sk); omega
    have he1 := EqInts_sp (X := C.X) a1 a2 q1 q2 (natI (BestE sk).1) (natI (BestE sk).1) L14 hi1' hi2' nb nb
    have he2 := EqInts_sp (X := C.X) a3 a4 q3 q4 (natI (RefusedE sk).1) (natI (RefusedE sk).1) L14 hi3' hi4 nr nr
    rw [natI_len, decide_eq_true rfl] at he1 he2
    refine W.drawn (by kernel_rfl) _ (Le.refl _) ?_
    refine DD.run' [0, 1, 2, 3] rfl ?_
    rw [bne_self_eq_false]
    refine DD.split 70 rfl (fun c => absurd c (by decide)) (fun _ => ?_)
    refine DD.run' [4, 5, 6, 7, 8] rfl ?_
    rw [bne_self_eq_false]
    refine DD.split 75 rfl (fun c => absurd c (by decide)) (fun _ => ?_)
    refine DD.run' [9, 10, 11, 12, 13] rfl ?_
    rw [bne_self_eq_false]
    refine DD.split 80 rfl (fun c => absurd c (by decide)) (fun _ => ?_)
    refine DD.run' [14, 15] rfl ?_
    refine DD.act 16 rfl rfl rfl rfl rfl (Ef.call rfl (he1)) (by rintro _ _ _ ⟨_, rfl, rfl, rfl, rfl⟩; exact ⟨Le.refl _, rfl, .inl rfl⟩) ?_
    rintro _ _ _ ⟨_, rfl, rfl, rfl, rfl⟩
    refine DD.run' [17, 18, 19] rfl ?_
    refine DD.split 86 rfl (fun c => absurd c (by simp)) (fun _ => ?_)
    refine DD.run' [20, 21] rfl ?_
    refine DD.act 22 rfl rfl rfl rfl rfl (Ef.call rfl (he2)) (by rintro _ _ _ ⟨_, rfl, rfl, rfl, rfl⟩; exact ⟨Le.refl _, rfl, .inl rfl⟩) ?_
    rintro _ _ _ ⟨_, rfl, rfl, rfl, rfl⟩
    refine DD.run' [23, 24, 25] rfl ?_
    refine DD.split 92 rfl (fun c => absurd c (by simp)) (fun _ => ?_)
    refine DD.run' [26, 27, 28] rfl ?_
    refine DD.vf 29 rfl rfl rfl rfl rfl (Vf.idx rfl rfl rfl rfl rfl rfl (hk3)) ?_
    refine DD.vf 30 rfl rfl rfl rfl rfl (Vf.loadN rfl rfl rfl (hsv14.ss.whole hx rfl)) ?_
    refine DD.act 31 rfl rfl rfl rfl rfl (Ef.call rfl (EqSaws_sp sk p9 pk L14 (hd1014.sw hst10) (hsv14.so _ (List.mem_of_getElem? hx)).1 hskm)) (by rintro _ _ _ ⟨_, rfl, rfl, rfl, rfl⟩; exact ⟨Le.refl _, rfl, .inl rfl⟩) ?_
    rintro _ _ _ ⟨_, rfl, rfl, rfl, rfl⟩
    refine DD.run' [32, 33] rfl ?_
    refine .fin rfl ?_
    refine W.go 99 rfl ?_
    refine W.split rfl rfl rfl (fun h => absurd h (by simp)) (fun _ => ?_)
    refine W.go 99 rfl ?_
    exact W.again (again _ _ _ _ (by omega) ⟨k + 1, rfl, by omega, hd9.trans ((Dim.of_le hl10).trans hd1014), rfl, rfl⟩) (by exact ⟨rfl, congrArg some (inc64 (by omega)), trivial⟩) (by exact trivial)
  · have hk3 : k = 3 := by simp at e3; omega
    refine W.eff rfl rfl rfl (Ef.call rfl (drd _ (hd9.cell hgl8))) ?_
    rintro _ _ _ ⟨v20, rfl, rfl, rfl, hdm⟩
    refine W.go 99 rfl ?_
    exact W.retO r rfl ⟨rfl, ((Dim.of_le hL8).trans hd9).trans hdm⟩
end Go.Mz

