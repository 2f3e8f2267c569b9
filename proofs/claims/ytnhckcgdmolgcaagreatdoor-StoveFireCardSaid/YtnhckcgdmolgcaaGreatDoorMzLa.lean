/- Lemmas on which the claim leans. -/
import Derived.Test.YtnhckcgdmolgcaaGreatDoorMzAv
set_option maxRecDepth 100000
namespace Go.Mz
open Go Go.Conc Go.Proofs
def plansG (s : St) (hs : List Int) (each : Bool) (b : List Stand) : List (List Stand) := if fitsS s hs b then grow (fitsS s hs) ((optsS s hs allC each).drop b.length) b else []
section
variable {s : St} {hs : List Int} {each : Bool} {b : List Stand}
end
def heatsG (s : St) (b : List Int) : List (List Int) := (heatsAll s.top s.rise (s.days.toNat - b.length) (b.getLast?.getD s.now)).map (b ++ ·)
section
variable {s : St} {b : List Int}
end
def fireStep (s : St) (b : Option (List Int)) (x : List Int) : Option (List Int) := if canS s x then takeLess sumL b x else b
theorem heatsAll_mem {top rise : Int} : ∀ {n : Nat} {b : Int} {l : List Int}, l ∈ heatsAll top rise n b → l.length = n ∧ ∀ x ∈ l, 0 ≤ x ∧ x ≤ top
 | 0, b, l, h => by
  simp only [heatsAll, List.mem_singleton] at h
  subst h
  exact ⟨rfl, fun x hx => by cases hx⟩
 | n + 1, b, l, h => by
  simp only [heatsAll, List.mem_flatMap, List.mem_map, List.mem_range] at h
  obtain ⟨y, hy, t, ht, rfl⟩ := h
  obtain ⟨h1, h2⟩ := heatsAll_mem ht
  refine ⟨by simp [h1], fun x hx => ?_⟩
  rcases List.mem_cons.1 hx with rfl | hx
  ·omega
  ·exact h2 x hx
end Go.Mz


set_option maxRecDepth 100000
namespace Go.Mz
open Go
theorem fireE_len (s : St) : (FireE s).1.length ≤ 4 := by
 unfold FireE
 split
 ·simp
 ·rename_i h0
  have hok := ok_iff.1 (by simpa using h0)
  cases hf : fireS s with
  | none => simp
  | some l =>
   have hm := firstMin_mem hf
   obtain ⟨h1, _⟩ := heatsAll_mem (List.mem_filter.1 hm).1
   have := hok.d4
   simp only; omega
theorem fireE_none {s : St} (h : Ok s) (hf : fireS s = none) : FireE s = ([], 0, 11) := by unfold FireE; rw [if_neg (by rw [ok_iff.2 h]; simp), hf]
theorem fireE_some {s : St} {l : List Int} (h : Ok s) (hf : fireS s = some l) : FireE s = (l, sumL l, 0) := by unfold FireE; rw [if_neg (by rw [ok_iff.2 h]; simp), hf]
theorem daysE_none {s : St} (h : Ok s) (hd : daysS s = none) : DaysE s = (0, 11) := by unfold DaysE; rw [if_neg (by rw [ok_iff.2 h]; simp), hd]
theorem daysE_some {s : St} {n : Nat} (h : Ok s) (hd : daysS s = some n) : DaysE s = ((n : Int), 0) := by unfold DaysE; rw [if_neg (by rw [ok_iff.2 h]; simp), hd]
end Go.Mz


namespace Go.Mz
open Go
theorem mem_grow {fit : List Stand → Bool} : ∀ {os : List (List Stand)} {b x : List Stand}, x ∈ grow fit os b ↔ ∃ t, x = b ++ t ∧ t.length = os.length ∧ (∀ (i : Nat) (o : List Stand) (a : Stand), os[i]? = some o → t[i]? = some a → a ∈ o) ∧ ∀ i, i < t.length → fit (b ++ t.take (i + 1)) = true
 | [], b, x => by
  simp only [grow, List.mem_singleton]
  constructor
  ·rintro rfl; exact ⟨[], by simp, rfl, fun i o a h => by simp at h, fun i h => by simp at h⟩
  ·rintro ⟨t, rfl, h, _⟩
   obtain rfl := List.length_eq_zero_iff.1 h
   simp
 | o :: os, b, x => by
  simp only [grow, List.mem_flatMap]
  constructor
  ·rintro ⟨a, ha, hx⟩
   by_cases hf : fit (b ++ [a]) = true
   ·rw [if_pos hf] at hx
    obtain ⟨t, rfl, h1, h2, h3⟩ := mem_grow.1 hx
    refine ⟨a :: t, by simp, by simp [h1], fun i o' a' ho ha' => ?_, fun i hi => ?_⟩
    ·cases i with
     | zero => simp at ho ha'; subst ho; subst ha'; exact ha
     | succ i => exact h2 i o' a' (by simpa using ho) (by simpa using ha')
    ·cases i with
     | zero => simpa using hf
     | succ i => have := h3 i (by simpa using hi); simpa using this
   ·rw [if_neg hf] at hx; cases hx
  ·rintro ⟨t, rfl, h1, h2, h3⟩
   cases t with
   | nil => simp at h1
   | cons a t =>
    have hf : fit (b ++ [a]) = true := by have := h3 0 (by simp); simpa using this
    refine ⟨a, h2 0 o a rfl rfl, ?_⟩
    rw [if_pos hf]
    refine mem_grow.2 ⟨t, by simp, by simpa using h1, fun i o' a' ho ha' => h2 (i + 1) o' a' (by simpa using ho) (by simpa using ha'), fun i hi => ?_⟩
    have := h3 (i + 1) (by simpa using hi)
    simpa using this
theorem filter_le {α : Type} {p q : α → Bool} {l : List α} (h : ∀ x ∈ l, p x = true → q x = true) : (l.filter p).length ≤ (l.filter q).length := by
 rw [← List.countP_eq_length_filter, ← List.countP_eq_length_filter]
 exact List.countP_mono_left h
theorem fits_iff {s : St} {hs : List Int} {l : List Stand} : fitsS s hs l = true ↔ ∀ k, k < s.shelves.length → ∀ d, d < s.days.toNat → ((onS s hs l k d).length : Int) ≤ roomOf s k := by
 unfold fitsS
 simp only [List.all_eq_true, List.mem_range, decide_eq_true_eq]
theorem on_mono {s : St} {hs : List Int} {l m : List Stand} {k d : Nat} : (onS s hs l k d).length ≤ (onS s hs (l ++ m) k d).length := by
 unfold onS
 refine filter_le fun i _ h => ?_
 unfold onB at h ⊢
 cases hl : l[i]? with
 | none => rw [hl] at h; cases h
 | some a =>
  have : (l ++ m)[i]? = some a := by rw [List.getElem?_append_left (List.getElem?_eq_some_iff.1 hl).1]; exact hl
  rw [hl] at h
  rw [this]
  exact h
theorem fits_pre {s : St} {hs : List Int} {l m : List Stand} (h : fitsS s hs (l ++ m) = true) : fitsS s hs l = true := by
 rw [fits_iff] at h ⊢
 intro k hk d hd
 have h1 := h k hk d hd
 have h2 := on_mono (s := s) (hs := hs) (l := l) (m := m) (k := k) (d := d)
 omega
theorem mem_plans {s : St} (h : Ok s) {hs : List Int} {so : Nat → Bool} {each : Bool} {x : List Stand} :
  x ∈ plansS s hs so each ↔ x.length = s.cones.length ∧ (∀ (i : Nat) (c : Cone) (a : Stand), s.cones[i]? = some c → x[i]? = some a → a ∈ optS s hs (so i) each c) ∧ fitsS s hs x = true := by
 unfold plansS
 rw [mem_grow]
 constructor
 ·rintro ⟨t, ht, h1, h2, h3⟩
  have ht : x = t := by simpa using ht
  subst ht
  rw [opts_len] at h1
  refine ⟨h1, fun i c a hc ha => h2 i _ a (opts_get hc) ha, ?_⟩
  cases ht : x.length with
  | zero =>
   obtain rfl := List.length_eq_zero_iff.1 ht
   exact fits_nil h hs
  | succ m =>
   have := h3 m (by omega)
   rw [List.take_of_length_le (by omega)] at this
   exact this
 ·rintro ⟨h1, h2, h3⟩
  refine ⟨x, rfl, by rw [opts_len]; exact h1, fun i o a ho ha => ?_, fun i hi => ?_⟩
  ·have hi : i < s.cones.length := by
    have := (List.getElem?_eq_some_iff.1 ho).1
    rw [opts_len] at this; exact this
   have hc : s.cones[i]? = some s.cones[i] := List.getElem?_eq_getElem hi
   rw [opts_get hc] at ho
   cases ho
   exact h2 i _ a hc ha
  ·refine fits_pre (m := x.drop (i + 1)) ?_
   rw [List.nil_append, List.take_append_drop]
   exact h3
theorem most_mem {s : St} (h : Ok s) (hs : List Int) : mostS s hs ∈ plansS s hs allC false := by
 obtain ⟨y, hy⟩ := firstMin_some (f := fun p => - cnt p) (plans_ne h hs allC)
 unfold mostS
 rw [hy]
 exact firstMin_mem hy
theorem most_max {s : St} (h : Ok s) {hs : List Int} {x : List Stand} (hx : x ∈ plansS s hs allC false) : cnt x ≤ cnt (mostS s hs) := by
 obtain ⟨y, hy⟩ := firstMin_some (f := fun p => - cnt p) (plans_ne h hs allC)
 have := firstMin_le hy x hx
 unfold mostS
 rw [hy]
 simp only [Option.getD_some]
 omega
end Go.Mz


namespace Go.Mz
open Go
def onlyS (s : St) (l : List Nat) : St := { s with cones := l.filterMap fun i => s.cones[i]? }
section
variable {s : St} {hs : List Int}
end
end Go.Mz


set_option maxRecDepth 100000
namespace Go.Mz
open Go
section
variable {s : St} {hs : List Int}
theorem openE_e (h : Ok s) : openE s hs [] [] = heatsE s hs := by
 unfold openE
 rw [ok_iff.2 h]
 by_cases hh : heatsE s hs = 0
 ·rw [hh]; simp [firstE]
 ·simp [firstE, hh]
theorem openE_0 (h : Ok s) (hh : heatsE s hs = 0) : openE s hs [] [] = 0 := by rw [openE_e h, hh]
theorem allE_can (h : Ok s) (hh : heatsE s hs = 0) : (AllE s hs).2 = if canS s hs then 0 else 11 := by
 unfold AllE
 rw [if_neg (by rw [openE_0 h hh]; simp)]
 unfold allS canS
 cases plansS s hs allC true with
 | nil => rfl
 | cons x t => rfl
theorem allE_bad (h : Ok s) (hh : heatsE s hs ≠ 0) : (AllE s hs).2 = heatsE s hs := by
 unfold AllE
 rw [openE_e h, if_pos hh]
theorem heatsGo_bad {top rise : Int} : ∀ {l : List Int} {b : Int}, (∀ x ∈ l, 0 ≤ x ∧ x ≤ top) → heatsGo top rise b l = 0 ∨ heatsGo top rise b l = 12
 | [], _, _ => .inl rfl
 | x :: l, b, h => by
  have hx := h x (List.mem_cons_self ..)
  unfold heatsGo
  rw [if_neg (by simp only [Bool.not_eq_true', Bool.not_eq_false, inB_iff]; exact hx)]
  split
  ·exact .inr rfl
  ·exact heatsGo_bad fun y hy => h y (List.mem_cons_of_mem _ hy)
theorem heatsE_bad {l : List Int} (hl : (l.length : Int) = s.days) (h : ∀ x ∈ l, 0 ≤ x ∧ x ≤ s.top) : heatsE s l = 0 ∨ heatsE s l = 12 := by
 unfold heatsE
 rw [if_neg (by simp only [ne_eq, Decidable.not_not, sizedE_0]; omega)]
 exact heatsGo_bad h
theorem all_ans (h : Ok s) {l : List Int} (hl : (l.length : Int) = s.days) (hr : ∀ x ∈ l, 0 ≤ x ∧ x ≤ s.top) :
  ((AllE s l).2 = 0 ∧ heatsE s l = 0 ∧ canS s l = true) ∨ ((AllE s l).2 = 11 ∧ heatsE s l = 0 ∧ canS s l = false) ∨ ((AllE s l).2 = 12 ∧ heatsE s l = 12) := by
 rcases heatsE_bad hl hr with e | e
 ·have := allE_can h e
  cases hc : canS s l with
  | true => rw [hc] at this; exact .inl ⟨this, e, rfl⟩
  | false => rw [hc] at this; exact .inr (.inl ⟨this, e, rfl⟩)
 ·have := allE_bad h (hs := l) (by rw [e]; simp)
  exact .inr (.inr ⟨this.trans e, e⟩)
end
end Go.Mz


set_option maxRecDepth 100000
namespace Go.Mz
open Go
section
variable {s : St} {hs : List Int}
end
def pickL (n : Nat) : Nat → Nat → List (List Nat)
 | 0, _ => [[]]
 | m + 1, first => (List.range' first (n - first)).flatMap fun i => (pickL n m (i + 1)).map (i :: ·)
end Go.Mz


namespace Go.Mz
open Go
structure Harder (c c' : Cone) : Prop where
 cold : c.cold ≤ c'.cold
 jump : c.jump ≤ c'.jump
 most : c.most ≤ c'.most
 wet : c'.wet ≤ c.wet
theorem Harder.refl (c : Cone) : Harder c c := ⟨Int.le_refl _, Int.le_refl _, Int.le_refl _, Int.le_refl _⟩
structure Wider (s s' : St) : Prop where
 sh : s'.shelves.length = s.shelves.length
 lift : ∀ k, liftOf s' k = liftOf s k
 room : ∀ k, k < s.shelves.length → roomOf s k ≤ roomOf s' k
 days : s'.days = s.days
 len : s'.cones.length = s.cones.length
 co : ∀ (i : Nat) c c', s.cones[i]? = some c → s'.cones[i]? = some c' → Harder c c'
theorem opt_dry {s : St} {hs : List Int} {so each : Bool} {c : Cone} {a : Stand} (h : a ∈ optS s hs so each c) : a = none1 ∨ (a ∈ grid s ∧ (fateS s hs c a).1 = 0) := by
 unfold optS at h
 rcases List.mem_append.1 h with h | h
 ·left
  split at h
  ·exact List.mem_singleton.1 h
  ·cases h
 ·right
  split at h
  ·have := List.mem_filter.1 h; exact ⟨this.1, by simpa using this.2⟩
  ·cases h
end Go.Mz


namespace Go.Mz
open Go
structure Renum (s s' : St) (σ : Nat → Nat) : Prop where
 sh : s'.shelves.length = s.shelves.length
 rng : ∀ k, k < s.shelves.length → σ k < s.shelves.length
 inj : ∀ j k, j < s.shelves.length → k < s.shelves.length → σ j = σ k → j = k
 sur : ∀ k, k < s.shelves.length → ∃ j, j < s.shelves.length ∧ σ j = k
 get : ∀ k, k < s.shelves.length → s'.shelves[σ k]? = s.shelves[k]?
 days : s'.days = s.days
 cones : s'.cones = s.cones
def mapSt (σ : Nat → Nat) (a : Stand) : Stand := if a.shelf < 0 then a else ⟨(σ a.shelf.toNat : Nat), a.day⟩
theorem map_none (σ : Nat → Nat) : mapSt σ none1 = none1 := rfl
theorem mem_grid {s : St} {a : Stand} : a ∈ grid s ↔ ∃ k d : Nat, k < s.shelves.length ∧ d < s.days.toNat ∧ a = ⟨k, d⟩ := by
 unfold grid
 simp only [List.mem_flatMap, List.mem_map, List.mem_range]
 constructor
 ·rintro ⟨k, hk, d, hd, rfl⟩; exact ⟨k, d, hk, hd, rfl⟩
 ·rintro ⟨k, d, hk, hd, rfl⟩; exact ⟨k, hk, d, hd, rfl⟩
theorem map_grid (σ : Nat → Nat) (k d : Nat) : mapSt σ ⟨k, d⟩ = ⟨(σ k : Nat), d⟩ := by
 unfold mapSt
 rw [if_neg (by simp only; omega)]
 simp
theorem Renum.lift {s s' : St} {σ : Nat → Nat} (r : Renum s s' σ) {k : Nat} (hk : k < s.shelves.length) : liftOf s' (σ k : Nat) = liftOf s (k : Nat) := by
 unfold liftOf
 simp only [Int.toNat_natCast]
 rw [r.get k hk]
theorem Renum.fate {s s' : St} {σ : Nat → Nat} (r : Renum s s' σ) {k : Nat} (hk : k < s.shelves.length) (hs : List Int) (c : Cone) (d : Nat) : fateS s' hs c ⟨(σ k : Nat), d⟩ = fateS s hs c ⟨k, d⟩ := by
 unfold fateS
 simp only
 rw [r.lift hk]
theorem Renum.plans {s s' : St} {σ : Nat → Nat} (r : Renum s s' σ) (h : Ok s) (h' : Ok s') {hs : List Int} {so : Nat → Bool} {each : Bool} {x : List Stand} (hx : x ∈ plansS s hs so each) : x.map (mapSt σ) ∈ plansS s' hs so each := by
 obtain ⟨h1, h2, h3⟩ := (mem_plans h).1 hx
 refine (mem_plans h').2 ⟨by rw [r.cones]; simpa using h1, fun i c a hc ha => ?_, ?_⟩
 ·rw [r.cones] at hc
  rw [List.getElem?_map] at ha
  obtain ⟨a0, ha0, rfl⟩ := Option.map_eq_some_iff.1 ha
  have := h2 i c a0 hc ha0
  unfold optS at this ⊢
  rcases List.mem_append.1 this with this | this
  ·refine List.mem_append_left _ ?_
   split at this
   ·rename_i hh
    rw [if_pos hh]
    rw [List.mem_singleton.1 this]
    exact List.mem_singleton.2 rfl
   ·cases this
  ·refine List.mem_append_right _ ?_
   split at this
   ·rename_i hso
    rw [if_pos hso]
    obtain ⟨g1, g2⟩ := List.mem_filter.1 this
    obtain ⟨k, d, hk, hd, rfl⟩ := mem_grid.1 g1
    rw [map_grid]
    refine List.mem_filter.2 ⟨mem_grid.2 ⟨σ k, d, by rw [r.sh]; exact r.rng k hk, by rw [r.days]; exact hd, rfl⟩, ?_⟩
    rw [r.fate hk]
    exact g2
   ·cases this
 ·rw [fits_iff] at h3 ⊢
  intro k' hk' d hd
  rw [r.sh] at hk'
  rw [r.days] at hd
  obtain ⟨k, hk, rfl⟩ := r.sur k' hk'
  have hon : onS s' hs (x.map (mapSt σ)) (σ k) d = onS s hs x k d := by
   unfold onS
   rw [r.cones]
   refine List.filter_congr fun i hi => ?_
   have hi := List.mem_range.1 hi
   have hc : s.cones[i]? = some s.cones[i] := List.getElem?_eq_getElem hi
   unfold onB
   rw [r.cones, hc, List.getElem?_map]
   cases ha : x[i]? with
   | none => rfl
   | some a =>
    simp only [Option.map_some]
    rcases opt_dry (h2 i _ a hc ha) with rfl | ⟨hg, _⟩
    ·have e1 : ((mapSt σ none1).shelf == ((σ k : Nat) : Int)) = false := by rw [map_none]; simp [none1]
     have e2 : (none1.shelf == ((k : Nat) : Int)) = false := by simp [none1]
     rw [e1, e2]; simp
    ·obtain ⟨j, e, hj, he, rfl⟩ := mem_grid.1 hg
     rw [map_grid, r.fate hj]
     have e1 : (((σ j : Nat) : Int) == ((σ k : Nat) : Int)) = ((j : Int) == (k : Int)) := by
      by_cases e : j = k
      ·subst e; simp
      ·have : σ j ≠ σ k := fun g => e (r.inj j k hj hk g)
       rw [beq_eq_false_iff_ne.2 (by omega), beq_eq_false_iff_ne.2 (by omega)]
     rw [e1]
  have hr : roomOf s' (σ k) = roomOf s k := by unfold roomOf; rw [r.get k hk]
  rw [hon, hr]
  exact h3 k hk d hd
theorem cnt_map {s : St} (h : Ok s) {hs : List Int} {so : Nat → Bool} {each : Bool} {x : List Stand} (hx : x ∈ plansS s hs so each) (σ : Nat → Nat) : cnt (x.map (mapSt σ)) = cnt x := by
 unfold cnt
 rw [List.countP_map]
 congr 1
 refine List.countP_congr fun a ha => ?_
 simp only [Function.comp, decide_eq_true_eq]
 unfold mapSt
 split
 ·rfl
 ·rename_i hh
  constructor
  ·intro _; omega
  ·intro _; simp only; omega
theorem Renum.inv {s s' : St} {σ : Nat → Nat} (r : Renum s s' σ) : ∃ τ, Renum s' s τ := by
 classical
 have hc : ∀ k, ∃ j, k < s.shelves.length → j < s.shelves.length ∧ σ j = k := fun k => by
  by_cases hk : k < s.shelves.length
  ·obtain ⟨j, hj⟩ := r.sur k hk; exact ⟨j, fun _ => hj⟩
  ·exact ⟨0, fun h => absurd h hk⟩
 obtain ⟨τ, hτ⟩ := Classical.axiomOfChoice hc
 refine ⟨τ, r.sh.symm, fun k hk => ?_, fun j k hj hk e => ?_, fun k hk => ?_, fun k hk => ?_, r.days.symm, r.cones.symm⟩
 ·rw [r.sh] at hk ⊢; exact (hτ k hk).1
 ·rw [r.sh] at hj hk; rw [← (hτ j hj).2, ← (hτ k hk).2, e]
 ·rw [r.sh] at hk ⊢
  exact ⟨σ k, r.rng k hk, r.inj _ _ (hτ _ (r.rng k hk)).1 hk (hτ _ (r.rng k hk)).2⟩
 ·rw [r.sh] at hk
  have := r.get (τ k) (hτ k hk).1
  rw [(hτ k hk).2] at this
  exact this.symm
theorem Renum.most {s s' : St} {σ : Nat → Nat} (r : Renum s s' σ) (h : Ok s) (h' : Ok s') (hs : List Int) : cnt (mostS s hs) = cnt (mostS s' hs) := by
 have key : ∀ {s s' : St} {σ : Nat → Nat}, Renum s s' σ → Ok s → Ok s' → cnt (mostS s hs) ≤ cnt (mostS s' hs) := fun {s s' σ} r h h' => by
  have h1 := most_mem h hs
  rw [← cnt_map h h1 σ]
  exact most_max h' (r.plans h h' h1)
 obtain ⟨τ, rτ⟩ := r.inv
 have h1 := key r h h'
 have h2 := key rτ h' h
 omega
theorem Renum.can {s s' : St} {σ : Nat → Nat} (r : Renum s s' σ) (h : Ok s) (h' : Ok s') (hs : List Int) : canS s hs = canS s' hs := by
 have key : ∀ {s s' : St} {σ : Nat → Nat}, Renum s s' σ → Ok s → Ok s' → canS s hs = true → canS s' hs = true := fun {s s' σ} r h h' hc => by
  unfold canS at hc ⊢
  cases hp : plansS s hs allC true with
  | nil => rw [hp] at hc; simp at hc
  | cons x l =>
   have hx : x ∈ plansS s hs allC true := by rw [hp]; exact List.mem_cons_self ..
   have := r.plans h h' hx
   cases hp' : plansS s' hs allC true with
   | nil => rw [hp'] at this; cases this
   | cons _ _ => rfl
 obtain ⟨τ, rτ⟩ := r.inv
 cases h1 : canS s hs with
 | true => exact (key r h h' h1).symm
 | false =>
  cases h2 : canS s' hs with
  | false => rfl
  | true => rw [key rτ h' h h2] at h1; cases h1
theorem Renum.fire {s s' : St} {σ : Nat → Nat} (r : Renum s s' σ) (h : Ok s) (h' : Ok s') (e : s'.top = s.top ∧ s'.rise = s.rise ∧ s'.now = s.now) : fireS s' = fireS s := by
 unfold fireS heatsS
 rw [e.1, e.2.1, e.2.2, r.days]
 congr 1
 exact List.filter_congr fun x _ => (r.can h h' x).symm
end Go.Mz


set_option maxRecDepth 100000
namespace Go.Mz
open Go.Conc Go.Proofs
abbrev Rw (α : Type) := Rf × List α
def encRw {α : Type} (x : Rw α) : List Value := [slV x.1]
theorem encRw_len {α : Type} (x : Rw α) : (encRw x).length = 1 := rfl
theorem encRw_sg {α : Type} (x : Rw α) : ∀ u ∈ encRw x, single u = true := fun u hu => by rw [List.mem_singleton.1 hu]; rfl
structure RwOk {α : Type} (L : LH) (k : Nat) (enc : α → List Value) (x : Rw α) : Prop where
 sl : SlAt L x.1.1 k enc x.2
 len : x.1.2.1 = x.2.length
theorem RwOk.le {α : Type} {L L' : LH} {k : Nat} {enc : α → List Value} {x : Rw α} (h : RwOk L k enc x) (hl : Le L L') : RwOk L' k enc x := ⟨h.sl.le hl, h.len⟩
def RowsAt {α : Type} (L : LH) (ad : Option Addr) (k : Nat) (enc : α → List Value) (ls : List (List α)) : Prop := ∃ rs : List (Rw α), rs.map Prod.snd = ls ∧ SlAt L ad 1 encRw rs ∧ ∀ x ∈ rs, RwOk L k enc x
def GrowL {α : Type} (I : LH) (e k : Nat) (enc : α → List Value) (L : LH) (v : Value) (ls : List (List α)) : Prop := ∃ J, ∃ rs : List (Rw α), Le I J ∧ rs.map Prod.snd = ls ∧ Grow J 1 e encRw L v rs ∧ ∀ x ∈ rs, RwOk J k enc x
section
variable {β : Type} {F F' I L L' L2 : LH} {e k : Nat} {enc : β → List Value} {v : Value} {l : List β}
theorem Grow.foot {ad : Option Addr} {len cap : Nat} (h : Grow I k e enc L (.slice ad len cap) l) (hk : ∀ x, (enc x).length = k) (hF : Le F I) : ∃ F', Le F F' ∧ Le F' L ∧ SlAt F' ad k enc l ∧ ∀ b, F' b ≠ none → F b ≠ none ∨ I b = none := by
 obtain ⟨hI, ob, ho, hn⟩ := h
 obtain ⟨ad', cap', e1, -⟩ := ho.slice
 cases e1
 classical
 refine ⟨fun b => if ob = some b then L b else F b, fun b x hx => ?_, fun b x hx => ?_, (ho.keep (L' := fun b => if ob = some b then L b else F b) fun b hb => ?_).at hk, fun b hb => ?_⟩
 ·simp only
  split
  ·rename_i e2; have := hF _ _ hx; rw [hn b e2] at this; cases this
  ·exact hx
 ·simp only at hx
  split at hx
  ·exact hx
  ·exact hI _ _ (hF _ _ hx)
 ·rw [if_pos hb]
 ·simp only at hb
  split at hb
  ·rename_i e2; exact .inr (hn b e2)
  ·exact .inl hb
theorem Own.some_blk {v : Value} {n : Nat} {cs : List Value} {ob : Option Nat} (h : Own L k e v n cs ob) {b : Nat} (hb : ob = some b) : L b ≠ none := by subst hb; exact h.blk
theorem Grow.rebase (h : Grow F k e enc L v l) (hl : Le L L') (hF : Le F' L') (hn : ∀ b, F' b ≠ none → F b ≠ none ∨ L b = none) : Grow F' k e enc L' v l := by
 obtain ⟨_, ob, ho, hf⟩ := h
 refine ⟨hF, ob, ho.le hl, fun b hb => ?_⟩
 cases hx : F' b with
 | none => rfl
 | some y =>
  rcases hn b (by rw [hx]; simp) with e1 | e1
  ·exact absurd (hf b hb) e1
  ·exact absurd e1 (ho.some_blk hb)
theorem Grow.call (h : Grow F k e enc L v l) (p : Post F L F' L2) : Grow F' k e enc L2 v l := by
 obtain ⟨_, ob, ho, hf⟩ := h
 refine ⟨p.le, ob, ho.keep fun b hb => ?_, fun b hb => ?_⟩
 ·cases hx : L b with
  | none => exact absurd hx (ho.some_blk hb)
  | some y => exact p.keep b y (hf b hb) hx
 ·cases hx : F' b with
  | none => rfl
  | some y =>
   rcases p.fresh b (by rw [hx]; simp) with e1 | e1
   ·exact absurd (hf b hb) e1
   ·exact absurd e1 (ho.some_blk hb)
end
section
variable {α : Type} {I L L' : LH} {e k : Nat} {enc : α → List Value} {v : Value} {ls : List (List α)}
theorem GrowL.hle (h : GrowL I e k enc L v ls) : Le I L := let ⟨_, _, h1, _, h, _⟩ := h; h1.trans h.1
theorem GrowL.le (h : GrowL I e k enc L v ls) (hl : Le L L') : GrowL I e k enc L' v ls := let ⟨J, rs, h0, h1, h2, h3⟩ := h; ⟨J, rs, h0, h1, h2.le hl, h3⟩
theorem GrowL.less {I' : LH} (h : GrowL I e k enc L v ls) (hl : Le I' I) : GrowL I' e k enc L v ls := let ⟨J, rs, h0, h1, h2, h3⟩ := h; ⟨J, rs, hl.trans h0, h1, h2, h3⟩
theorem GrowL.nil (h : Le I L) : GrowL I e k enc L (.slice none 0 0) ([] : List (List α)) := ⟨L, [], h, rfl, Grow.nil (Le.refl _), fun x hx => by cases hx⟩
theorem GrowL.slice (h : GrowL I e k enc L v ls) : ∃ ad cap, v = .slice ad ls.length cap := by
 obtain ⟨J, rs, _, rfl, h2, _⟩ := h
 obtain ⟨ad, cap, rfl, -⟩ := h2.slice
 exact ⟨ad, cap, by rw [List.length_map]⟩
theorem GrowL.at {ad : Option Addr} {len cap : Nat} (h : GrowL I e k enc L (.slice ad len cap) ls) : len = ls.length ∧ RowsAt L ad k enc ls := by
 obtain ⟨J, rs, _, rfl, h2, h3⟩ := h
 obtain ⟨rfl, h4⟩ := h2.at encRw_len
 exact ⟨(List.length_map ..).symm, rs, rfl, h4, fun x hx => (h3 x hx).le h2.1⟩
theorem RowsAt.le {ad : Option Addr} (h : RowsAt L ad k enc ls) (hl : Le L L') : RowsAt L' ad k enc ls := let ⟨rs, h1, h2, h3⟩ := h; ⟨rs, h1, h2.le hl, fun x hx => (h3 x hx).le hl⟩
theorem RowsAt.addr {ad : Option Addr} (h : RowsAt L ad k enc ls) {i : Nat} (hi : i < ls.length) : ∃ a, ad = some a := by
 obtain ⟨rs, rfl, h2, _⟩ := h
 exact h2.addr (by simpa using hi)
theorem RowsAt.row {ad : Addr} (h : RowsAt L (some ad) k enc ls) {i : Nat} {l : List α} (hl : ls[i]? = some l) : ∃ a c, L.cell? (ad.add i) = some (.slice a l.length c) ∧ SlAt L a k enc l := by
 obtain ⟨rs, rfl, h2, h3⟩ := h
 rw [List.getElem?_map] at hl
 obtain ⟨⟨⟨a, n, c⟩, l'⟩, hx, rfl⟩ := Option.map_eq_some_iff.1 hl
 have hk := h3 _ (List.mem_of_getElem? hx)
 have hn : n = l'.length := hk.len
 subst hn
 refine ⟨a, c, ?_, hk.sl⟩
 have := h2.get hx (j := 0) (v := slV (a, l'.length, c)) rfl
 simpa using this
theorem Grow.lit {β : Type} {encB : β → List Value} {l : List β} {b : Nat} (hk : ∀ x, (encB x).length = k) (h : Le I L) (hb : L b = some (.cells (l.flatMap encB).toArray e (0, 0), true)) (hn : I b = none) : Grow I k e encB L (.slice (some ⟨b, 0, none⟩) l.length l.length) l :=
 ⟨h, some b, ⟨l.length, (l.flatMap encB).toArray, rfl, hb, by simp [flat_len hk], Nat.le_refl _, flat_len hk l, fun i x hx => by simpa using hx⟩, fun b' hb' => by cases hb'; exact hn⟩
theorem GrowL.one {b : Nat} {a : Option Addr} {c : Nat} {l : List α} (hl : SlAt I a k enc l) (hI : Le I L) (hb : L b = some (.cells #[.slice a l.length c] e (0, 0), true)) (hn : I b = none) : GrowL I e k enc L (.slice (some ⟨b, 0, none⟩) 1 1) [l] :=
 ⟨I, [((a, l.length, c), l)], Le.refl _, rfl, Grow.lit (l := [((a, l.length, c), l)]) encRw_len hI hb hn, fun x hx => by rw [List.mem_singleton.1 hx]; exact ⟨hl, rfl⟩⟩
end
section
variable {X : Logic Tryz.prog}
end
end Go.Mz


set_option maxRecDepth 100000
namespace Go.Mz
open Go
def strL (n : Nat) : Nat → List (List Int)
 | 0 => [[]]
 | k + 1 => (strL n k).flatMap fun x => (List.range n).map fun (y : Nat) => x ++ [(y : Int)]
theorem strL_cons (n : Nat) : ∀ k, strL n (k + 1) = (List.range n).flatMap fun (y : Nat) => (strL n k).map ((y : Int) :: ·)
 | 0 => by
  simp only [strL, List.flatMap_cons, List.flatMap_nil, List.append_nil, List.nil_append, List.map_cons, List.map_nil]
  induction List.range n with
  | nil => rfl
  | cons a l ih => simp only [List.map_cons, List.flatMap_cons, List.singleton_append, ih]
 | k + 1 => by
  show (strL n (k + 1)).flatMap (fun x => (List.range n).map fun (y : Nat) => x ++ [(y : Int)]) = (List.range n).flatMap fun (y : Nat) => ((strL n k).flatMap fun x => (List.range n).map fun (z : Nat) => x ++ [(z : Int)]).map ((y : Int) :: ·)
  rw [strL_cons n k]
  simp only [List.flatMap_assoc, List.map_flatMap, List.flatMap_map, List.map_map, Function.comp_def, List.cons_append]
theorem strL_mem {n : Nat} : ∀ {k : Nat} {l : List Int}, l ∈ strL n k → l.length = k ∧ ∀ x ∈ l, 0 ≤ x ∧ x < n
 | 0, l, h => by
  simp only [strL, List.mem_singleton] at h
  subst h
  exact ⟨rfl, fun x hx => by cases hx⟩
 | k + 1, l, h => by
  simp only [strL, List.mem_flatMap, List.mem_map, List.mem_range] at h
  obtain ⟨x, hx, y, hy, rfl⟩ := h
  obtain ⟨h1, h2⟩ := strL_mem hx
  refine ⟨by simp [h1], fun z hz => ?_⟩
  rcases List.mem_append.1 hz with hz | hz
  ·exact h2 z hz
  ·rw [List.mem_singleton.1 hz]; omega
theorem flat_filter {α β : Type} (f : α → List β) (p : β → Bool) (l : List α) : (l.flatMap f).filter p = l.flatMap fun a => (f a).filter p := by
 induction l with
 | nil => rfl
 | cons a l ih => rw [List.flatMap_cons, List.flatMap_cons, List.filter_append, ih]
theorem flat_same {α β : Type} {f g : α → List β} {l : List α} (h : ∀ a ∈ l, f a = g a) : l.flatMap f = l.flatMap g := by
 induction l with
 | nil => rfl
 | cons a l ih => rw [List.flatMap_cons, List.flatMap_cons, h a (List.mem_cons_self ..), ih fun x hx => h x (List.mem_cons_of_mem _ hx)]
theorem flat_none {α β : Type} {f : α → List β} {l : List α} (h : ∀ a ∈ l, f a = []) : l.flatMap f = [] := by
 induction l with
 | nil => rfl
 | cons a l ih => rw [List.flatMap_cons, h a (List.mem_cons_self ..), ih fun x hx => h x (List.mem_cons_of_mem _ hx)]; rfl
theorem heatsGo_cons {top rise b : Int} {y : Nat} (hb : 0 ≤ b ∧ b ≤ 1000) (hr : 0 ≤ rise ∧ rise ≤ 1000) (hy : (y : Int) ≤ top) (t : List Int) : heatsGo top rise b ((y : Int) :: t) = if b + rise < y then 12 else heatsGo top rise y t := by
 have h1 : inB (y : Int) 0 top = true := inB_iff.2 ⟨by omega, hy⟩
 have h2 : IntKind.i64.wrap (b + rise) = b + rise := wrap64_in _ (by omega) (by omega)
 simp only [heatsGo]
 rw [if_neg (by rw [h1]; simp), h2]
theorem heats_filter {top rise : Int} (ht : 0 ≤ top ∧ top ≤ 1000) (hr : 0 ≤ rise ∧ rise ≤ 1000) : ∀ {n : Nat} {b : Int}, (0 ≤ b ∧ b ≤ 1000) → (strL (top.toNat + 1) n).filter (fun l => heatsGo top rise b l == 0) = heatsAll top rise n b
 | 0, b, hb => by simp [strL, heatsGo, heatsAll]
 | n + 1, b, hb => by
  rw [strL_cons, flat_filter, heatsAll]
  have hm : (min top (b + rise) + 1).toNat ≤ top.toNat + 1 := by omega
  have hs : List.range (top.toNat + 1) = List.range (min top (b + rise) + 1).toNat ++ List.range' (min top (b + rise) + 1).toNat (top.toNat + 1 - (min top (b + rise) + 1).toNat) := by
   rw [List.range_eq_range', List.range_eq_range']
   have := List.range'_append_1 (s := 0) (m := (min top (b + rise) + 1).toNat) (n := top.toNat + 1 - (min top (b + rise) + 1).toNat)
   rw [Nat.zero_add] at this
   rw [this]
   congr 1
   omega
  rw [hs, List.flatMap_append, flat_none (l := List.range' _ _), List.append_nil]
  ·refine flat_same fun y hy => ?_
   have hy := List.mem_range.1 hy
   rw [List.filter_map]
   congr 1
   rw [← heats_filter ht hr (n := n) (b := y) (by omega)]
   refine List.filter_congr fun t _ => ?_
   simp only [Function.comp]
   rw [heatsGo_cons hb hr (by omega), if_neg (by omega)]
  ·intro y hy
   have hy := List.mem_range'_1.1 hy
   rw [List.filter_eq_nil_iff]
   intro l hl
   obtain ⟨t, _, rfl⟩ := List.mem_map.1 hl
   rw [heatsGo_cons hb hr (by omega), if_pos (by omega)]
   simp
section
variable {s : St}
theorem heatsE_go {l : List Int} (hl : (l.length : Int) = s.days) : heatsE s l = heatsGo s.top s.rise s.now l := by
 unfold heatsE
 rw [if_neg (by simp only [ne_eq, Decidable.not_not, sizedE_0]; omega)]
theorem heats_str (h : Ok s) : heatsS s = (strL (s.top.toNat + 1) s.days.toNat).filter fun l => heatsE s l == 0 := by
 have := h.t0; have := h.t5; have := h.r0; have := h.r3; have := h.n0; have := h.n5; have := h.d1
 unfold heatsS
 rw [← heats_filter (by omega) (by omega) (by omega)]
 refine List.filter_congr fun l hl => ?_
 rw [heatsE_go (by rw [(strL_mem hl).1]; omega)]
def okHB (s : St) (l : List Int) : Bool := heatsE s l == 0 && canS s l
theorem fire_str (h : Ok s) : fireS s = firstMin sumL ((strL (s.top.toNat + 1) s.days.toNat).filter (okHB s)) := by
 unfold fireS
 rw [heats_str h, List.filter_filter]
 congr 1
 refine List.filter_congr fun l _ => ?_
 unfold okHB
 rw [Bool.and_comm]
end
end Go.Mz


set_option maxRecDepth 100000
namespace Go.Mz
open Go.Conc Go.Proofs
variable {X : Logic Tryz.prog}
theorem GrowL.one_at {α : Type} {L : LH} {k b : Nat} {enc : α → List Value} {l : List α} {a : Option Addr} {c e : Nat} (hl : SlAt L a k enc l) (hb : L b = none) : RowsAt (L.put b (.cells #[.slice a l.length c] e)) (some ⟨b, 0, none⟩) k enc [l] :=
 ((GrowL.one (e := e) (c := c) hl (Le.put hb _) (put_same _ _ _) hb).at).2
theorem strL_len (n : Nat) : ∀ k, (strL n k).length = n ^ k
 | 0 => rfl
 | k + 1 => by
  rw [strL, flatMap_len (k := n) (fun x => by simp), strL_len n k, Nat.pow_succ]
theorem Strings_sp (n k : Nat) (L : LH) (hn : n ≤ 6) (hk : k ≤ 4) :
  Sp X 53 [.int .i64 n, .int .i64 k] L (fun v L' => ∃ a c, v = .slice a (strL n k).length c ∧ Le L L' ∧ RowsAt L' a 1 encI (strL n k)) := by
 refine Sp.enter (n := 40) Tryz.func53 rfl rfl rfl rfl fun C hX _ hL0 r => ?_
 refine W.go 99 rfl ?_
 refine W.pub 5 (.inr ⟨_, _, _, rfl⟩) rfl rfl ?_
 intro b0 hb0 _
 have hr0 : RowsAt (L.put b0 (.cells #[.slice none 0 0] 28)) (some ⟨b0, 0, none⟩) 1 encI (strL n 0) := GrowL.one_at (l := ([] : List Int)) SlAt.empty hb0
 refine W.loop (fun w E B L' => ∃ (i : Nat) (a : Option Addr) (c : Nat), w = k - i ∧ i ≤ k ∧ Le L L' ∧ RowsAt L' a 1 encI (strL n i) ∧
   E = [(0, .v (.int .i64 n)), (1, .v (.int .i64 k)), (5, .v (.slice a (strL n i).length c)), (6, .v (.int .i64 i))] ∧ B = [])
  ⟨0, _, 1, rfl, by omega, Le.put hb0 _, hr0, rfl, rfl⟩ (by exact ⟨rfl, rfl, rfl, rfl, trivial⟩) trivial ?_
 rintro _ _ _ L1 ⟨i, a, c, rfl, hi, hl1, hrows, rfl, rfl⟩ again
 refine W.go 99 rfl ?_
 refine W.split rfl rfl rfl (fun e1 => W.go 99 rfl ?_) (fun e1 => W.go 99 rfl ?_)
 ·have hik : i < k := by simpa using e1
  have hpw : n ^ i ≤ 6 ^ 3 := Nat.le_trans (Nat.pow_le_pow_left hn i) (Nat.pow_le_pow_right (by omega) (by omega))
  have hsl := strL_len n i
  have hmem : ∀ x ∈ strL n i, x.length = i := fun x hx => (strL_mem hx).1
  have hstep : strL n (i + 1) = (strL n i).flatMap fun x => (List.range n).map fun (y : Nat) => x ++ [(y : Int)] := rfl
  generalize strL n i = S at hrows hsl hmem hstep
  refine W.loop (fun w E B L' => ∃ (j : Nat) (v : Value) (F : LH) (rs : List (Rw Int)), w = S.length - j ∧ j ≤ S.length ∧ Le L1 F ∧ rs.map Prod.snd = (S.take j).flatMap (fun x => (List.range n).map fun (y : Nat) => x ++ [(y : Int)]) ∧ rs.length = j * n ∧ Grow F 1 28 encRw L' v rs ∧ (∀ x ∈ rs, RwOk F 1 encI x) ∧
    E = [(0, .v (.int .i64 n)), (1, .v (.int .i64 k)), (5, .v (.slice a S.length c)), (6, .v (.int .i64 i)), (7, .v v), (8, .v (.int .i64 j))] ∧ B = [])
   ⟨0, _, L1, [], rfl, by omega, Le.refl _, rfl, by simp, Grow.nil (Le.refl _), (fun x hx => by cases hx), rfl, rfl⟩ (by exact ⟨rfl, rfl, rfl, rfl, rfl, rfl, trivial⟩) trivial ?_
  rintro _ _ _ L2 ⟨j, v, F, rs, rfl, hj, hLF, hrs, hrl, hgr, hrk, rfl, rfl⟩ again2
  refine W.go 99 rfl ?_
  refine W.split rfl rfl rfl (fun e2 => W.go 99 rfl ?_) (fun e2 => W.go 99 rfl ?_)
  ·have hjl : j < S.length := by simpa using e2
   obtain ⟨x, hx⟩ : ∃ x, S[j]? = some x := ⟨_, List.getElem?_eq_getElem hjl⟩
   have hxl := hmem x (List.mem_of_getElem? hx)
   obtain ⟨a', rfl⟩ := hrows.addr hjl
   obtain ⟨xa, xc, hxc, hxs⟩ := hrows.row hx
   have hjn : (j + 1) * n ≤ 216 * 6 := Nat.mul_le_mul (by omega) hn
   have hjn2 : (j + 1) * n = j * n + n := Nat.succ_mul j n
   refine W.loop (fun w E B L' => ∃ (y : Nat) (v : Value) (F' : LH) (rs' : List (Rw Int)), w = n - y ∧ y ≤ n ∧ Le F F' ∧ rs'.map Prod.snd = rs.map Prod.snd ++ (List.range y).map (fun (y : Nat) => x ++ [(y : Int)]) ∧ rs'.length = j * n + y ∧ Grow F' 1 28 encRw L' v rs' ∧ (∀ x ∈ rs', RwOk F' 1 encI x) ∧
     E = [(0, .v (.int .i64 n)), (1, .v (.int .i64 k)), (5, .v (.slice (some a') S.length c)), (6, .v (.int .i64 i)), (7, .v v), (8, .v (.int .i64 j)), (9, .v (.int .i64 y))] ∧ B = [])
    ⟨0, v, F, rs, rfl, by omega, Le.refl _, by simp, by omega, hgr, hrk, rfl, rfl⟩ (by exact ⟨rfl, rfl, rfl, rfl, rfl, rfl, rfl, trivial⟩) trivial ?_
   clear hgr hrk
   rintro _ _ _ L3 ⟨y, v, F3, rs3, rfl, hy, hFF3, hrs3, hrl3, hgr3, hrk3, rfl, rfl⟩ again3
   have hL13 : Le L1 L3 := hLF.trans (hFF3.trans hgr3.1)
   refine W.go 99 rfl ?_
   refine W.split rfl rfl rfl (fun e3 => W.go 99 rfl ?_) (fun e3 => W.go 99 rfl ?_)
   ·have hyn : y < n := by simpa using e3
    refine W.vf rfl rfl rfl rfl (Vf.idx1 rfl rfl rfl rfl rfl rfl rfl (hjl)) ?_
    refine W.vf rfl rfl rfl rfl (Vf.load rfl rfl rfl (hL13.cell hxc)) ?_
    refine W.go 99 rfl ?_
    refine W.eff rfl rfl rfl (Ef.call rfl (DupInts_sp xa xc x L3 (hxs.le hL13) (by omega))) ?_
    rintro _ _ _ ⟨_, rfl, rfl, hg1⟩
    rename_i L4 _
    obtain ⟨da, dc, rfl, -⟩ := hg1.slice
    refine W.go 99 rfl ?_
    refine W.eff rfl rfl rfl (Ef.grow rfl rfl rfl rfl rfl rfl rfl rfl rfl encI_len encI_sg hg1 (ls := [(y : Int)]) (.own rfl rfl rfl rfl) (by simp; omega)) ?_
    rintro _ _ _ ⟨v1, rfl, rfl, hg2, -⟩
    rename_i L5
    have hg2 : Grow L3 1 3 encI L5 v1 (x ++ [(y : Int)]) := hg2
    obtain ⟨wa, wc, rfl, -⟩ := hg2.slice
    obtain ⟨F5, hFF5, hF5L, hw5, hf5⟩ := hg2.foot encI_len hgr3.1
    have hgr5 : Grow F5 1 28 encRw L5 v rs3 := hgr3.rebase hg2.1 hF5L hf5
    refine W.go 99 rfl ?_
    refine W.eff rfl rfl rfl (Ef.grow rfl rfl rfl rfl rfl rfl rfl rfl rfl encRw_len encRw_sg hgr5 (ls := [((wa, (x ++ [(y : Int)]).length, wc), x ++ [(y : Int)])]) (.own rfl rfl rfl rfl) (by simp; omega)) ?_
    rintro _ _ _ ⟨v2, rfl, rfl, hg6, -⟩
    refine W.go 99 rfl ?_
    refine W.again (again3 _ _ _ _ (by omega) ⟨y + 1, v2, F5, _, rfl, by omega, hFF3.trans hFF5, ?_, by simp; omega, hg6, ?_, rfl, rfl⟩) ⟨rfl, rfl, rfl, rfl, rfl, rfl, congrArg some (inc64 (by omega)), trivial⟩ trivial
    ·rw [List.map_append, hrs3, List.range_succ]
     simp only [List.map_append, List.map_cons, List.map_nil, List.append_assoc]
    ·intro z hz
     rcases List.mem_append.1 hz with hz | hz
     ·exact (hrk3 z hz).le hFF5
     ·rw [List.mem_singleton.1 hz]; exact ⟨hw5, rfl⟩
   ·have hye : y = n := by simp at e3; omega
    subst hye
    refine W.again (again2 _ _ _ _ (by omega) ⟨j + 1, v, F3, rs3, rfl, by omega, hLF.trans hFF3, ?_, by omega, hgr3, hrk3, rfl, rfl⟩) ⟨rfl, rfl, rfl, rfl, rfl, congrArg some (inc64 (by omega)), trivial⟩ trivial
    obtain ⟨_, rfl⟩ := List.getElem?_eq_some_iff.1 hx
    rw [hrs3, hrs, List.take_succ_eq_append_getElem hjl, List.flatMap_append, List.flatMap_singleton]
  ·have hje : j = S.length := by simp at e2; omega
   subst hje
   rw [List.take_length, ← hstep] at hrs
   have hgL : GrowL L1 28 1 encI L2 v (strL n (i + 1)) := ⟨F, rs, hLF, hrs, hgr, hrk⟩
   obtain ⟨va, vc, rfl⟩ := hgL.slice
   refine W.again (again _ _ _ _ (by omega) ⟨i + 1, va, vc, rfl, by omega, hl1.trans hgL.hle, hgL.at.2, rfl, rfl⟩) ⟨rfl, rfl, rfl, congrArg some (inc64 (by omega)), trivial⟩ trivial
 ·have hie : i = k := by simp at e1; omega
  subst hie
  refine W.ret r rfl rfl ?_
  exact ⟨a, c, rfl, hl1, hrows⟩
end Go.Mz


set_option maxRecDepth 100000
namespace Go.Mz
open Go.Conc Go.Proofs
abbrev dayS (s : St) (k : Nat) : St := { s with days := ((k + 1 : Nat) : Int) }
def FewOk (s : St) (k : Nat) (f : Int) : Prop := (f = -1 ∧ ∀ n, n < k → fireS (dayS s n) = none) ∨ ∃ (k0 : Nat) (l : List Int), k0 < k ∧ f = ((k0 + 1 : Nat) : Int) ∧ (∀ n, n < k0 → fireS (dayS s n) = none) ∧ fireS (dayS s k0) = some l
def BestI (s : St) (P : List (List Int)) (i : Nat) (b : Int) : Prop := (b = -1 ∧ firstMin sumL ((P.take i).filter (okHB s)) = none) ∨ ∃ (n : Nat) (y : List Int), b = (n : Int) ∧ P[n]? = some y ∧ firstMin sumL ((P.take i).filter (okHB s)) = some y
theorem filt_take {α : Type} {p : α → Bool} {P : List α} {i : Nat} {x : α} (hx : P[i]? = some x) : (P.take (i + 1)).filter p = (P.take i).filter p ++ if p x then [x] else [] := by
 obtain ⟨hi, rfl⟩ := List.getElem?_eq_some_iff.1 hx
 rw [List.take_succ_eq_append_getElem hi, List.filter_append]
 congr 1
 cases h : p P[i] <;> simp [h]
variable {Post : Value → World → Prop} {W0 : World}
theorem SfF2_run (na : Option Addr) (nc : Nat) (nums : List Int) (L : LH) (hn : IntsAt L na nums) (hgl : GlOk L) (hl2 : nums.length ≤ 140737488355328)
  (hQ : ∀ v L' w, (v = .bool true ∧ Dim L L') → Sub L' w → Same W0 w → Post v w) :
  FGo Tryz.prog Post W0 (G (Frame.enter Tryz.prog 10 [.slice na nums.length nc].toArray .normal) []) L := by
 refine root_enter (n := 156) (s := 2) Tryz.func10 rfl rfl (by kernel_rfl) rfl rfl hQ fun C hX _ hL0 r => ?_
 have drd : ∀ L2, GlOk L2 → Sp C.X 21 [] L2 (fun v L' => v = .bool true ∧ Dim L2 L') := fun L2 h => by rw [hX]; exact dried_sp L2 h
 refine W.go 99 rfl ?_
 refine W.eff rfl rfl rfl (Ef.call rfl (NewHat_sp na nc nums L hn)) ?_
 rintro _ _ _ ⟨_, rfl, rfl, b, rfl, hb, hle1, hh1⟩
 refine W.go 99 rfl ?_
 rename_i L1
 have hb1 := le_but hb hle1
 refine W.eff rfl rfl rfl (Ef.call rfl (StoveOf_sp b na nc nums 0 2 3 L1 hh1 (by omega) hl2 (by omega) (by omega) (by omega))) ?_
 rintro _ _ _ ⟨_, rfl, rfl, s, p, m, rfl, hs, hm, hle2, hh2, hst2⟩
 refine W.go 99 rfl ?_
 rename_i L2
 have hok := hs.ok
 have o3 := hok.s3
 have hc3 := hok.c3
 have o4 := hok.d4
 have o5 := hok.d1
 have t0 := hok.t0
 have t5 := hok.t5
 have hL2 : Le L L2 := hb1.trans ((but_but hle2).trans (but_le _ _))
 have hst2 := hst2.le (but_le _ _)
 have hf5 := Fire_sp (Post := Post) (W0 := W0) s p L2 hst2 (hgl.le hL2)
 rw [← hX] at hf5
 refine W.eff rfl rfl rfl (Ef.call rfl (hf5)) ?_
 rintro _ _ _ ⟨_, rfl, rfl, fa, fc, rfl, hfi, hd3⟩
 refine W.go 99 rfl ?_
 rename_i L3
 have hf6 := Days_sp (Post := Post) (W0 := W0) s p L3 (hd3.st hst2) (hd3.cell (hgl.le hL2))
 rw [← hX] at hf6
 refine W.eff rfl rfl rfl (Ef.call rfl (hf6)) ?_
 rintro _ _ _ ⟨_, rfl, rfl, rfl, hd4⟩
 refine W.go 99 rfl ?_
 rename_i L4
 have hst4 := hd4.st (hd3.st hst2)
 have hgl4 : GlOk L4 := (hd3.trans hd4).cell (hgl.le hL2)
 have hfi4 : IntsAt L4 fa (FireE s).1 := hd4.sl hfi
 have hd04 : Dim L L4 := (Dim.of_le hL2).trans (hd3.trans hd4)
 have hfl := fireE_len s
 refine W.loop (fun w E B L' => ∃ (k : Nat) (f : Int), w = s.days.toNat - k ∧ k ≤ s.days.toNat ∧ Le L4 L' ∧ FewOk s k f ∧
   E = [(3, .p 0 0), (4, .v (.slice fa (FireE s).1.length fc)), (5, .v (.int .i64 (FireE s).2.1)), (6, .v (.int .i64 (FireE s).2.2)), (7, .v (.int .i64 (DaysE s).1)), (8, .v (.int .i64 (DaysE s).2)), (9, .v (.int .i64 f)), (10, .v (.int .i64 ((k + 1 : Nat) : Int)))] ∧ B = [some ⟨cellsS (.v (stA s p)), 25⟩])
  ⟨0, -1, rfl, by omega, Le.refl _, .inl ⟨rfl, fun n h => absurd h (by omega)⟩, rfl, rfl⟩ (by exact ⟨rfl, rfl, rfl, rfl, rfl, rfl, rfl, rfl, trivial⟩) (by exact ⟨rfl, trivial⟩) ?_
 rintro _ _ _ L5 ⟨k, f, rfl, hk, hl5, hfew, rfl, rfl⟩ again
 refine W.go 99 rfl ?_
 refine W.split rfl rfl rfl (fun e1 => W.go 99 rfl ?_) (fun e1 => W.go 99 rfl ?_)
 ·have hkd : k < s.days.toNat := by simp at e1; omega
  have hokn : Ok (dayS s k) := ok_days hok (by omega) (by omega)
  refine W.eff rfl rfl rfl (Ef.call rfl (DupStove_sp s p L5 (hst4.le hl5) (by omega) (by omega))) ?_
  rintro _ _ _ ⟨_, rfl, rfl, xa, ya, z1, z2, I1, rfl, hg1, hg2⟩
  refine W.go 99 rfl ?_
  rename_i L6
  have hl6 := hg1.1.trans hg2.1
  have hst6 : StAt L6 (dayS s k) ⟨xa, ya, z1, z2⟩ := ⟨(hg1.at encSh_len).2.le hg2.1, (hg2.at encCo_len).2, by show s.shelves.length ≤ _; omega, by show s.cones.length ≤ _; omega⟩
  rw [wrap64_in _ (by omega) (by omega), show s.top + 1 = ((s.top.toNat + 1 : Nat) : Int) by omega]
  refine W.eff rfl rfl rfl (Ef.call rfl (Strings_sp (s.top.toNat + 1) (k + 1) L6 (by omega) (by omega))) ?_
  rintro _ _ _ ⟨_, rfl, rfl, qa, qc, rfl, hl7, hrows⟩
  rename_i L7
  have hl57 := hl5.trans (hl6.trans hl7)
  have hst7 := hst6.le hl7
  have hfire : fireS (dayS s k) = firstMin sumL ((strL (s.top.toNat + 1) (k + 1)).filter (okHB (dayS s k))) := by
   have := fire_str hokn
   rw [show (dayS s k).days.toNat = k + 1 by show (((k + 1 : Nat) : Int)).toNat = k + 1; omega] at this
   exact this
  have hmem : ∀ x ∈ strL (s.top.toNat + 1) (k + 1), (x.length : Int) = (dayS s k).days ∧ (∀ y ∈ x, 0 ≤ y ∧ y ≤ (dayS s k).top) := fun x hx => by
   obtain ⟨h1, h2⟩ := strL_mem hx
   exact ⟨by show (x.length : Int) = ((k + 1 : Nat) : Int); omega, fun y hy => by have := h2 y hy; show 0 ≤ y ∧ y ≤ s.top; omega⟩
  have hpl : (strL (s.top.toNat + 1) (k + 1)).length ≤ 1296 := by
   rw [strL_len]
   have h1 : (s.top.toNat + 1) ^ (k + 1) ≤ 6 ^ (k + 1) := Nat.pow_le_pow_left (by omega) _
   have h2 : 6 ^ (k + 1) ≤ 6 ^ 4 := Nat.pow_le_pow_right (by omega) (by omega)
   omega
  generalize strL (s.top.toNat + 1) (k + 1) = P at hrows hfire hmem hpl
  refine W.go 99 rfl ?_
  refine W.loop (fun w E B L' => ∃ (i : Nat) (bi : Int), w = P.length - i ∧ i ≤ P.length ∧ Le L7 L' ∧ BestI (dayS s k) P i bi ∧
    E = [(3, .p 0 0), (4, .v (.slice fa (FireE s).1.length fc)), (5, .v (.int .i64 (FireE s).2.1)), (6, .v (.int .i64 (FireE s).2.2)), (7, .v (.int .i64 (DaysE s).1)), (8, .v (.int .i64 (DaysE s).2)), (9, .v (.int .i64 f)), (10, .v (.int .i64 ((k + 1 : Nat) : Int))), (11, .p 1 0), (12, .v (.slice qa P.length qc)), (13, .v (.int .i64 bi)), (14, .v (.int .i64 i))] ∧ B = [some ⟨cellsS (.v (stA s p)), 25⟩, some ⟨cellsS (.v (stA (dayS s k) ⟨xa, ya, z1, z2⟩)), 25⟩])
   ⟨0, -1, rfl, by omega, Le.refl _, .inl ⟨rfl, by simp [firstMin]⟩, rfl, rfl⟩ (by exact ⟨rfl, rfl, rfl, rfl, rfl, rfl, rfl, rfl, rfl, rfl, rfl, rfl, trivial⟩) (by exact ⟨rfl, rfl, trivial⟩) ?_
  rintro _ _ _ L8 ⟨i, bi, rfl, hi, hl8, hbest, rfl, rfl⟩ again2
  refine W.go 99 rfl ?_
  refine W.split rfl rfl rfl (fun e2 => W.go 99 rfl ?_) (fun e2 => W.go 99 rfl ?_)
  ·have hil : i < P.length := by simpa using e2
   obtain ⟨x, hx⟩ : ∃ x, P[i]? = some x := ⟨_, List.getElem?_eq_getElem hil⟩
   obtain ⟨w1, w2⟩ := hmem x (List.mem_of_getElem? hx)
   obtain ⟨qa', rfl⟩ := hrows.addr hil
   obtain ⟨xx, xc, hxc, hxs⟩ := (hrows.le hl8).row hx
   have hans := all_ans hokn w1 w2
   have hft := filt_take (p := okHB (dayS s k)) hx
   have hxn : (x.length : Int) = ((k + 1 : Nat) : Int) := w1
   have hb5 : ∀ y ∈ x, 0 ≤ y ∧ y ≤ 100 := fun y hy => by have := w2 y hy; have h5 : (dayS s k).top = s.top := rfl; omega
   refine W.drawn (by kernel_rfl) _ (Le.refl _) ?_
   refine DD.run' [0, 1, 2] rfl ?_
   refine DD.vf 3 rfl rfl rfl rfl rfl (Vf.idx1 rfl rfl rfl rfl rfl rfl rfl (hil)) ?_
   refine DD.vf 4 rfl rfl rfl rfl rfl (Vf.load rfl rfl rfl (hxc)) ?_
   refine DD.act 5 rfl rfl rfl rfl rfl (Ef.call rfl ((All_sp (dayS s k) ⟨xa, ya, z1, z2⟩ xx xc x L8 ⟨hst7.le hl8, hxs, hgl4.le (hl57.trans hl8), by omega⟩))) ((by rintro _ _ _ ⟨_, rfl, rfl, _, rfl, _, _, rfl, hl, _⟩; exact ⟨hl, rfl, .inl rfl⟩)) ?_
   rintro _ _ _ ⟨_, rfl, rfl, _, rfl, wa, wc, rfl, hl9, -, -⟩
   rename_i L9
   have hl79 := hl8.trans hl9
   refine DD.run' [6, 7, 8, 9, 10] rfl ?_
   refine .fin rfl ?_
   rcases hans with ⟨a0, a1, a2⟩ | ⟨a0, a1, a2⟩ | ⟨a0, a1⟩
   ·have hokx : okHB (dayS s k) x = true := by unfold okHB; rw [a1, a2]; rfl
    rw [hokx, if_pos rfl] at hft
    rw [a0]
    refine W.go 99 rfl ?_
    refine W.drawn (by kernel_rfl) _ (Le.refl _) ?_
    refine DD.run' [0, 1, 2] rfl ?_
    refine DD.split 63 rfl (fun _ => ?_) (fun h => absurd h (by decide))
    refine DD.run' [3, 4, 5] rfl ?_
    rcases hbest with ⟨rfl, hnb⟩ | ⟨n, y, rfl, hy, hyb⟩
    ·refine DD.split 66 rfl (fun _ => ?_) (fun h => absurd h (by decide))
     refine DD.run' [6, 7, 8, 9, 10, 11, 12, 13, 14, 15, 16, 17, 18] rfl ?_
     refine .fin rfl ?_
     refine W.go 99 rfl ?_
     refine W.split rfl rfl rfl (fun h => absurd h (by simp)) (fun _ => W.go 99 rfl ?_)
     exact W.again (again2 _ _ _ _ (by omega) ⟨i + 1, i, rfl, by omega, hl79, .inr ⟨i, x, rfl, hx, by rw [hft, firstMin_add, hnb]; rfl⟩, rfl, rfl⟩) (by exact ⟨rfl, rfl, rfl, rfl, rfl, rfl, rfl, rfl, rfl, rfl, rfl, congrArg some (inc64 (by omega)), trivial⟩) (by exact ⟨rfl, rfl, trivial⟩)
    ·obtain ⟨hnl, _⟩ := List.getElem?_eq_some_iff.1 hy
     obtain ⟨v1, v2⟩ := hmem y (List.mem_of_getElem? hy)
     obtain ⟨yy, yc, hyc, hys⟩ := (hrows.le hl79).row hy
     have hyn : (y.length : Int) = ((k + 1 : Nat) : Int) := v1
     have hby : ∀ z ∈ y, 0 ≤ z ∧ z ≤ 100 := fun z hz => by have := v2 z hz; have h5 : (dayS s k).top = s.top := rfl; omega
     refine DD.split 66 rfl (fun h => absurd h (by simp)) (fun _ => ?_)
     refine DD.run' [6, 7, 11, 12] rfl ?_
     refine DD.vf 8 rfl rfl rfl rfl rfl (Vf.idx1 rfl rfl rfl rfl rfl rfl rfl (hil)) ?_
     refine DD.vf 9 rfl rfl rfl rfl rfl (Vf.load rfl rfl rfl (hl9.cell hxc)) ?_
     refine DD.vf 13 rfl rfl rfl rfl rfl (Vf.idx1 rfl rfl rfl rfl rfl rfl rfl (hnl)) ?_
     refine DD.vf 14 rfl rfl rfl rfl rfl (Vf.load rfl rfl rfl (hyc)) ?_
     refine DD.act 10 rfl rfl rfl rfl rfl (Ef.call rfl (Sum_sp xx xc x L9 (hxs.le hl9) (by omega) hb5)) (by rintro _ _ _ ⟨_, rfl, rfl, rfl, rfl⟩; exact ⟨Le.refl _, rfl, .inl rfl⟩) ?_
     rintro _ _ _ ⟨_, rfl, rfl, rfl, rfl⟩
     refine DD.act 15 rfl rfl rfl rfl rfl (Ef.call rfl (Sum_sp yy yc y L9 hys (by omega) hby)) (by rintro _ _ _ ⟨_, rfl, rfl, rfl, rfl⟩; exact ⟨Le.refl _, rfl, .inl rfl⟩) ?_
     rintro _ _ _ ⟨_, rfl, rfl, rfl, rfl⟩
     refine DD.run' [16, 17, 18] rfl ?_
     refine .fin rfl ?_
     refine W.go 99 rfl ?_
     refine W.split rfl rfl rfl (fun e3 => W.go 99 rfl ?_) (fun e3 => W.go 99 rfl ?_)
     ·have hlt : sumL x < sumL y := by simpa using e3
      refine W.split rfl rfl rfl (fun h => absurd h (by simp)) (fun _ => W.go 99 rfl ?_)
      exact W.again (again2 _ _ _ _ (by omega) ⟨i + 1, i, rfl, by omega, hl79, .inr ⟨i, x, rfl, hx, by rw [hft, firstMin_add, hyb]; unfold takeLess; simp only; rw [if_pos hlt]⟩, rfl, rfl⟩) (by exact ⟨rfl, rfl, rfl, rfl, rfl, rfl, rfl, rfl, rfl, rfl, rfl, congrArg some (inc64 (by omega)), trivial⟩) (by exact ⟨rfl, rfl, trivial⟩)
     ·have hlt : ¬ sumL x < sumL y := by simpa using e3
      refine W.split rfl rfl rfl (fun h => absurd h (by simp)) (fun _ => W.go 99 rfl ?_)
      exact W.again (again2 _ _ _ _ (by omega) ⟨i + 1, n, rfl, by omega, hl79, .inr ⟨n, y, rfl, hy, by rw [hft, firstMin_add, hyb]; unfold takeLess; simp only; rw [if_neg hlt]⟩, rfl, rfl⟩) (by exact ⟨rfl, rfl, rfl, rfl, rfl, rfl, rfl, rfl, rfl, rfl, rfl, congrArg some (inc64 (by omega)), trivial⟩) (by exact ⟨rfl, rfl, trivial⟩)
   ·have hokx : okHB (dayS s k) x = false := by unfold okHB; rw [a2]; simp
    rw [hokx, if_neg (by simp), List.append_nil] at hft
    rw [a0]
    refine W.go 99 rfl ?_
    refine W.drawn (by kernel_rfl) _ (Le.refl _) ?_
    refine DD.run' [0, 1, 2] rfl ?_
    refine DD.split 63 rfl (fun h => absurd h (by decide)) (fun _ => ?_)
    refine DD.run' [3, 4, 5, 6, 7, 8, 9, 10, 11, 12, 13, 14, 15, 16, 17, 18] rfl ?_
    refine .fin rfl ?_
    refine W.go 99 rfl ?_
    refine W.split rfl rfl rfl (fun _ => W.go 99 rfl ?_) (fun h => absurd h (by simp))
    refine W.split rfl rfl rfl (fun h => absurd h (by simp)) (fun _ => W.go 99 rfl ?_)
    exact W.again (again2 _ _ _ _ (by omega) ⟨i + 1, bi, rfl, by omega, hl79, by unfold BestI; rw [hft]; exact hbest, rfl, rfl⟩) (by exact ⟨rfl, rfl, rfl, rfl, rfl, rfl, rfl, rfl, rfl, rfl, rfl, congrArg some (inc64 (by omega)), trivial⟩) (by exact ⟨rfl, rfl, trivial⟩)
   ·have hokx : okHB (dayS s k) x = false := by unfold okHB; rw [a1]; rfl
    rw [hokx, if_neg (by simp), List.append_nil] at hft
    rw [a0]
    refine W.go 99 rfl ?_
    refine W.drawn (by kernel_rfl) _ (Le.refl _) ?_
    refine DD.run' [0, 1, 2] rfl ?_
    refine DD.split 63 rfl (fun h => absurd h (by decide)) (fun _ => ?_)
    refine DD.run' [3, 4, 5, 6, 7, 8, 9, 10, 11, 12, 13, 14, 15, 16, 17, 18] rfl ?_
    refine .fin rfl ?_
    refine W.go 99 rfl ?_
    refine W.split rfl rfl rfl (fun _ => W.go 99 rfl ?_) (fun h => absurd h (by simp))
    refine W.split rfl rfl rfl (fun _ => W.go 99 rfl ?_) (fun h => absurd h (by simp))
    refine W.split rfl rfl rfl (fun h => absurd h (by simp)) (fun _ => W.go 99 rfl ?_)
    exact W.again (again2 _ _ _ _ (by omega) ⟨i + 1, bi, rfl, by omega, hl79, by unfold BestI; rw [hft]; exact hbest, rfl, rfl⟩) (by exact ⟨rfl, rfl, rfl, rfl, rfl, rfl, rfl, rfl, rfl, rfl, rfl, congrArg some (inc64 (by omega)), trivial⟩) (by exact ⟨rfl, rfl, trivial⟩)
  ·have hie : i = P.length := by simp at e2; omega
   have hbest2 : (bi = -1 ∧ fireS (dayS s k) = none) ∨ ∃ (n : Nat) (y : List Int), bi = (n : Int) ∧ P[n]? = some y ∧ fireS (dayS s k) = some y := by
    unfold BestI at hbest
    rw [hie, List.take_length, ← hfire] at hbest
    exact hbest
   clear hbest
   have hl58 := hl57.trans hl8
   apply W.cut (fun E B L' => L8 = L' ∧ ∃ f', FewOk s (k + 1) f' ∧ SubE E [(3, .p 0 0), (4, .v (.slice fa (FireE s).1.length fc)), (5, .v (.int .i64 (FireE s).2.1)), (6, .v (.int .i64 (FireE s).2.2)), (7, .v (.int .i64 (DaysE s).1)), (8, .v (.int .i64 (DaysE s).2)), (9, .v (.int .i64 f')), (10, .v (.int .i64 ((k + 1 : Nat) : Int))), (12, .v (.slice qa P.length qc)), (13, .v (.int .i64 bi)), (101, .v (.bool (decide (((k + 1 : Nat) : Int) < s.days))))] ∧ PreB B [some ⟨cellsS (.v (stA s p)), 25⟩])
   rotate_left
   ·intro rest
    rcases hbest2 with ⟨rfl, hfn⟩ | ⟨n, y, rfl, hy, hfy⟩
    ·refine W.split rfl rfl rfl (fun h => absurd h (by simp)) (fun _ => W.go 99 rfl ?_)
     refine rest _ _ _ ⟨rfl, f, ?_, by exact ⟨rfl, rfl, rfl, rfl, rfl, rfl, rfl, rfl, rfl, rfl, rfl, trivial⟩, by exact ⟨rfl, trivial⟩⟩
     rcases hfew with ⟨rfl, hno⟩ | ⟨k0, l, h0, rfl, h2, h3⟩
     ·exact .inl ⟨rfl, fun n hn => (Nat.lt_succ_iff_lt_or_eq.1 hn).elim (hno n) (fun e => by subst e; exact hfn)⟩
     ·exact .inr ⟨k0, l, by omega, rfl, h2, h3⟩
    ·refine W.split rfl rfl rfl (fun _ => W.go 99 rfl ?_) (fun h => absurd h (by simp))
     rcases hfew with ⟨rfl, hno⟩ | ⟨k0, l, h0, rfl, h2, h3⟩
     ·refine W.split rfl rfl rfl (fun _ => W.go 99 rfl ?_) (fun h => absurd h (by simp))
      exact rest _ _ _ ⟨rfl, _, .inr ⟨k, y, by omega, rfl, hno, hfy⟩, by exact ⟨rfl, rfl, rfl, rfl, rfl, rfl, rfl, rfl, rfl, rfl, rfl, trivial⟩, by exact ⟨rfl, trivial⟩⟩
     ·refine W.split rfl rfl rfl (fun h => absurd h (by simp; omega)) (fun _ => W.go 99 rfl ?_)
      exact rest _ _ _ ⟨rfl, _, .inr ⟨k0, l, by omega, rfl, h2, h3⟩, by exact ⟨rfl, rfl, rfl, rfl, rfl, rfl, rfl, rfl, rfl, rfl, rfl, trivial⟩, by exact ⟨rfl, trivial⟩⟩
   rintro E B _ ⟨rfl, f', hfew', hE, hB⟩
   refine W.weak hE hB ?_
   refine W.split rfl rfl rfl (fun e5 => W.go 99 rfl ?_) (fun e5 => W.go 99 rfl ?_)
   ·exact W.again (again _ _ _ _ (by omega) ⟨k + 1, f', rfl, by omega, hl58, hfew', rfl, rfl⟩) (by exact ⟨rfl, rfl, rfl, rfl, rfl, rfl, rfl, congrArg some (inc64 (by omega)), trivial⟩) (by exact ⟨rfl, trivial⟩)
   ·have hkl : ((k + 1 : Nat) : Int) = s.days := by simp at e5; omega
    have hsn : dayS s k = s := by unfold dayS; rw [hkl]
    rw [hsn] at hbest2 hmem
    rcases hbest2 with ⟨rfl, hfn⟩ | ⟨n, y, rfl, hy, hfy⟩
    ·rw [fireE_none hok hfn]
     refine W.split rfl rfl rfl (fun _ => W.go 99 rfl ?_) (fun h => absurd h (by simp))
     refine W.split rfl rfl rfl (fun h => absurd h (by simp)) (fun _ => W.go 99 rfl ?_)
     refine W.split rfl rfl rfl (fun h => absurd h (by simp)) (fun _ => W.go 99 rfl ?_)
     refine W.split rfl rfl rfl (fun h => absurd h (by simp)) (fun _ => W.go 99 rfl ?_)
     rw [← fireE_none hok hfn]
     exact W.again (again _ _ _ _ (by omega) ⟨k + 1, f', rfl, by omega, hl58, hfew', rfl, rfl⟩) (by exact ⟨rfl, rfl, rfl, rfl, rfl, rfl, rfl, congrArg some (inc64 (by omega)), trivial⟩) (by exact ⟨rfl, trivial⟩)
    ·obtain ⟨hnl, _⟩ := List.getElem?_eq_some_iff.1 hy
     obtain ⟨v1, v2⟩ := hmem y (List.mem_of_getElem? hy)
     obtain ⟨qa', rfl⟩ := hrows.addr hnl
     obtain ⟨yy, yc, hyc, hys⟩ := (hrows.le hl8).row hy
     have hby : ∀ z ∈ y, 0 ≤ z ∧ z ≤ 100 := fun z hz => by have := v2 z hz; omega
     rw [fireE_some hok hfy] at hfi4 ⊢
     refine W.split rfl rfl rfl (fun h => absurd h (by simp)) (fun _ => W.go 99 rfl ?_)
     refine W.split rfl rfl rfl (fun h => absurd h (by simp)) (fun _ => W.go 99 rfl ?_)
     refine W.vf rfl rfl rfl rfl (Vf.idx1 rfl rfl rfl rfl rfl rfl rfl (hnl)) ?_
     refine W.vf rfl rfl rfl rfl (Vf.load rfl rfl rfl (hyc)) ?_
     refine W.go 99 rfl ?_
     refine W.eff rfl rfl rfl (Ef.call rfl (Sum_sp yy yc y L8 hys (by omega) hby)) ?_
     rintro _ _ _ ⟨_, rfl, rfl, rfl, rfl⟩
     refine W.go 99 rfl ?_
     rw [bne_self_eq_false]
     refine W.split rfl rfl rfl (fun h => absurd h (by simp)) (fun _ => W.go 99 rfl ?_)
     refine W.vf rfl rfl rfl rfl (Vf.idx1 rfl rfl rfl rfl rfl rfl rfl (hnl)) ?_
     refine W.vf rfl rfl rfl rfl (Vf.load rfl rfl rfl (hyc)) ?_
     refine W.go 99 rfl ?_
     refine W.eff rfl rfl rfl (Ef.call rfl (EqInts_sp fa yy fc yc y y L8 (hfi4.le hl58) hys (by omega) (by omega))) ?_
     rintro _ _ _ ⟨_, rfl, rfl, rfl, rfl⟩
     rw [show decide (y = y) = true from decide_eq_true rfl]
     refine W.go 99 rfl ?_
     refine W.split rfl rfl rfl (fun h => absurd h (by simp)) (fun _ => W.go 99 rfl ?_)
     rw [← fireE_some hok hfy]
     exact W.again (again _ _ _ _ (by omega) ⟨k + 1, f', rfl, by omega, hl58, hfew', rfl, rfl⟩) (by exact ⟨rfl, rfl, rfl, rfl, rfl, rfl, rfl, congrArg some (inc64 (by omega)), trivial⟩) (by exact ⟨rfl, trivial⟩)
 ·have hke : k = s.days.toNat := by simp at e1; omega
  rcases hfew with ⟨rfl, hno⟩ | ⟨k0, l, h0, rfl, h2, h3⟩
  ·rw [daysE_none hok (days_none fun n hn => hno n (by omega))]
   refine W.split rfl rfl rfl (fun _ => W.go 99 rfl ?_) (fun h => absurd h (by simp))
   refine W.split rfl rfl rfl (fun _ => W.go 99 rfl ?_) (fun h => absurd h (by simp))
   refine W.split rfl rfl rfl (fun _ => W.go 99 rfl ?_) (fun h => absurd h (by simp))
   refine W.eff rfl rfl rfl (Ef.call rfl (drd L5 (hgl4.le hl5))) ?_
   rintro _ _ _ ⟨_, rfl, rfl, rfl, hdm⟩
   refine W.go 99 rfl ?_
   exact W.retO r rfl ⟨rfl, (hd04.trans (Dim.of_le hl5)).trans hdm⟩
  ·rw [daysE_some hok (days_some (by omega) h2 h3)]
   refine W.split rfl rfl rfl (fun h => absurd h (by simp; omega)) (fun _ => W.go 99 rfl ?_)
   refine W.split rfl rfl rfl (fun _ => W.go 99 rfl ?_) (fun h => absurd h (by simp))
   refine W.split rfl rfl rfl (fun _ => W.go 99 rfl ?_) (fun h => absurd h (by simp))
   refine W.eff rfl rfl rfl (Ef.call rfl (drd L5 (hgl4.le hl5))) ?_
   rintro _ _ _ ⟨_, rfl, rfl, rfl, hdm⟩
   refine W.go 99 rfl ?_
   exact W.retO r rfl ⟨rfl, (hd04.trans (Dim.of_le hl5)).trans hdm⟩
end Go.Mz

