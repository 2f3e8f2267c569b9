/- Lemmas on which the claim leans. -/
import Derived.Test.YtnhckcgdmolgcaaGreatDoorMzAv
set_option maxRecDepth 100000
namespace Go.Mz
open Go Go.Conc Go.Proofs
def plansG (s : St) (hs : List Int) (each : Bool) (b : List Stand) : List (List Stand) := if fitsS s hs b then grow (fitsS s hs) ((optsS s hs allC each).drop b.length) b else []
section
variable {s : St} {hs : List Int} {each : Bool} {b : List Stand}
end
def heatsG (s : St) (b : List Int) : List (List Int) := (heatsAll s.top s.rise (s.days.toNat - b.length) (b.getLast?.getD s.now)).map (b ++ ·)
section
variable {s : St} {b : List Int}
end
def fireStep (s : St) (b : Option (List Int)) (x : List Int) : Option (List Int) := if canS s x then takeLess sumL b x else b
end Go.Mz


set_option maxRecDepth 100000
namespace Go.Mz
open Go
end Go.Mz


namespace Go.Mz
open Go
theorem mem_grow {fit : List Stand → Bool} : ∀ {os : List (List Stand)} {b x : List Stand}, x ∈ grow fit os b ↔ ∃ t, x = b ++ t ∧ t.length = os.length ∧ (∀ (i : Nat) (o : List Stand) (a : Stand), os[i]? = some o → t[i]? = some a → a ∈ o) ∧ ∀ i, i < t.length → fit (b ++ t.take (i + 1)) = true
 | [], b, x => by
  simp only [grow, List.mem_singleton]
  constructor
  ·rintro rfl; exact ⟨[], by simp, rfl, fun i o a h => by simp at h, fun i h => by simp at h⟩
  ·rintro ⟨t, rfl, h, _⟩
   obtain rfl := List.length_eq_zero_iff.1 h
   simp
 | o :: os, b, x => by
  simp only [grow, List.mem_flatMap]
  constructor
  ·rintro ⟨a, ha, hx⟩
   by_cases hf : fit (b ++ [a]) = true
   ·rw [if_pos hf] at hx
    obtain ⟨t, rfl, h1, h2, h3⟩ := mem_grow.1 hx
    refine ⟨a :: t, by simp, by simp [h1], fun i o' a' ho ha' => ?_, fun i hi => ?_⟩
    ·cases i with
     | zero => simp at ho ha'; subst ho; subst ha'; exact ha
     | succ i => exact h2 i o' a' (by simpa using ho) (by simpa using ha')
    ·cases i with
     | zero => simpa using hf
     | succ i => have := h3 i (by simpa using hi); simpa using this
   ·rw [if_neg hf] at hx; cases hx
  ·rintro ⟨t, rfl, h1, h2, h3⟩
   cases t with
   | nil => simp at h1
   | cons a t =>
    have hf : fit (b ++ [a]) = true := by have := h3 0 (by simp); simpa using this
    refine ⟨a, h2 0 o a rfl rfl, ?_⟩
    rw [if_pos hf]
    refine mem_grow.2 ⟨t, by simp, by simpa using h1, fun i o' a' ho ha' => h2 (i + 1) o' a' (by simpa using ho) (by simpa using ha'), fun i hi => ?_⟩
    have := h3 (i + 1) (by simpa using hi)
    simpa using this
theorem filter_le {α : Type} {p q : α → Bool} {l : List α} (h : ∀ x ∈ l, p x = true → q x = true) : (l.filter p).length ≤ (l.filter q).length := by
 rw [← List.countP_eq_length_filter, ← List.countP_eq_length_filter]
 exact List.countP_mono_left h
theorem fits_iff {s : St} {hs : List Int} {l : List Stand} : fitsS s hs l = true ↔ ∀ k, k < s.shelves.length → ∀ d, d < s.days.toNat → ((onS s hs l k d).length : Int) ≤ roomOf s k := by
 unfold fitsS
 simp only [List.all_eq_true, List.mem_range, decide_eq_true_eq]
theorem on_mono {s : St} {hs : List Int} {l m : List Stand} {k d : Nat} : (onS s hs l k d).length ≤ (onS s hs (l ++ m) k d).length := by
 unfold onS
 refine filter_le fun i _ h => ?_
 unfold onB at h ⊢
 cases hl : l[i]? with
 | none => rw [hl] at h; cases h
 | some a =>
  have : (l ++ m)[i]? = some a := by rw [List.getElem?_append_left (List.getElem?_eq_some_iff.1 hl).1]; exact hl
  rw [hl] at h
  rw [this]
  exact h
theorem fits_pre {s : St} {hs : List Int} {l m : List Stand} (h : fitsS s hs (l ++ m) = true) : fitsS s hs l = true := by
 rw [fits_iff] at h ⊢
 intro k hk d hd
 have h1 := h k hk d hd
 have h2 := on_mono (s := s) (hs := hs) (l := l) (m := m) (k := k) (d := d)
 omega
theorem mem_plans {s : St} (h : Ok s) {hs : List Int} {so : Nat → Bool} {each : Bool} {x : List Stand} :
  x ∈ plansS s hs so each ↔ x.length = s.cones.length ∧ (∀ (i : Nat) (c : Cone) (a : Stand), s.cones[i]? = some c → x[i]? = some a → a ∈ optS s hs (so i) each c) ∧ fitsS s hs x = true := by
 unfold plansS
 rw [mem_grow]
 constructor
 ·rintro ⟨t, ht, h1, h2, h3⟩
  have ht : x = t := by simpa using ht
  subst ht
  rw [opts_len] at h1
  refine ⟨h1, fun i c a hc ha => h2 i _ a (opts_get hc) ha, ?_⟩
  cases ht : x.length with
  | zero =>
   obtain rfl := List.length_eq_zero_iff.1 ht
   exact fits_nil h hs
  | succ m =>
   have := h3 m (by omega)
   rw [List.take_of_length_le (by omega)] at this
   exact this
 ·rintro ⟨h1, h2, h3⟩
  refine ⟨x, rfl, by rw [opts_len]; exact h1, fun i o a ho ha => ?_, fun i hi => ?_⟩
  ·have hi : i < s.cones.length := by
    have := (List.getElem?_eq_some_iff.1 ho).1
    rw [opts_len] at this; exact this
   have hc : s.cones[i]? = some s.cones[i] := List.getElem?_eq_getElem hi
   rw [opts_get hc] at ho
   cases ho
   exact h2 i _ a hc ha
  ·refine fits_pre (m := x.drop (i + 1)) ?_
   rw [List.nil_append, List.take_append_drop]
   exact h3
theorem most_mem {s : St} (h : Ok s) (hs : List Int) : mostS s hs ∈ plansS s hs allC false := by
 obtain ⟨y, hy⟩ := firstMin_some (f := fun p => - cnt p) (plans_ne h hs allC)
 unfold mostS
 rw [hy]
 exact firstMin_mem hy
theorem most_max {s : St} (h : Ok s) {hs : List Int} {x : List Stand} (hx : x ∈ plansS s hs allC false) : cnt x ≤ cnt (mostS s hs) := by
 obtain ⟨y, hy⟩ := firstMin_some (f := fun p => - cnt p) (plans_ne h hs allC)
 have := firstMin_le hy x hx
 unfold mostS
 rw [hy]
 simp only [Option.getD_some]
 omega
end Go.Mz


namespace Go.Mz
open Go
structure Harder (c c' : Cone) : Prop where
 cold : c.cold ≤ c'.cold
 jump : c.jump ≤ c'.jump
 most : c.most ≤ c'.most
 wet : c'.wet ≤ c.wet
theorem Harder.refl (c : Cone) : Harder c c := ⟨Int.le_refl _, Int.le_refl _, Int.le_refl _, Int.le_refl _⟩
theorem hot_hard {lift : Int} {c c' : Cone} (hc : Harder c c') {p : Option Int} {h : Int} (hn : hotB lift c p h = false) : hotB lift c' p h = false := by
 have h1 := hc.cold; have h2 := hc.jump; have h3 := hc.most
 unfold hotB at hn ⊢
 cases p with
 | none => simp at hn ⊢; omega
 | some q => simp at hn ⊢; omega
theorem fateL_hard {lift : Int} {c c' : Cone} (hc : Harder c c') : ∀ {l : List Int} {p : Option Int} {d sum : Int}, (fateL lift c p d sum l).1 = 0 → (fateL lift c' p d sum l).1 = 0 ∧ (fateL lift c' p d sum l).2 ≤ (fateL lift c p d sum l).2
 | [], p, d, sum, h => by simp [fateL] at h
 | x :: t, p, d, sum, h => by
  have hw := hc.wet
  unfold fateL at h ⊢
  cases hh : hotB lift c p x with
  | true => rw [hh] at h; simp at h
  | false =>
   rw [hh] at h
   rw [hot_hard hc hh]
   simp only [Bool.false_eq_true, if_false] at h ⊢
   by_cases h1 : c.wet ≤ sum + (x + lift)
   ·rw [if_pos h1, if_pos (by omega)]
    exact ⟨rfl, Int.le_refl _⟩
   ·rw [if_neg h1] at h ⊢
    by_cases h2 : c'.wet ≤ sum + (x + lift)
    ·rw [if_pos h2]
     refine ⟨rfl, ?_⟩
     cases t with
     | nil => simp [fateL] at h
     | cons y t =>
      have := (fateL_range (lift := lift) (c := c) (l := y :: t) (p := some x) (d := d + 1) (sum := sum + (x + lift))).1 (by simp)
      simp only
      omega
    ·rw [if_neg h2]
     exact fateL_hard hc h
structure Wider (s s' : St) : Prop where
 sh : s'.shelves.length = s.shelves.length
 lift : ∀ k, liftOf s' k = liftOf s k
 room : ∀ k, k < s.shelves.length → roomOf s k ≤ roomOf s' k
 days : s'.days = s.days
 len : s'.cones.length = s.cones.length
 co : ∀ (i : Nat) c c', s.cones[i]? = some c → s'.cones[i]? = some c' → Harder c c'
theorem fateS_hard {s s' : St} (w : Wider s s') {hs : List Int} {c c' : Cone} (hc : Harder c c') {a : Stand} (h : (fateS s hs c a).1 = 0) : (fateS s' hs c' a).1 = 0 ∧ (fateS s' hs c' a).2 ≤ (fateS s hs c a).2 := by
 unfold fateS at h ⊢
 rw [w.lift]
 exact fateL_hard hc h
theorem grid_wide {s s' : St} (w : Wider s s') : grid s' = grid s := by unfold grid; rw [w.sh, w.days]
theorem opt_dry {s : St} {hs : List Int} {so each : Bool} {c : Cone} {a : Stand} (h : a ∈ optS s hs so each c) : a = none1 ∨ (a ∈ grid s ∧ (fateS s hs c a).1 = 0) := by
 unfold optS at h
 rcases List.mem_append.1 h with h | h
 ·left
  split at h
  ·exact List.mem_singleton.1 h
  ·cases h
 ·right
  split at h
  ·have := List.mem_filter.1 h; exact ⟨this.1, by simpa using this.2⟩
  ·cases h
theorem plans_wide {s s' : St} (h : Ok s) (h' : Ok s') (w : Wider s s') {hs : List Int} {so : Nat → Bool} {each : Bool} {x : List Stand} (hx : x ∈ plansS s hs so each) : x ∈ plansS s' hs so each := by
 obtain ⟨h1, h2, h3⟩ := (mem_plans h).1 hx
 refine (mem_plans h').2 ⟨by rw [w.len]; exact h1, fun i c' a hc' ha => ?_, ?_⟩
 ·have hi : i < s.cones.length := by rw [← w.len]; exact (List.getElem?_eq_some_iff.1 hc').1
  have hc : s.cones[i]? = some s.cones[i] := List.getElem?_eq_getElem hi
  have hcc := w.co i _ _ hc hc'
  have := h2 i _ a hc ha
  unfold optS at this ⊢
  rcases List.mem_append.1 this with this | this
  ·exact List.mem_append_left _ this
  ·refine List.mem_append_right _ ?_
   split at this
   ·rename_i hso
    rw [if_pos hso]
    obtain ⟨g1, g2⟩ := List.mem_filter.1 this
    refine List.mem_filter.2 ⟨by rw [grid_wide w]; exact g1, ?_⟩
    have := (fateS_hard w hcc (by simpa using g2)).1
    simpa using this
   ·cases this
 ·rw [fits_iff] at h3 ⊢
  intro k hk d hd
  rw [w.sh] at hk
  rw [w.days] at hd
  have hon : (onS s' hs x k d).length ≤ (onS s hs x k d).length := by
   unfold onS
   rw [w.len]
   refine filter_le fun i hi hb => ?_
   have hi := List.mem_range.1 hi
   have hc : s.cones[i]? = some s.cones[i] := List.getElem?_eq_getElem hi
   have hc' : s'.cones[i]? = some (s'.cones[i]'(by rw [w.len]; exact hi)) := List.getElem?_eq_getElem _
   have hcc := w.co i _ _ hc hc'
   unfold onB at hb ⊢
   rw [hc'] at hb
   rw [hc]
   cases ha : x[i]? with
   | none => rw [ha] at hb; cases hb
   | some a =>
    rw [ha] at hb
    simp only [Bool.and_eq_true, beq_iff_eq, decide_eq_true_eq] at hb ⊢
    refine ⟨hb.1, ?_⟩
    rcases opt_dry (h2 i _ a hc ha) with rfl | ⟨_, hf⟩
    ·exact absurd hb.1.1 (by simp [none1])
    ·have := (fateS_hard w hcc hf).2
     have := hb.2
     omega
  have := h3 k hk d hd
  have := w.room k hk
  omega
theorem most_wide {s s' : St} (h : Ok s) (h' : Ok s') (w : Wider s s') (hs : List Int) : cnt (mostS s hs) ≤ cnt (mostS s' hs) :=
 most_max h' (plans_wide h h' w (most_mem h hs))
end Go.Mz


namespace Go.Mz
open Go
structure Renum (s s' : St) (σ : Nat → Nat) : Prop where
 sh : s'.shelves.length = s.shelves.length
 rng : ∀ k, k < s.shelves.length → σ k < s.shelves.length
 inj : ∀ j k, j < s.shelves.length → k < s.shelves.length → σ j = σ k → j = k
 sur : ∀ k, k < s.shelves.length → ∃ j, j < s.shelves.length ∧ σ j = k
 get : ∀ k, k < s.shelves.length → s'.shelves[σ k]? = s.shelves[k]?
 days : s'.days = s.days
 cones : s'.cones = s.cones
def mapSt (σ : Nat → Nat) (a : Stand) : Stand := if a.shelf < 0 then a else ⟨(σ a.shelf.toNat : Nat), a.day⟩
theorem map_none (σ : Nat → Nat) : mapSt σ none1 = none1 := rfl
theorem mem_grid {s : St} {a : Stand} : a ∈ grid s ↔ ∃ k d : Nat, k < s.shelves.length ∧ d < s.days.toNat ∧ a = ⟨k, d⟩ := by
 unfold grid
 simp only [List.mem_flatMap, List.mem_map, List.mem_range]
 constructor
 ·rintro ⟨k, hk, d, hd, rfl⟩; exact ⟨k, d, hk, hd, rfl⟩
 ·rintro ⟨k, d, hk, hd, rfl⟩; exact ⟨k, hk, d, hd, rfl⟩
theorem map_grid (σ : Nat → Nat) (k d : Nat) : mapSt σ ⟨k, d⟩ = ⟨(σ k : Nat), d⟩ := by
 unfold mapSt
 rw [if_neg (by simp only; omega)]
 simp
theorem Renum.lift {s s' : St} {σ : Nat → Nat} (r : Renum s s' σ) {k : Nat} (hk : k < s.shelves.length) : liftOf s' (σ k : Nat) = liftOf s (k : Nat) := by
 unfold liftOf
 simp only [Int.toNat_natCast]
 rw [r.get k hk]
theorem Renum.fate {s s' : St} {σ : Nat → Nat} (r : Renum s s' σ) {k : Nat} (hk : k < s.shelves.length) (hs : List Int) (c : Cone) (d : Nat) : fateS s' hs c ⟨(σ k : Nat), d⟩ = fateS s hs c ⟨k, d⟩ := by
 unfold fateS
 simp only
 rw [r.lift hk]
theorem Renum.plans {s s' : St} {σ : Nat → Nat} (r : Renum s s' σ) (h : Ok s) (h' : Ok s') {hs : List Int} {so : Nat → Bool} {each : Bool} {x : List Stand} (hx : x ∈ plansS s hs so each) : x.map (mapSt σ) ∈ plansS s' hs so each := by
 obtain ⟨h1, h2, h3⟩ := (mem_plans h).1 hx
 refine (mem_plans h').2 ⟨by rw [r.cones]; simpa using h1, fun i c a hc ha => ?_, ?_⟩
 ·rw [r.cones] at hc
  rw [List.getElem?_map] at ha
  obtain ⟨a0, ha0, rfl⟩ := Option.map_eq_some_iff.1 ha
  have := h2 i c a0 hc ha0
  unfold optS at this ⊢
  rcases List.mem_append.1 this with this | this
  ·refine List.mem_append_left _ ?_
   split at this
   ·rename_i hh
    rw [if_pos hh]
    rw [List.mem_singleton.1 this]
    exact List.mem_singleton.2 rfl
   ·cases this
  ·refine List.mem_append_right _ ?_
   split at this
   ·rename_i hso
    rw [if_pos hso]
    obtain ⟨g1, g2⟩ := List.mem_filter.1 this
    obtain ⟨k, d, hk, hd, rfl⟩ := mem_grid.1 g1
    rw [map_grid]
    refine List.mem_filter.2 ⟨mem_grid.2 ⟨σ k, d, by rw [r.sh]; exact r.rng k hk, by rw [r.days]; exact hd, rfl⟩, ?_⟩
    rw [r.fate hk]
    exact g2
   ·cases this
 ·rw [fits_iff] at h3 ⊢
  intro k' hk' d hd
  rw [r.sh] at hk'
  rw [r.days] at hd
  obtain ⟨k, hk, rfl⟩ := r.sur k' hk'
  have hon : onS s' hs (x.map (mapSt σ)) (σ k) d = onS s hs x k d := by
   unfold onS
   rw [r.cones]
   refine List.filter_congr fun i hi => ?_
   have hi := List.mem_range.1 hi
   have hc : s.cones[i]? = some s.cones[i] := List.getElem?_eq_getElem hi
   unfold onB
   rw [r.cones, hc, List.getElem?_map]
   cases ha : x[i]? with
   | none => rfl
   | some a =>
    simp only [Option.map_some]
    rcases opt_dry (h2 i _ a hc ha) with rfl | ⟨hg, _⟩
    ·have e1 : ((mapSt σ none1).shelf == ((σ k : Nat) : Int)) = false := by rw [map_none]; simp [none1]
     have e2 : (none1.shelf == ((k : Nat) : Int)) = false := by simp [none1]
     rw [e1, e2]; simp
    ·obtain ⟨j, e, hj, he, rfl⟩ := mem_grid.1 hg
     rw [map_grid, r.fate hj]
     have e1 : (((σ j : Nat) : Int) == ((σ k : Nat) : Int)) = ((j : Int) == (k : Int)) := by
      by_cases e : j = k
      ·subst e; simp
      ·have : σ j ≠ σ k := fun g => e (r.inj j k hj hk g)
       rw [beq_eq_false_iff_ne.2 (by omega), beq_eq_false_iff_ne.2 (by omega)]
     rw [e1]
  have hr : roomOf s' (σ k) = roomOf s k := by unfold roomOf; rw [r.get k hk]
  rw [hon, hr]
  exact h3 k hk d hd
theorem cnt_map {s : St} (h : Ok s) {hs : List Int} {so : Nat → Bool} {each : Bool} {x : List Stand} (hx : x ∈ plansS s hs so each) (σ : Nat → Nat) : cnt (x.map (mapSt σ)) = cnt x := by
 unfold cnt
 rw [List.countP_map]
 congr 1
 refine List.countP_congr fun a ha => ?_
 simp only [Function.comp, decide_eq_true_eq]
 unfold mapSt
 split
 ·rfl
 ·rename_i hh
  constructor
  ·intro _; omega
  ·intro _; simp only; omega
theorem Renum.inv {s s' : St} {σ : Nat → Nat} (r : Renum s s' σ) : ∃ τ, Renum s' s τ := by
 classical
 have hc : ∀ k, ∃ j, k < s.shelves.length → j < s.shelves.length ∧ σ j = k := fun k => by
  by_cases hk : k < s.shelves.length
  ·obtain ⟨j, hj⟩ := r.sur k hk; exact ⟨j, fun _ => hj⟩
  ·exact ⟨0, fun h => absurd h hk⟩
 obtain ⟨τ, hτ⟩ := Classical.axiomOfChoice hc
 refine ⟨τ, r.sh.symm, fun k hk => ?_, fun j k hj hk e => ?_, fun k hk => ?_, fun k hk => ?_, r.days.symm, r.cones.symm⟩
 ·rw [r.sh] at hk ⊢; exact (hτ k hk).1
 ·rw [r.sh] at hj hk; rw [← (hτ j hj).2, ← (hτ k hk).2, e]
 ·rw [r.sh] at hk ⊢
  exact ⟨σ k, r.rng k hk, r.inj _ _ (hτ _ (r.rng k hk)).1 hk (hτ _ (r.rng k hk)).2⟩
 ·rw [r.sh] at hk
  have := r.get (τ k) (hτ k hk).1
  rw [(hτ k hk).2] at this
  exact this.symm
theorem Renum.most {s s' : St} {σ : Nat → Nat} (r : Renum s s' σ) (h : Ok s) (h' : Ok s') (hs : List Int) : cnt (mostS s hs) = cnt (mostS s' hs) := by
 have key : ∀ {s s' : St} {σ : Nat → Nat}, Renum s s' σ → Ok s → Ok s' → cnt (mostS s hs) ≤ cnt (mostS s' hs) := fun {s s' σ} r h h' => by
  have h1 := most_mem h hs
  rw [← cnt_map h h1 σ]
  exact most_max h' (r.plans h h' h1)
 obtain ⟨τ, rτ⟩ := r.inv
 have h1 := key r h h'
 have h2 := key rτ h' h
 omega
theorem Renum.can {s s' : St} {σ : Nat → Nat} (r : Renum s s' σ) (h : Ok s) (h' : Ok s') (hs : List Int) : canS s hs = canS s' hs := by
 have key : ∀ {s s' : St} {σ : Nat → Nat}, Renum s s' σ → Ok s → Ok s' → canS s hs = true → canS s' hs = true := fun {s s' σ} r h h' hc => by
  unfold canS at hc ⊢
  cases hp : plansS s hs allC true with
  | nil => rw [hp] at hc; simp at hc
  | cons x l =>
   have hx : x ∈ plansS s hs allC true := by rw [hp]; exact List.mem_cons_self ..
   have := r.plans h h' hx
   cases hp' : plansS s' hs allC true with
   | nil => rw [hp'] at this; cases this
   | cons _ _ => rfl
 obtain ⟨τ, rτ⟩ := r.inv
 cases h1 : canS s hs with
 | true => exact (key r h h' h1).symm
 | false =>
  cases h2 : canS s' hs with
  | false => rfl
  | true => rw [key rτ h' h h2] at h1; cases h1
theorem Renum.fire {s s' : St} {σ : Nat → Nat} (r : Renum s s' σ) (h : Ok s) (h' : Ok s') (e : s'.top = s.top ∧ s'.rise = s.rise ∧ s'.now = s.now) : fireS s' = fireS s := by
 unfold fireS heatsS
 rw [e.1, e.2.1, e.2.2, r.days]
 congr 1
 exact List.filter_congr fun x _ => (r.can h h' x).symm
end Go.Mz


set_option maxRecDepth 100000
namespace Go.Mz
open Go
section
variable {s : St}
def setSh (s : St) (k : Nat) (x : Shelf) : St := { s with shelves := s.shelves.set k x }
def setCo (s : St) (k : Nat) (x : Cone) : St := { s with cones := s.cones.set k x }
theorem setSh_ok (h : Ok s) {k : Nat} {x : Shelf} (hx : 0 ≤ x.lift ∧ x.lift ≤ 3 ∧ 1 ≤ x.room ∧ x.room ≤ 2) : Ok (setSh s k x) :=
  { h with
    s1 := by have := h.s1; simpa [setSh] using this
    s3 := by have := h.s3; simpa [setSh] using this
    sh := fun y hy => by
      rcases List.mem_or_eq_of_mem_set hy with hy | rfl
      · exact h.sh y hy
      · exact hx }
theorem setCo_ok (h : Ok s) {k : Nat} {x : Cone} (hx : (1 ≤ x.wet ∧ x.wet ≤ 20) ∧ (0 ≤ x.cold ∧ x.cold ≤ 9) ∧ (0 ≤ x.jump ∧ x.jump ≤ 9) ∧ (0 ≤ x.most ∧ x.most ≤ 9)) : Ok (setCo s k x) :=
  { h with
    c3 := by have := h.c3; simpa [setCo] using this
    co := fun y hy => by
      rcases List.mem_or_eq_of_mem_set hy with hy | rfl
      · exact h.co y hy
      · exact hx }
theorem setSh_wide (h : Ok s) {k : Nat} {y : Shelf} (hk : s.shelves[k]? = some y) : Ok (setSh s k ⟨y.lift, 2⟩) ∧ Wider s (setSh s k ⟨y.lift, 2⟩) := by
 have hy := h.sh y (List.mem_of_getElem? hk)
 refine ⟨setSh_ok h ⟨hy.1, hy.2.1, by simp, by simp⟩, by simp [setSh], fun j => ?_, fun j hj => ?_, rfl, rfl, fun i c c' h1 h2 => ?_⟩
 ·unfold liftOf setSh
  simp only
  by_cases e : k = j.toNat
  ·subst e
   rw [List.getElem?_set_self (List.getElem?_eq_some_iff.1 hk).1, hk]
   rfl
  ·rw [List.getElem?_set_ne e]
 ·unfold roomOf setSh
  simp only
  by_cases e : k = j
  ·subst e
   rw [List.getElem?_set_self hj, hk]
   simp only [Option.map_some, Option.getD_some]
   omega
  ·rw [List.getElem?_set_ne e]
   exact Int.le_refl _
 ·have h2' : s.cones[i]? = some c' := h2
  rw [h1] at h2'
  cases h2'
  exact Harder.refl c
theorem setCo_wide (h : Ok s) {k : Nat} {y x : Cone} (hk : s.cones[k]? = some y) (hx : (1 ≤ x.wet ∧ x.wet ≤ 20) ∧ (0 ≤ x.cold ∧ x.cold ≤ 9) ∧ (0 ≤ x.jump ∧ x.jump ≤ 9) ∧ (0 ≤ x.most ∧ x.most ≤ 9)) (hh : Harder y x) : Ok (setCo s k x) ∧ Wider s (setCo s k x) := by
 refine ⟨setCo_ok h hx, rfl, fun j => rfl, fun j _ => Int.le_refl _, rfl, by simp [setCo], fun i c c' h1 h2 => ?_⟩
 unfold setCo at h2
 simp only at h2
 by_cases e : k = i
 ·subst e
  rw [List.getElem?_set_self (List.getElem?_eq_some_iff.1 hk).1] at h2
  rw [hk] at h1
  cases h1; cases h2
  exact hh
 ·rw [List.getElem?_set_ne e, h1] at h2
  cases h2
  exact Harder.refl c
def layS (s : St) (o : List Nat) (n : Nat) : List Shelf := (List.range n).foldl (fun l i => match s.shelves[i]?, o[i]? with
 | some x, some j => l.set j x
 | _, _ => l) s.shelves
structure Perm (n : Nat) (o : List Nat) : Prop where
 p : o.Perm (List.range n)
theorem Perm.len {n : Nat} {o : List Nat} (h : Perm n o) : o.length = n := by rw [h.p.length_eq, List.length_range]
theorem Perm.lt {n : Nat} {o : List Nat} (h : Perm n o) : ∀ j ∈ o, j < n := fun j hj => List.mem_range.1 (h.p.mem_iff.1 hj)
theorem Perm.nd {n : Nat} {o : List Nat} (h : Perm n o) : o.Nodup := h.p.nodup_iff.2 List.nodup_range
theorem Perm.sur {n : Nat} {o : List Nat} (h : Perm n o) {k : Nat} (hk : k < n) : ∃ i, i < n ∧ o[i]? = some k := by
 have hm : k ∈ o := h.p.mem_iff.2 (List.mem_range.2 hk)
 obtain ⟨i, hi⟩ := List.mem_iff_getElem?.1 hm
 exact ⟨i, by have := (List.getElem?_eq_some_iff.1 hi).1; rw [h.len] at this; exact this, hi⟩
theorem Perm.inj {n : Nat} {o : List Nat} (h : Perm n o) {i j k : Nat} (hi : o[i]? = some k) (hj : o[j]? = some k) : i = j := by
 obtain ⟨h1, e1⟩ := List.getElem?_eq_some_iff.1 hi
 obtain ⟨h2, e2⟩ := List.getElem?_eq_some_iff.1 hj
 exact (List.getElem_inj h.nd).1 (e1.trans e2.symm)
end
end Go.Mz


set_option maxRecDepth 100000
namespace Go.Mz
open Go.Conc Go.Proofs
variable {X : Logic Tryz.prog}
end Go.Mz


namespace Go.Mz
open Go
def onlyS (s : St) (l : List Nat) : St := { s with cones := l.filterMap fun i => s.cones[i]? }
section
variable {s : St} {hs : List Int}
end
end Go.Mz


set_option maxRecDepth 100000
namespace Go.Mz
open Go
section
variable {s : St} {hs : List Int}
theorem openE_e (h : Ok s) : openE s hs [] [] = heatsE s hs := by
 unfold openE
 rw [ok_iff.2 h]
 by_cases hh : heatsE s hs = 0
 ·rw [hh]; simp [firstE]
 ·simp [firstE, hh]
theorem openE_0 (h : Ok s) (hh : heatsE s hs = 0) : openE s hs [] [] = 0 := by rw [openE_e h, hh]
end
end Go.Mz


set_option maxRecDepth 100000
namespace Go.Mz
open Go.Conc Go.Proofs
theorem mostE_ok {s : St} {hs : List Int} (h : Ok s) (hh : heatsE s hs = 0) : MostE s hs = (mostS s hs, cnt (mostS s hs), 0) := by unfold MostE; rw [if_neg (by rw [openE_0 h hh]; simp)]
theorem Grow.over {α : Type} {I L L' : LH} {k : Nat} {e : TypeId} {enc : α → List Value} {v : Value} {l : List α} (h : Grow I k e enc L v l) (hL : Le L L') (hl : 0 < l.length) : ∃ bs, I bs = none ∧ L bs ≠ none ∧ Grow (L'.but bs) k e enc L' v l := by
 obtain ⟨_, ob, ho, hn⟩ := h
 cases ob with
 | none => obtain ⟨_, h, _⟩ := ho; omega
 | some bs => exact ⟨bs, hn bs rfl, ho.blk, but_le _ _, some bs, ho.le hL, fun b' hb' => by cases hb'; unfold LH.but; rw [if_pos rfl]⟩
theorem Grow.off {α : Type} {I L : LH} {k : Nat} {e : TypeId} {enc : α → List Value} {ad : Option Addr} {len cap : Nat} {l : List α} {bs : Nat} (h : Grow I k e enc L (.slice ad len cap) l) (hk : ∀ x, (enc x).length = k) (hb : I bs ≠ none) : SlAt (L.but bs) ad k enc l := by
 obtain ⟨_, ob, ho, hn⟩ := h
 obtain ⟨ad', cap', e1, _⟩ := ho.slice
 cases e1
 exact (ho.keep (L' := L.but bs) fun b' hb' => but_get (fun e => hb (by rw [← e]; exact hn b' hb'))).at hk
variable {Post : Value → World → Prop} {W0 : World}
end Go.Mz


set_option maxRecDepth 100000
namespace Go.Mz
open Go.Conc Go.Proofs
theorem flat_at {α : Type} {enc : α → List Value} {k : Nat} (hk : ∀ x, (enc x).length = k) {l : List α} {d f : Nat} (hd : d < l.length) (hf : f < k) : (l.flatMap enc)[d * k + f]? = (enc l[d])[f]? := by
 have hv : (enc l[d])[f]? = some ((enc l[d])[f]'(by rw [hk]; exact hf)) := List.getElem?_eq_getElem _
 rw [flat_get hk (List.getElem?_eq_getElem hd) hv, hv]
theorem Grow.setF {α : Type} {I L : LH} {k : Nat} {e : TypeId} {enc : α → List Value} {v : Value} {l : List α} {d f : Nat} (h : Grow I k e enc L v l) (hk : ∀ x, (enc x).length = k) (hd : d < l.length) (hf : f < k) (x : α) {w : Value} (hw : (enc x)[f]? = some w) (hx : ∀ j, j ≠ f → (enc x)[j]? = (enc l[d])[j]?) :
  ∃ b cap c, v = .slice (some ⟨b, 0, none⟩) l.length cap ∧ I b = none ∧ L b = some (.cells c e (0, 0), true) ∧ d * k + f + 1 ≤ c.size ∧ Grow I k e enc (L.put b (.cells (putRow c (d * k + f) [w]) e)) v (l.set d x) := by
 obtain ⟨hI, ob, ho, hn⟩ := h
 cases ob with
 | none => obtain ⟨_, h, _⟩ := ho; omega
 | some b =>
  obtain ⟨cap, c, h1, h2, h3, h4, h5, h6⟩ := ho
  have hsz : d * k + k ≤ c.size := by
   rw [h3, ← Nat.succ_mul]
   exact Nat.mul_le_mul_right _ (by omega)
  have hb := hn b rfl
  refine ⟨b, cap, c, h1, hb, h2, by omega, fun b' y hy => ?_, some b, ⟨cap, putRow c (d * k + f) [w], ?_, put_same _ _ _, ?_, ?_, ?_, fun i y hy => ?_⟩, fun b' hb' => by cases hb'; exact hb⟩
  ·rw [put_ne _ _ (fun e => by subst e; rw [hb] at hy; cases hy)]; exact hI _ _ hy
  ·rw [List.length_set]; exact h1
  ·rw [putRow_size]; exact h3
  ·rw [List.length_set]; exact h4
  ·exact flat_len hk _
  ·rw [flat_set_get hk l d x i hd] at hy
   rw [putRow_get]
   by_cases he : i = d * k + f
   ·subst he
    rw [if_pos (by omega), show d * k + f - d * k = f by omega, hw] at hy
    cases hy
    rw [if_neg (by omega), dif_pos ⟨by simp, by omega⟩]
    simp
   ·have hold : (l.flatMap enc)[i]? = some y := by
     split at hy
     ·rename_i h7
      rw [hx _ (by omega)] at hy
      rw [show i = d * k + (i - d * k) by omega, flat_at hk hd (by omega)]
      exact hy
     ·exact hy
    have := h6 i y hold
    split
    ·exact this
    ·rw [dif_neg (by simp; omega)]; exact this
theorem hat_of {J L : LH} {b : Nat} {ad : Option Addr} {cap : Nat} {l : List Int} {n : Nat} (hb : ∃ seed : Int, L b = some (.cells [Value.slice ad l.length cap, .int .i64 n, .int .u64 seed].toArray 98 (0, 0), true)) (hJ : Le J L) (hj : J b = none) (hi : IntsAt J ad l) : HatAt L b ad cap l n :=
 ⟨hb, hi.le fun b' x hx => by
  have hb1 : b' ≠ b := fun e => by subst e; rw [hj] at hx; cases hx
  rw [but_get hb1]; exact hJ _ _ hx⟩
theorem Grow.stir {α : Type} {J L L' : LH} {k : Nat} {e : TypeId} {enc : α → List Value} {v : Value} {l : List α} {b : Nat} {c : Array Value} {t : TypeId} (h : Grow J k e enc L v l) (hj : J b = none) (hb : L b = some (.cells c t (0, 0), true)) (he : t ≠ e) (hk : ∀ b', b' ≠ b → L' b' = L b') : Grow J k e enc L' v l := by
 obtain ⟨hJ, ob, hw, hn⟩ := h
 refine ⟨fun b' x hx => ?_, ob, hw.keep fun b' hb' => hk b' fun e' => ?_, hn⟩
 ·rw [hk b' (fun e => by subst e; rw [hj] at hx; cases hx)]; exact hJ _ _ hx
 ·subst e' hb'
  obtain ⟨cap, c2, _, h2, _⟩ := hw
  rw [hb] at h2
  cases h2
  exact he rfl
theorem Grow.lessI {α : Type} {I I' L : LH} {k : Nat} {e : TypeId} {enc : α → List Value} {v : Value} {l : List α} (h : Grow I k e enc L v l) (hl : Le I' I) : Grow I' k e enc L v l :=
 let ⟨h1, ob, ho, hn⟩ := h; ⟨hl.trans h1, ob, ho, fun b hb => none_of_le hl (hn b hb)⟩
theorem Grow.off2 {α : Type} {I L : LH} {k : Nat} {e : TypeId} {enc : α → List Value} {ad : Option Addr} {len cap : Nat} {l : List α} {bs b : Nat} (h : Grow I k e enc L (.slice ad len cap) l) (hk : ∀ x, (enc x).length = k) (hs : I bs ≠ none) (hb : I b ≠ none) : SlAt ((L.but bs).but b) ad k enc l := by
 obtain ⟨_, ob, ho, hn⟩ := h
 obtain ⟨ad', cap', e1, _⟩ := ho.slice
 cases e1
 exact (ho.keep (L' := (L.but bs).but b) fun b' hb' => (but_get (fun e => hb (by rw [← e]; exact hn b' hb'))).trans (but_get (fun e => hs (by rw [← e]; exact hn b' hb')))).at hk
theorem but_self (L : LH) (b : Nat) : L.but b b = none := by unfold LH.but; rw [if_pos rfl]
theorem but2_le {L L5 : LH} {bs b : Nat} (hl : Le L L5) (hs : L bs = none) : Le (L.but b) ((L5.but bs).but b) := fun b' x hx => by
 have hb : b' ≠ b := fun e => by subst e; rw [but_self] at hx; cases hx
 rw [but_get hb] at hx ⊢
 rw [but_get (fun e => by subst e; rw [hs] at hx; cases hx)]
 exact hl _ _ hx
theorem Grow.offL {α : Type} {I L L' : LH} {k : Nat} {e : TypeId} {enc : α → List Value} {ad : Option Addr} {len cap : Nat} {l : List α} {bs : List Nat} (h : Grow I k e enc L (.slice ad len cap) l) (hk : ∀ x, (enc x).length = k) (hL : Le L L') (hb : ∀ b ∈ bs, I b ≠ none ∨ L b = none) : SlAt (L'.less bs) ad k enc l := by
 obtain ⟨_, ob, ho, hn⟩ := h
 obtain ⟨ad', cap', e1, _⟩ := ho.slice
 cases e1
 refine (Own.keep (L' := L'.less bs) (ho.le hL) fun b' hb' => less_get fun hm => ?_).at hk
 rcases hb b' hm with h1 | h1
 ·exact h1 (hn b' hb')
 ·subst hb'; exact Own.blk ho h1
theorem Grow.overL {α : Type} {I L L' : LH} {k : Nat} {e : TypeId} {enc : α → List Value} {v : Value} {l : List α} (h : Grow I k e enc L v l) (hL : Le L L') (hl : 0 < l.length) : ∃ bo cap, v = .slice (some ⟨bo, 0, none⟩) l.length cap ∧ I bo = none ∧ L bo ≠ none ∧ ∀ bs, bo ∈ bs → Grow (L'.less bs) k e enc L' v l := by
 obtain ⟨_, ob, ho, hn⟩ := h
 cases ob with
 | none => obtain ⟨_, h, _⟩ := ho; omega
 | some bo =>
  obtain ⟨cap, _, h1, _⟩ := id ho
  exact ⟨bo, cap, h1, hn bo rfl, ho.blk, fun bs hm => ⟨less_le _ _, some bo, ho.le hL, fun b' hb' => by cases hb'; exact less_none hm⟩⟩
theorem Grow.besideA {α : Type} {J L : LH} {k : Nat} {e : TypeId} {enc : α → List Value} {l : List α} {bl b len cap : Nat} {o : Obj} (h : Grow J k e enc L (.slice (some ⟨bl, 0, none⟩) len cap) l) (hne : bl ≠ b) (hj : J b = none) : Grow J k e enc (L.put b o) (.slice (some ⟨bl, 0, none⟩) len cap) l := by
 obtain ⟨hJ, ob, hw, hn⟩ := h
 refine ⟨le_put_none hJ hj _, ob, hw.keep fun b' hb' => put_ne _ _ fun e' => ?_, hn⟩
 subst hb'
 obtain ⟨_, _, h1, _⟩ := hw
 cases h1
 exact hne e'
theorem Grow.atA {α : Type} {J L : LH} {k : Nat} {e : TypeId} {enc : α → List Value} {l : List α} {bl b len cap : Nat} (h : Grow J k e enc L (.slice (some ⟨bl, 0, none⟩) len cap) l) (hk : ∀ x, (enc x).length = k) (hne : bl ≠ b) : SlAt (L.but b) (some ⟨bl, 0, none⟩) k enc l := by
 obtain ⟨_, ob, ho, hn⟩ := h
 obtain ⟨ad', cap', e1, _⟩ := ho.slice
 cases e1
 refine (Own.keep (L' := L.but b) ho fun b' hb' => but_get fun e' => ?_).at hk
 subst hb'
 obtain ⟨_, _, h1, _⟩ := ho
 cases h1
 exact hne e'
theorem Grow.baseA {α : Type} {J L : LH} {k : Nat} {e : TypeId} {enc : α → List Value} {l : List α} {bl len cap : Nat} (h : Grow J k e enc L (.slice (some ⟨bl, 0, none⟩) len cap) l) : Grow (L.but bl) k e enc L (.slice (some ⟨bl, 0, none⟩) len cap) l := by
 obtain ⟨_, ob, ho, hn⟩ := h
 refine ⟨but_le _ _, ob, ho, fun b' hb' => ?_⟩
 subst hb'
 obtain ⟨_, _, h1, _⟩ := ho
 cases h1
 exact but_self _ _
theorem SlAt.conv {α β : Type} {L : LH} {ad : Option Addr} {k : Nat} {enc : α → List Value} {enc2 : β → List Value} {l : List α} {l2 : List β} (h : SlAt L ad k enc l) (he : l2.map enc2 = l.map enc) : SlAt L ad k enc2 l2 := fun i x hx => by
 have h1 : (l2.map enc2)[i]? = some (enc2 x) := by rw [List.getElem?_map, hx]; rfl
 rw [he, List.getElem?_map] at h1
 obtain ⟨y, hy, e⟩ := Option.map_eq_some_iff.1 h1
 rw [← e]
 exact h i y hy
end Go.Mz


set_option maxRecDepth 100000
namespace Go.Mz
open Go
section
variable {s : St} {hs : List Int}
end
def pickL (n : Nat) : Nat → Nat → List (List Nat)
 | 0, _ => [[]]
 | m + 1, first => (List.range' first (n - first)).flatMap fun i => (pickL n m (i + 1)).map (i :: ·)
end Go.Mz


set_option maxRecDepth 100000
namespace Go.Mz
open Go.Conc Go.Proofs
abbrev Rw (α : Type) := Rf × List α
def encRw {α : Type} (x : Rw α) : List Value := [slV x.1]
theorem encRw_len {α : Type} (x : Rw α) : (encRw x).length = 1 := rfl
structure RwOk {α : Type} (L : LH) (k : Nat) (enc : α → List Value) (x : Rw α) : Prop where
 sl : SlAt L x.1.1 k enc x.2
 len : x.1.2.1 = x.2.length
theorem RwOk.le {α : Type} {L L' : LH} {k : Nat} {enc : α → List Value} {x : Rw α} (h : RwOk L k enc x) (hl : Le L L') : RwOk L' k enc x := ⟨h.sl.le hl, h.len⟩
def RowsAt {α : Type} (L : LH) (ad : Option Addr) (k : Nat) (enc : α → List Value) (ls : List (List α)) : Prop := ∃ rs : List (Rw α), rs.map Prod.snd = ls ∧ SlAt L ad 1 encRw rs ∧ ∀ x ∈ rs, RwOk L k enc x
def GrowL {α : Type} (I : LH) (e k : Nat) (enc : α → List Value) (L : LH) (v : Value) (ls : List (List α)) : Prop := ∃ J, ∃ rs : List (Rw α), Le I J ∧ rs.map Prod.snd = ls ∧ Grow J 1 e encRw L v rs ∧ ∀ x ∈ rs, RwOk J k enc x
section
variable {β : Type} {F F' I L L' L2 : LH} {e k : Nat} {enc : β → List Value} {v : Value} {l : List β}
theorem Own.some_blk {v : Value} {n : Nat} {cs : List Value} {ob : Option Nat} (h : Own L k e v n cs ob) {b : Nat} (hb : ob = some b) : L b ≠ none := by subst hb; exact h.blk
theorem Grow.call (h : Grow F k e enc L v l) (p : Post F L F' L2) : Grow F' k e enc L2 v l := by
 obtain ⟨_, ob, ho, hf⟩ := h
 refine ⟨p.le, ob, ho.keep fun b hb => ?_, fun b hb => ?_⟩
 ·cases hx : L b with
  | none => exact absurd hx (ho.some_blk hb)
  | some y => exact p.keep b y (hf b hb) hx
 ·cases hx : F' b with
  | none => rfl
  | some y =>
   rcases p.fresh b (by rw [hx]; simp) with e1 | e1
   ·exact absurd (hf b hb) e1
   ·exact absurd e1 (ho.some_blk hb)
end
section
variable {α : Type} {I L L' : LH} {e k : Nat} {enc : α → List Value} {v : Value} {ls : List (List α)}
theorem GrowL.hle (h : GrowL I e k enc L v ls) : Le I L := let ⟨_, _, h1, _, h, _⟩ := h; h1.trans h.1
theorem GrowL.le (h : GrowL I e k enc L v ls) (hl : Le L L') : GrowL I e k enc L' v ls := let ⟨J, rs, h0, h1, h2, h3⟩ := h; ⟨J, rs, h0, h1, h2.le hl, h3⟩
theorem GrowL.less {I' : LH} (h : GrowL I e k enc L v ls) (hl : Le I' I) : GrowL I' e k enc L v ls := let ⟨J, rs, h0, h1, h2, h3⟩ := h; ⟨J, rs, hl.trans h0, h1, h2, h3⟩
theorem GrowL.nil (h : Le I L) : GrowL I e k enc L (.slice none 0 0) ([] : List (List α)) := ⟨L, [], h, rfl, Grow.nil (Le.refl _), fun x hx => by cases hx⟩
theorem GrowL.slice (h : GrowL I e k enc L v ls) : ∃ ad cap, v = .slice ad ls.length cap := by
 obtain ⟨J, rs, _, rfl, h2, _⟩ := h
 obtain ⟨ad, cap, rfl, -⟩ := h2.slice
 exact ⟨ad, cap, by rw [List.length_map]⟩
theorem GrowL.at {ad : Option Addr} {len cap : Nat} (h : GrowL I e k enc L (.slice ad len cap) ls) : len = ls.length ∧ RowsAt L ad k enc ls := by
 obtain ⟨J, rs, _, rfl, h2, h3⟩ := h
 obtain ⟨rfl, h4⟩ := h2.at encRw_len
 exact ⟨(List.length_map ..).symm, rs, rfl, h4, fun x hx => (h3 x hx).le h2.1⟩
theorem RowsAt.le {ad : Option Addr} (h : RowsAt L ad k enc ls) (hl : Le L L') : RowsAt L' ad k enc ls := let ⟨rs, h1, h2, h3⟩ := h; ⟨rs, h1, h2.le hl, fun x hx => (h3 x hx).le hl⟩
theorem RowsAt.addr {ad : Option Addr} (h : RowsAt L ad k enc ls) {i : Nat} (hi : i < ls.length) : ∃ a, ad = some a := by
 obtain ⟨rs, rfl, h2, _⟩ := h
 exact h2.addr (by simpa using hi)
theorem RowsAt.row {ad : Addr} (h : RowsAt L (some ad) k enc ls) {i : Nat} {l : List α} (hl : ls[i]? = some l) : ∃ a c, L.cell? (ad.add i) = some (.slice a l.length c) ∧ SlAt L a k enc l := by
 obtain ⟨rs, rfl, h2, h3⟩ := h
 rw [List.getElem?_map] at hl
 obtain ⟨⟨⟨a, n, c⟩, l'⟩, hx, rfl⟩ := Option.map_eq_some_iff.1 hl
 have hk := h3 _ (List.mem_of_getElem? hx)
 have hn : n = l'.length := hk.len
 subst hn
 refine ⟨a, c, ?_, hk.sl⟩
 have := h2.get hx (j := 0) (v := slV (a, l'.length, c)) rfl
 simpa using this
theorem Grow.lit {β : Type} {encB : β → List Value} {l : List β} {b : Nat} (hk : ∀ x, (encB x).length = k) (h : Le I L) (hb : L b = some (.cells (l.flatMap encB).toArray e (0, 0), true)) (hn : I b = none) : Grow I k e encB L (.slice (some ⟨b, 0, none⟩) l.length l.length) l :=
 ⟨h, some b, ⟨l.length, (l.flatMap encB).toArray, rfl, hb, by simp [flat_len hk], Nat.le_refl _, flat_len hk l, fun i x hx => by simpa using hx⟩, fun b' hb' => by cases hb'; exact hn⟩
theorem GrowL.one {b : Nat} {a : Option Addr} {c : Nat} {l : List α} (hl : SlAt I a k enc l) (hI : Le I L) (hb : L b = some (.cells #[.slice a l.length c] e (0, 0), true)) (hn : I b = none) : GrowL I e k enc L (.slice (some ⟨b, 0, none⟩) 1 1) [l] :=
 ⟨I, [((a, l.length, c), l)], Le.refl _, rfl, Grow.lit (l := [((a, l.length, c), l)]) encRw_len hI hb hn, fun x hx => by rw [List.mem_singleton.1 hx]; exact ⟨hl, rfl⟩⟩
end
section
variable {X : Logic Tryz.prog}
end
end Go.Mz


set_option maxRecDepth 100000
namespace Go.Mz
open Go.Conc Go.Proofs
theorem encSP_sg (x : St × Pt) : ∀ u ∈ encSP x, single u = true := singles rfl
theorem stA_sh (s : St) (k : Nat) (x : Shelf) (p : Pt) : stA s p = stA (setSh s k x) p := by unfold stA setSh; simp
theorem stA_co (s : St) (k : Nat) (x : Cone) (p : Pt) : stA s p = stA (setCo s k x) p := by unfold stA setCo; simp
variable {Post : Value → World → Prop} {W0 : World}
theorem ShH_run (na : Option Addr) (nc : Nat) (nums : List Int) (L : LH) (hn : IntsAt L na nums) (hgl : GlOk L) (hl2 : nums.length ≤ 140737488355328)
  (hQ : ∀ v L' w, (v = .bool true ∧ Dim L L') → Sub L' w → Same W0 w → Post v w) :
  FGo Tryz.prog Post W0 (G (Frame.enter Tryz.prog 6 [.slice na nums.length nc].toArray .normal) []) L := by
 refine root_enter (n := 135) (s := 2) Tryz.func6 rfl rfl (by kernel_rfl) rfl rfl hQ fun C hX _ hL0 r => ?_
 have drd : ∀ L2, GlOk L2 → Sp C.X 21 [] L2 (fun v L' => v = .bool true ∧ Dim L2 L') := fun L2 h => by rw [hX]; exact dried_sp L2 h
 refine W.go 99 rfl ?_
 refine W.eff rfl rfl rfl (Ef.call rfl (NewHat_sp na nc nums L hn)) ?_
 rintro _ _ _ ⟨_, rfl, rfl, b, rfl, hb, hle1, hh1⟩
 refine W.go 99 rfl ?_
 rename_i L1
 have hb1 := le_but hb hle1
 refine W.eff rfl rfl rfl (Ef.call rfl (made_sp b na nc nums 0 L1 hh1 (by omega) hl2)) ?_
 rintro _ _ _ ⟨_, rfl, rfl, s, p, m, rfl, hs, hm, hle2, hh2, hst2⟩
 refine W.go 99 rfl ?_
 rename_i L2
 have hok : Ok s := hs.elim (fun h => h.ok) (fun h => h.ok)
 have o1 := hok.s1
 have o3 := hok.s3
 have hc3 := hok.c3
 have o4 := hok.d4
 have o5 := hok.d1
 refine W.eff rfl rfl rfl (Ef.call rfl (HeatsOf_sp s p b na nc nums m L2 hh2 (by omega) hl2 hok)) ?_
 rintro _ _ _ ⟨_, rfl, rfl, t, I3, m2, ht, hm2, hg3⟩
 rename_i L3 _
 have hhk := hok_of ht
 have htl := hhk.len
 obtain ⟨ta, tc, rfl, _⟩ := hg3.g.slice
 obtain ⟨sd3, hb3⟩ := hg3.hat.blk
 have ht3 := (hg3.g.sl_but encI_len hb3 (by decide)).2
 have hst3 : StAt (L3.but b) s p := hst2.le (but_but hg3.le)
 have hL3 : Le L (L3.but b) := hb1.trans (but_but (but_trans hle2 hg3.le))
 refine W.go 99 rfl ?_
 have hM1 := Most_sp (X := C.X) s p ta tc t L3 ⟨hst3.le (but_le _ _), ht3.le (but_le _ _), hgl.le (hL3.trans (but_le _ _)), by omega⟩
 rw [mostE_ok hok ht] at hM1
 refine W.eff rfl rfl rfl (Ef.call rfl (hM1)) ?_
 rintro _ _ _ ⟨_, rfl, rfl, _, rfl, a1, b1, rfl, f4, -, -⟩
 refine W.go 99 rfl ?_
 rename_i L4
 have hst4 := hst3.le (but_but ((but_le _ _).trans f4))
 have ht4 := ht3.le (but_but ((but_le _ _).trans f4))
 have hL4 : Le L (L4.but b) := hL3.trans (but_but ((but_le _ _).trans f4))
 have hb4 := f4 _ _ hb3
 have hn4 : IntsAt (L4.but b) na nums := hn.le hL4
 clear hst3 ht3 hL3 hg3
 refine W.eff rfl rfl rfl (Ef.call rfl (DupStove_sp s p L4 (hst4.le (but_le _ _)) (by omega) (by omega))) ?_
 rintro _ _ _ ⟨_, rfl, rfl, sa, ca, c1, c2, I5, rfl, hg1, hg2⟩
 rename_i L5
 have hb5I := hg1.1 _ _ hb4
 have hb5 := hg2.1 _ _ hb5I
 obtain ⟨bs, hbs4, hbs5, hg5⟩ := hg1.over hg2.1 o1
 have hbsb : bs ≠ b := fun e => by subst e; rw [hb4] at hbs4; cases hbs4
 have hco5 : SlAt ((L5.but bs).but b) ca 4 encCo s.cones := hg2.off2 encCo_len hbs5 (by rw [hb5I]; simp)
 have h4J : Le (L4.but b) ((L5.but bs).but b) := but2_le (hg1.1.trans hg2.1) hbs4
 have hg5 : Grow ((L5.but bs).but b) 2 59 encSh L5 (.slice sa s.shelves.length c1) s.shelves := hg5.lessI (but_le _ _)
 have hJb : ((L5.but bs).but b) b = none := but_self _ _
 generalize (L5.but bs).but b = J at hco5 h4J hg5 hJb
 clear hg1 hg2 hbs5 hb5I
 have hstJ := hst4.le h4J
 have htJ := ht4.le h4J
 have hnJ := hn4.le h4J
 have hLJ := hL4.trans h4J
 have hh5 : HatAt L5 b na nc nums m2 := hat_of ⟨_, hb5⟩ hg5.1 hJb hnJ
 have hJk : ∀ {L'}, (∀ b', b' ≠ b → L' b' = L5 b') → Le J L' := fun hk b' x hx => (hk b' (fun e => by subst e; rw [hJb] at hx; cases hx)).trans (hg5.1 _ _ hx)
 refine W.go 99 rfl ?_
 have hto := To_sp (X := C.X) b na nc nums m2 (s.shelves.length - 1) L5 hh5 (by omega) hl2 (by omega)
 rw [show ((s.shelves.length - 1 : Nat) : Int) = (s.shelves.length : Int) - 1 by omega] at hto
 refine W.drawn (by kernel_rfl) J hg5.1 ?_
 refine DD.run' [0, 1, 2, 3, 4, 5, 6] rfl ?_
 rw [wrap64_in _ (by omega) (by omega)]
 refine DD.act 7 rfl rfl rfl rfl rfl (Ef.call rfl (hto)) ((by rintro _ _ _ ⟨_, rfl, rfl, ⟨y, rfl, _⟩, hk, _⟩; exact ⟨hJk hk, rfl, .inl rfl⟩)) ?_
 rintro _ _ _ ⟨_, rfl, rfl, ⟨y, rfl, hy⟩, hk6, hs6⟩
 rename_i L6
 have hyl : y < s.shelves.length := by omega
 obtain ⟨ys, hys⟩ : ∃ x, s.shelves[y]? = some x := ⟨_, List.getElem?_eq_getElem hyl⟩
 have hg6 := hg5.stir hJb hb5 (by decide) hk6
 obtain ⟨b2, cap2, c4, hv4, hJ4, hb4', hsz4, hset4⟩ := hg6.setF (d := y) (f := 1) encSh_len hyl (by omega) (⟨ys.lift, 2⟩ : Shelf) (w := .int .i64 2) rfl (fun j hj => by
  obtain ⟨_, rfl⟩ := List.getElem?_eq_some_iff.1 hys
  match j with
  | 0 => rfl
  | 1 => exact absurd rfl hj
  | j + 2 => rfl)
 obtain rfl : sa = some ⟨b2, 0, none⟩ := by injection hv4
 refine DD.vf 8 rfl rfl rfl rfl rfl (Vf.idx rfl rfl rfl rfl rfl rfl (hyl)) ?_
 refine DD.run' [9] rfl ?_
 have hx7 : (Addr.add (Addr.add ⟨b2, 0, none⟩ (y * 2)) 1) = ⟨b2, y * 2 + 1, none⟩ := by rw [add_of, Nat.zero_add, add_of]
 refine DD.act 10 rfl rfl rfl rfl rfl (Ef.stoF (congrArg (fun a => some (SV.v (.pointer (some a)))) hx7) ⟨_, rfl, rfl⟩ rfl hb4' rfl hsz4 (singles rfl)) ((by rintro _ _ _ ⟨rfl, rfl, rfl⟩; exact ⟨hset4.1, rfl, .inl rfl⟩)) ?_
 rintro _ _ _ ⟨rfl, rfl, rfl⟩
 have hbb2 : b2 ≠ b := fun e => by subst e; obtain ⟨sd, g⟩ := hs6; rw [g] at hb4'; cases hb4'
 have hh7 : HatAt (L6.put b2 (.cells (putRow c4 (y * 2 + 1) [.int .i64 2]) 59)) b na nc nums (m2 + 1) := by
  obtain ⟨sd, g⟩ := hs6
  exact hat_of ⟨sd, (put_ne _ _ (Ne.symm hbb2)).trans g⟩ hset4.1 hJb hnJ
 refine .fin rfl ?_
 refine W.go 99 rfl ?_
 refine W.pub 10 (.inr ⟨_, _, _, rfl⟩) rfl rfl ?_
 intro bw hbw _
 change W C _ _ _ _ _ ((L6.put b2 (.cells (putRow c4 (y * 2 + 1) [.int .i64 2]) 59)).put bw (.cells (bxS s ⟨some ⟨b2, 0, none⟩, ca, c1, c2⟩).toArray 25))
 have hbw : (L6.put b2 (.cells (putRow c4 (y * 2 + 1) [.int .i64 2]) 59)) bw = none := hbw
 generalize L6.put b2 (.cells (putRow c4 (y * 2 + 1) [.int .i64 2]) 59) = L7 at hset4 hh7 hbw ⊢
 obtain ⟨hok1, hwd1⟩ := setSh_wide hok hys
 have hst1 : StAt (L7.but b) (setSh s y ⟨ys.lift, 2⟩) ⟨some ⟨b2, 0, none⟩, ca, c1, c2⟩ := ⟨(hset4.sl_but encSh_len (hh7.blk.choose_spec) (by decide)).2, hco5.le (fun b' x hx => by rw [but_get (fun e => by subst e; rw [hJb] at hx; cases hx)]; exact hset4.1 _ _ hx), by show (s.shelves.set y _).length ≤ _; rw [List.length_set]; omega, by show s.cones.length ≤ _; omega⟩
 have hJK : Le J (L7.but b) := fun b' x hx => by rw [but_get (fun e => by subst e; rw [hJb] at hx; cases hx)]; exact hset4.1 _ _ hx
 have hstK := hstJ.le hJK
 have htK := htJ.le hJK
 have hnK := hnJ.le hJK
 have hLK := hLJ.trans hJK
 have hKb : (L7.but b) b = none := but_self _ _
 have hKw : (L7.but b) bw = none := none_of_le (but_le _ _) hbw
 have hp8 := Le.put hbw (.cells (bxS s ⟨some ⟨b2, 0, none⟩, ca, c1, c2⟩).toArray 25)
 have hw8 := put_same L7 bw (.cells (bxS s ⟨some ⟨b2, 0, none⟩, ca, c1, c2⟩).toArray 25)
 generalize L7.put bw (.cells (bxS s ⟨some ⟨b2, 0, none⟩, ca, c1, c2⟩).toArray 25) = L8 at hp8 hw8 ⊢
 have hh8 := hh7.le hp8
 have hK8 : Le (L7.but b) L8 := (but_le _ _).trans hp8
 generalize L7.but b = K at hst1 hJK hstK htK hnK hLK hKb hKw hK8
 clear hset4 hh7 hp8 hJ4 hJK hstJ htJ hnJ hLJ hco5 hg5 hg6 hh5 h4J
 refine W.weak (E' := [(3, .v (pt b)), (4, .p 0 0), (5, .v (.slice ta t.length tc)), (7, .v (.int .i64 (cnt (mostS s t)))), (8, .v (.int .i64 0)), (10, .v (.slice (some ⟨bw, 0, none⟩) 1 1)), (11, .v (.int .i64 s.cones.length)), (52, .v (.bool (decide (0 < (s.cones.length : Int)))))]) (B' := [some ⟨cellsS (.v (stA s p)), 25⟩]) (by exact ⟨rfl, rfl, rfl, rfl, rfl, rfl, rfl, rfl, trivial⟩) (by exact ⟨rfl, trivial⟩) ?_
 refine W.cutI (fun E B L' => ∃ (Xs : List (St × Pt)) (wa : Option Addr) (wc : Nat), Le K L' ∧ SlAt L' wa 6 encSP (Xs.map fun x => (s, x.2)) ∧ (∀ x ∈ Xs, StAt L' x.1 x.2 ∧ Ok x.1 ∧ Wider s x.1 ∧ heatsE x.1 t = 0 ∧ stA s x.2 = stA x.1 x.2) ∧ Xs.length ≤ 10 ∧
   SubE E [(4, .p 0 0), (5, .v (.slice ta t.length tc)), (7, .v (.int .i64 (cnt (mostS s t)))), (8, .v (.int .i64 0)), (10, .v (.slice wa Xs.length wc))] ∧ PreB B [some ⟨cellsS (.v (stA s p)), 25⟩]) ?_ ?_
 ·rintro E B L9 ⟨Xs, wa, wc, hK9, hsl, hXs, hXl, hE, hB⟩
  refine W.weak hE hB ?_
  refine W.go 99 rfl ?_
  refine W.loop (fun w E B L' => ∃ i : Nat, w = Xs.length - i ∧ i ≤ Xs.length ∧ Le L9 L' ∧
    E = [(4, .p 0 0), (5, .v (.slice ta t.length tc)), (7, .v (.int .i64 (cnt (mostS s t)))), (8, .v (.int .i64 0)), (10, .v (.slice wa Xs.length wc)), (16, .v (.int .i64 i))] ∧ B = [some ⟨cellsS (.v (stA s p)), 25⟩])
   ⟨0, rfl, by omega, Le.refl _, rfl, rfl⟩ (by exact ⟨rfl, rfl, rfl, rfl, rfl, rfl, trivial⟩) (by exact ⟨rfl, trivial⟩) ?_
  rintro _ _ _ L10 ⟨i, rfl, hi, hl10, rfl, rfl⟩ again
  have hd10 : Dim L L10 := Dim.of_le (hLK.trans (hK9.trans hl10))
  refine W.go 99 rfl ?_
  refine W.split rfl rfl rfl (fun e1 => W.go 99 rfl ?_) (fun e1 => W.go 99 rfl ?_)
  ·have hil : i < Xs.length := by simpa using e1
   obtain ⟨⟨x, px⟩, hx⟩ : ∃ x, Xs[i]? = some x := ⟨_, List.getElem?_eq_getElem hil⟩
   obtain ⟨hxs, hxo, hxw, htx, hval⟩ := hXs _ (List.mem_of_getElem? hx)
   dsimp only at hxs hxo hxw htx hval
   obtain ⟨wa', rfl⟩ := hsl.addr (i := i) (by simpa using hil)
   have hcell := ((hsl.le hl10).whole (i := i) (x := (s, px)) (by rw [List.getElem?_map, hx]; rfl) rfl)
   have hM := Most_sp (X := C.X) x px ta tc t L10 ⟨hxs.le hl10, htK.le (hK9.trans hl10), hgl.le (hLK.trans (hK9.trans hl10)), by omega⟩
   rw [mostE_ok hxo htx, ← hval] at hM
   refine W.vf rfl rfl rfl rfl (Vf.idx rfl rfl rfl rfl rfl rfl (hil)) ?_
   refine W.vf rfl rfl rfl rfl (Vf.loadN rfl rfl rfl (hcell)) ?_
   refine W.go 99 rfl ?_
   refine W.eff rfl rfl rfl (Ef.call rfl (hM)) ?_
   rintro _ _ _ ⟨_, rfl, rfl, _, rfl, a2, b2', rfl, f11, -, -⟩
   refine W.go 99 rfl ?_
   rename_i L11
   have hle := most_wide hok hxo hxw t
   refine W.split rfl rfl rfl (fun h => absurd h (by simp)) (fun _ => W.go 99 rfl ?_)
   refine W.split rfl rfl rfl (fun h => absurd h (by simp; omega)) (fun _ => W.go 99 rfl ?_)
   exact W.again (again _ _ _ _ (by omega) ⟨i + 1, rfl, by omega, hl10.trans f11, rfl, rfl⟩) (by exact ⟨rfl, rfl, rfl, rfl, rfl, congrArg some (inc64 (by omega)), trivial⟩) (by exact ⟨rfl, trivial⟩)
  ·refine W.split rfl rfl rfl (fun _ => W.go 99 rfl ?_) (fun h => absurd h (by simp))
   refine W.eff rfl rfl rfl (Ef.call rfl (drd L10 (hgl.le (hLK.trans (hK9.trans hl10))))) ?_
   rintro _ _ _ ⟨_, rfl, rfl, rfl, hdm⟩
   refine W.go 99 rfl ?_
   exact W.retO r rfl ⟨rfl, hd10.trans hdm⟩
 ·intro rest
  refine W.split rfl rfl rfl (fun e5 => ?_) (fun e5 => ?_)
  ·have hcn : 0 < s.cones.length := by simpa using e5
   refine W.go 99 rfl ?_
   refine W.drawn (by kernel_rfl) K hK8 ?_
   refine DD.run' [0, 2, 4, 5] rfl ?_
   refine DD.act 1 rfl rfl rfl rfl rfl (Ef.call rfl ((DupStove_sp s p L8 (hstK.le hK8) (by omega) (by omega)))) ((by rintro _ _ _ ⟨_, rfl, rfl, _, _, _, _, _, rfl, g1, g2⟩; exact ⟨hK8.trans (g1.1.trans g2.1), rfl, .inl rfl⟩)) ?_
   rintro _ _ _ ⟨_, rfl, rfl, hsa, hca, h1, h2, Ih, rfl, gh1, gh2⟩
   rename_i L9
   have f9 := gh1.1.trans gh2.1
   refine DD.act 3 rfl rfl rfl rfl rfl (Ef.call rfl ((DupStove_sp s p L9 (hstK.le (hK8.trans f9)) (by omega) (by omega)))) ((by rintro _ _ _ ⟨_, rfl, rfl, _, _, _, _, _, rfl, g1, g2⟩; exact ⟨(hK8.trans f9).trans (g1.1.trans g2.1), rfl, .inl rfl⟩)) ?_
   rintro _ _ _ ⟨_, rfl, rfl, lsa, lca, l1, l2, Il, rfl, gl1, gl2⟩
   rename_i L10
   have f10 := gl1.1.trans gl2.1
   have hK10 := hK8.trans (f9.trans f10)
   refine DD.act 6 rfl rfl rfl rfl rfl (Ef.sto rfl) (by rintro _ _ _ ⟨rfl, rfl, rfl⟩; exact ⟨hK10, rfl, .inl rfl⟩) ?_
   rintro _ _ L10 ⟨rfl, rfl, rfl⟩
   refine DD.act 7 rfl rfl rfl rfl rfl (Ef.sto rfl) (by rintro _ _ _ ⟨rfl, rfl, rfl⟩; exact ⟨hK10, rfl, .inl rfl⟩) ?_
   rintro _ _ L10 ⟨rfl, rfl, rfl⟩
   refine .fin rfl ?_
   obtain ⟨sd8, hb8⟩ := hh8.blk
   obtain ⟨bh, ch, hhv, hIh, hLh, hoh⟩ := gh2.overL f10 hcn
   obtain ⟨bl, cl, hlv, hIl, hLl, hol⟩ := gl2.overL (Le.refl _) hcn
   obtain rfl : hca = some ⟨bh, 0, none⟩ := by injection hhv
   obtain rfl : lca = some ⟨bl, 0, none⟩ := by injection hlv
   have hlh : bl ≠ bh := fun e => by subst e; exact hLh (none_of_le gl1.1 hIl)
   have hK : Le K (L10.less [bh, bl, bw, b]) := le_less hK10 (by
    simp only [List.mem_cons, List.not_mem_nil, or_false, forall_eq_or_imp, forall_eq]
    exact ⟨none_of_le hK8 (none_of_le gh1.1 hIh), none_of_le hK8 (none_of_le f9 (none_of_le gl1.1 hIl)), hKw, hKb⟩)
   have hhs : SlAt (L10.less [bh, bl, bw, b]) hsa 2 encSh s.shelves := gh1.offL encSh_len (gh2.1.trans f10) (by
    simp only [List.mem_cons, List.not_mem_nil, or_false, forall_eq_or_imp, forall_eq]
    exact ⟨.inr hIh, .inr (none_of_le gh2.1 (none_of_le gl1.1 hIl)), .inl (by rw [hw8]; simp), .inl (by rw [hb8]; simp)⟩)
   have hls : SlAt (L10.less [bh, bl, bw, b]) lsa 2 encSh s.shelves := gl1.offL encSh_len gl2.1 (by
    simp only [List.mem_cons, List.not_mem_nil, or_false, forall_eq_or_imp, forall_eq]
    exact ⟨.inl hLh, .inr hIl, .inl (by rw [f9 _ _ hw8]; simp), .inl (by rw [f9 _ _ hb8]; simp)⟩)
   have gH := hoh [bh, bl, bw, b] (by simp)
   have gL := hol [bh, bl, bw, b] (by simp)
   have hw10 := f10 _ _ (f9 _ _ hw8)
   have hb10 := f10 _ _ (f9 _ _ hb8)
   have gW : Grow (L10.less [bh, bl, bw, b]) 6 25 encSP L10 (.slice (some ⟨bw, 0, none⟩) 1 1) [(s, ⟨some ⟨b2, 0, none⟩, ca, c1, c2⟩)] := Grow.lit (l := [(s, (⟨some ⟨b2, 0, none⟩, ca, c1, c2⟩ : Pt))]) encSP_len (less_le _ _) hw10 (less_none (by simp))
   have hJb : (L10.less [bh, bl, bw, b]) b = none := less_none (by simp)
   have hJh : (L10.less [bh, bl, bw, b]) bh = none := less_none (by simp)
   have hJl : (L10.less [bh, bl, bw, b]) bl = none := less_none (by simp)
   have hJw : (L10.less [bh, bl, bw, b]) bw = none := less_none (by simp)
   have nhb : bh ≠ b := fun e => by subst e; rw [gh1.1 _ _ hb8] at hIh; cases hIh
   have nlb : bl ≠ b := fun e => by subst e; exact absurd (f9 _ _ hb8) (by rw [none_of_le gl1.1 hIl]; simp)
   have nhw : bw ≠ bh := fun e => by subst e; rw [gh1.1 _ _ hw8] at hIh; cases hIh
   have nlw : bw ≠ bl := fun e => by subst e; exact absurd (f9 _ _ hw8) (by rw [none_of_le gl1.1 hIl]; simp)
   generalize L10.less [bh, bl, bw, b] = J at hK hhs hls gH gL gW hJb hJh hJl hJw
   have hhJ : ∀ {L'} {n : Nat}, (∃ seed : Int, L' b = some (.cells [Value.slice na nums.length nc, .int .i64 n, .int .u64 seed].toArray 98 (0, 0), true)) → Le J L' → HatAt L' b na nc nums n := fun hb hJ => hat_of hb hJ hJb (hnK.le hK)
   clear hoh hol hIh hIl gh1 gh2 gl1 gl2
   refine W.go 99 rfl ?_
   rw [wrap64_in _ (by omega) (by omega)]
   have hto2 := To_sp (X := C.X) b na nc nums (m2 + 1) (s.cones.length - 1) L10 (hhJ ⟨_, hb10⟩ gH.1) (by omega) hl2 (by omega)
   rw [show ((s.cones.length - 1 : Nat) : Int) = (s.cones.length : Int) - 1 by omega] at hto2
   refine W.eff rfl rfl rfl (Ef.call rfl (hto2)) ?_
   rintro _ _ _ ⟨_, rfl, rfl, ⟨q, rfl, hq⟩, hk11, hs11⟩
   refine W.go 99 rfl ?_
   rename_i L11
   have hql : q < s.cones.length := by omega
   obtain ⟨sd11, hb11⟩ := hs11
   have gH := gH.stir hJb hb10 (by decide) hk11
   have gL := gL.stir hJb hb10 (by decide) hk11
   have gW := gW.stir hJb hb10 (by decide) hk11
   obtain ⟨cq, hcq⟩ : ∃ c, s.cones[q]? = some c := ⟨_, List.getElem?_eq_getElem hql⟩
   have hce : s.cones[q] = cq := (List.getElem?_eq_some_iff.1 hcq).2
   have hcr := hok.co cq (List.mem_of_getElem? hcq)
   obtain ⟨p1, p2, n1, n2⟩ := p
   obtain ⟨pc, hpc⟩ := hstK.co.addr hql
   obtain rfl : p2 = some pc := hpc
   refine W.vf rfl rfl rfl rfl (Vf.idx rfl rfl rfl rfl rfl rfl (hql)) ?_
   refine W.go 99 rfl ?_
   refine W.vf rfl rfl rfl rfl (Vf.loadN rfl rfl rfl ((hstK.co.le (hK.trans gH.1)).whole hcq rfl)) ?_
   refine W.go 99 rfl ?_
   refine W.drawn (by kernel_rfl) J gH.1 ?_
   refine DD.run' [0, 1, 2, 3, 4, 5, 6, 7, 8, 9, 10, 11, 13, 14, 15, 17, 18, 19] rfl ?_
   have hfr12 := From_sp (X := C.X) b na nc nums (m2 + 2) cq.cold (9 - cq.cold).toNat L11 (hhJ ⟨_, hb11⟩ gH.1) (by omega) hl2 (by omega) (by omega) (by omega)
   rw [show cq.cold + (((9 - cq.cold).toNat : Nat) : Int) = 9 by omega] at hfr12
   refine DD.act 12 rfl rfl rfl rfl rfl (Ef.call rfl (hfr12)) ((by rintro _ _ _ ⟨_, rfl, rfl, ⟨y, rfl, _⟩, hk, _⟩; exact ⟨(gH.stir hJb hb11 (by decide) hk).1, rfl, .inl rfl⟩)) ?_
   rintro _ _ _ ⟨_, rfl, rfl, ⟨f1, rfl, lof1, hif1⟩, hk12, ⟨sd12, hb12⟩⟩
   rename_i L12
   have gH := gH.stir hJb hb11 (by decide) hk12
   have gL := gL.stir hJb hb11 (by decide) hk12
   have gW := gW.stir hJb hb11 (by decide) hk12
   have hfr13 := From_sp (X := C.X) b na nc nums (m2 + 3) cq.jump (9 - cq.jump).toNat L12 (hhJ ⟨_, hb12⟩ gH.1) (by omega) hl2 (by omega) (by omega) (by omega)
   rw [show cq.jump + (((9 - cq.jump).toNat : Nat) : Int) = 9 by omega] at hfr13
   refine DD.act 16 rfl rfl rfl rfl rfl (Ef.call rfl (hfr13)) ((by rintro _ _ _ ⟨_, rfl, rfl, ⟨y, rfl, _⟩, hk, _⟩; exact ⟨(gH.stir hJb hb12 (by decide) hk).1, rfl, .inl rfl⟩)) ?_
   rintro _ _ _ ⟨_, rfl, rfl, ⟨f2, rfl, lof2, hif2⟩, hk13, ⟨sd13, hb13⟩⟩
   rename_i L13
   have gH := gH.stir hJb hb12 (by decide) hk13
   have gL := gL.stir hJb hb12 (by decide) hk13
   have gW := gW.stir hJb hb12 (by decide) hk13
   have hfr14 := From_sp (X := C.X) b na nc nums (m2 + 4) cq.most (9 - cq.most).toNat L13 (hhJ ⟨_, hb13⟩ gH.1) (by omega) hl2 (by omega) (by omega) (by omega)
   rw [show cq.most + (((9 - cq.most).toNat : Nat) : Int) = 9 by omega] at hfr14
   refine DD.act 20 rfl rfl rfl rfl rfl (Ef.call rfl (hfr14)) ((by rintro _ _ _ ⟨_, rfl, rfl, ⟨y, rfl, _⟩, hk, _⟩; exact ⟨(gH.stir hJb hb13 (by decide) hk).1, rfl, .inl rfl⟩)) ?_
   rintro _ _ _ ⟨_, rfl, rfl, ⟨f3, rfl, lof3, hif3⟩, hk14, ⟨sd14, hb14⟩⟩
   rename_i L14
   have gH := gH.stir hJb hb13 (by decide) hk14
   have gL := gL.stir hJb hb13 (by decide) hk14
   have gW := gW.stir hJb hb13 (by decide) hk14
   obtain ⟨bA1, capA1, cA1, hvA1, -, hbA1, hszA1, gH1⟩ := gH.setF (d := q) (f := 1) encCo_len (by omega) (by omega) ({ cq with cold := f1 } : Cone) (w := .int .i64 f1) rfl (fun j hj => by
    rw [hce]
    match j with
    | 0 => rfl
    | 1 => exact absurd rfl hj
    | 2 => rfl
    | 3 => rfl
    | j + 4 => rfl)
   obtain rfl : bh = bA1 := by injection hvA1 with h1 _ _; injection h1 with h1; injection h1
   refine DD.vf 21 rfl rfl rfl rfl rfl (Vf.idx rfl rfl rfl rfl rfl rfl (hql)) ?_
   refine DD.run' [22] rfl ?_
   have hxA1 : (Addr.add (Addr.add ⟨bh, 0, none⟩ (q * 4)) 1) = ⟨bh, q * 4 + 1, none⟩ := by rw [add_of, Nat.zero_add, add_of]
   refine DD.act 23 rfl rfl rfl rfl rfl (Ef.stoF (congrArg (fun a => some (SV.v (.pointer (some a)))) hxA1) ⟨_, rfl, rfl⟩ rfl hbA1 rfl hszA1 (singles rfl)) ((by rintro _ _ _ ⟨rfl, rfl, rfl⟩; exact ⟨gH1.1, rfl, .inl rfl⟩)) ?_
   rintro _ _ _ ⟨rfl, rfl, rfl⟩
   obtain ⟨bA2, capA2, cA2, hvA2, -, hbA2, hszA2, gH2⟩ := gH1.setF (d := q) (f := 2) encCo_len (by simp only [List.length_set]; omega) (by omega) ({ cq with cold := f1, jump := f2 } : Cone) (w := .int .i64 f2) rfl (fun j hj => by
    rw [List.getElem_set_self]
    match j with
    | 0 => rfl
    | 1 => rfl
    | 2 => exact absurd rfl hj
    | 3 => rfl
    | j + 4 => rfl)
   obtain rfl : bh = bA2 := by injection hvA2 with h1 _ _; injection h1 with h1; injection h1
   refine DD.vf 24 rfl rfl rfl rfl rfl (Vf.idx rfl rfl rfl rfl rfl rfl (hql)) ?_
   refine DD.run' [25] rfl ?_
   have hxA2 : (Addr.add (Addr.add ⟨bh, 0, none⟩ (q * 4)) 2) = ⟨bh, q * 4 + 2, none⟩ := by rw [add_of, Nat.zero_add, add_of]
   refine DD.act 26 rfl rfl rfl rfl rfl (Ef.stoF (congrArg (fun a => some (SV.v (.pointer (some a)))) hxA2) ⟨_, rfl, rfl⟩ rfl hbA2 rfl hszA2 (singles rfl)) ((by rintro _ _ _ ⟨rfl, rfl, rfl⟩; exact ⟨gH2.1, rfl, .inl rfl⟩)) ?_
   rintro _ _ _ ⟨rfl, rfl, rfl⟩
   obtain ⟨bA3, capA3, cA3, hvA3, -, hbA3, hszA3, gH3⟩ := gH2.setF (d := q) (f := 3) encCo_len (by simp only [List.length_set]; omega) (by omega) ({ cq with cold := f1, jump := f2, most := f3 } : Cone) (w := .int .i64 f3) rfl (fun j hj => by
    rw [List.getElem_set_self]
    match j with
    | 0 => rfl
    | 1 => rfl
    | 2 => rfl
    | 3 => exact absurd rfl hj
    | j + 4 => rfl)
   obtain rfl : bh = bA3 := by injection hvA3 with h1 _ _; injection h1 with h1; injection h1
   refine DD.vf 27 rfl rfl rfl rfl rfl (Vf.idx rfl rfl rfl rfl rfl rfl (hql)) ?_
   refine DD.run' [28] rfl ?_
   have hxA3 : (Addr.add (Addr.add ⟨bh, 0, none⟩ (q * 4)) 3) = ⟨bh, q * 4 + 3, none⟩ := by rw [add_of, Nat.zero_add, add_of]
   refine DD.act 29 rfl rfl rfl rfl rfl (Ef.stoF (congrArg (fun a => some (SV.v (.pointer (some a)))) hxA3) ⟨_, rfl, rfl⟩ rfl hbA3 rfl hszA3 (singles rfl)) ((by rintro _ _ _ ⟨rfl, rfl, rfl⟩; exact ⟨gH3.1, rfl, .inl rfl⟩)) ?_
   rintro _ _ _ ⟨rfl, rfl, rfl⟩
   refine .fin rfl ?_
   change W C _ _ _ _ _ (((L14.put bh (.cells (putRow cA1 (q * 4 + 1) [.int .i64 f1]) 27)).put bh (.cells (putRow cA2 (q * 4 + 2) [.int .i64 f2]) 27)).put bh (.cells (putRow cA3 (q * 4 + 3) [.int .i64 f3]) 27))
   have gL17 : Grow J 4 27 encCo (((L14.put bh (.cells (putRow cA1 (q * 4 + 1) [.int .i64 f1]) 27)).put bh (.cells (putRow cA2 (q * 4 + 2) [.int .i64 f2]) 27)).put bh (.cells (putRow cA3 (q * 4 + 3) [.int .i64 f3]) 27)) (.slice (some ⟨bl, 0, none⟩) s.cones.length l2) s.cones := ((gL.besideA hlh hJh).besideA hlh hJh).besideA hlh hJh
   have gW17 : Grow J 6 25 encSP (((L14.put bh (.cells (putRow cA1 (q * 4 + 1) [.int .i64 f1]) 27)).put bh (.cells (putRow cA2 (q * 4 + 2) [.int .i64 f2]) 27)).put bh (.cells (putRow cA3 (q * 4 + 3) [.int .i64 f3]) 27)) (.slice (some ⟨bw, 0, none⟩) 1 1) [(s, ⟨some ⟨b2, 0, none⟩, ca, c1, c2⟩)] := ((gW.besideA nhw hJh).besideA nhw hJh).besideA nhw hJh
   have gH17 : Grow J 4 27 encCo (((L14.put bh (.cells (putRow cA1 (q * 4 + 1) [.int .i64 f1]) 27)).put bh (.cells (putRow cA2 (q * 4 + 2) [.int .i64 f2]) 27)).put bh (.cells (putRow cA3 (q * 4 + 3) [.int .i64 f3]) 27)) (.slice (some ⟨bh, 0, none⟩) s.cones.length h2) (s.cones.set q ⟨cq.wet, f1, f2, f3⟩) := by
    have := gH3
    simp only [List.set_set] at this
    exact this
   have hb17 : (((L14.put bh (.cells (putRow cA1 (q * 4 + 1) [.int .i64 f1]) 27)).put bh (.cells (putRow cA2 (q * 4 + 2) [.int .i64 f2]) 27)).put bh (.cells (putRow cA3 (q * 4 + 3) [.int .i64 f3]) 27)) b = _ := (put_ne _ _ nhb.symm).trans ((put_ne _ _ nhb.symm).trans ((put_ne _ _ nhb.symm).trans hb14))
   clear gL gW gH gH1 gH2 gH3 hbA1 hbA2 hbA3
   generalize ((L14.put bh (.cells (putRow cA1 (q * 4 + 1) [.int .i64 f1]) 27)).put bh (.cells (putRow cA2 (q * 4 + 2) [.int .i64 f2]) 27)).put bh (.cells (putRow cA3 (q * 4 + 3) [.int .i64 f3]) 27) = L17 at gL17 gW17 gH17 hb17 ⊢
   refine W.weak (E' := [(3, .v (pt b)), (4, .p 0 0), (5, .v (.slice ta t.length tc)), (7, .v (.int .i64 (cnt (mostS s t)))), (8, .v (.int .i64 0)), (10, .v (.slice (some ⟨bw, 0, none⟩) 1 1)), (12, .p 1 0), (13, .p 2 0), (14, .v (.int .i64 q)), (15, .p 3 0)]) (B' := [some ⟨cellsS (.v (stA s ⟨p1, some pc, n1, n2⟩)), 25⟩, some ⟨cellsS (.v (stA s ⟨hsa, some ⟨bh, 0, none⟩, h1, h2⟩)), 25⟩, some ⟨cellsS (.v (stA s ⟨lsa, some ⟨bl, 0, none⟩, l1, l2⟩)), 25⟩, some ⟨cellsS (.v (.agg (encCo cq).toArray)), 27⟩]) (by exact ⟨rfl, rfl, rfl, rfl, rfl, rfl, rfl, rfl, rfl, rfl, trivial⟩) (by exact ⟨rfl, rfl, rfl, rfl, trivial⟩) ?_
   refine W.go 99 rfl ?_
   refine W.drawn (by kernel_rfl) J gH17.1 ?_
   refine DD.run' [0, 1, 2, 3, 4, 5] rfl ?_
   have hfr18 := From_sp (X := C.X) b na nc nums (m2 + 5) 1 (cq.wet - 1).toNat L17 (hhJ ⟨_, hb17⟩ gH17.1) (by omega) hl2 (by omega) (by omega) (by omega)
   rw [show (1 : Int) + (((cq.wet - 1).toNat : Nat) : Int) = cq.wet by omega] at hfr18
   refine DD.act 6 rfl rfl rfl rfl rfl (Ef.call rfl (hfr18)) ((by rintro _ _ _ ⟨_, rfl, rfl, ⟨y, rfl, _⟩, hk, _⟩; exact ⟨(gH17.stir hJb hb17 (by decide) hk).1, rfl, .inl rfl⟩)) ?_
   rintro _ _ _ ⟨_, rfl, rfl, ⟨fw, rfl, lofw, hifw⟩, hk18, ⟨sd18, hb18⟩⟩
   rename_i L18
   have gH := gH17.stir hJb hb17 (by decide) hk18
   have gL := gL17.stir hJb hb17 (by decide) hk18
   have gW := gW17.stir hJb hb17 (by decide) hk18
   obtain ⟨bA, capA, cA, hvA, -, hbA, hszA, gL19⟩ := gL.setF (d := q) (f := 0) encCo_len hql (by omega) ({ cq with wet := fw } : Cone) (w := .int .i64 fw) rfl (fun j hj => by
    rw [hce]
    match j with
    | 0 => exact absurd rfl hj
    | 1 => rfl
    | 2 => rfl
    | 3 => rfl
    | j + 4 => rfl)
   obtain rfl : bl = bA := by injection hvA with h1 _ _; injection h1 with h1; injection h1
   refine DD.vf 7 rfl rfl rfl rfl rfl (Vf.idx rfl rfl rfl rfl rfl rfl (hql)) ?_
   refine DD.run' [8] rfl ?_
   have hxA : (Addr.add (Addr.add ⟨bl, 0, none⟩ (q * 4)) 0) = ⟨bl, q * 4, none⟩ := by rw [add_of, Nat.zero_add, add_of]; rfl
   refine DD.act 9 rfl rfl rfl rfl rfl (Ef.stoF (congrArg (fun a => some (SV.v (.pointer (some a)))) hxA) ⟨_, rfl, rfl⟩ rfl hbA rfl hszA (singles rfl)) ((by rintro _ _ _ ⟨rfl, rfl, rfl⟩; exact ⟨gL19.1, rfl, .inl rfl⟩)) ?_
   rintro _ _ _ ⟨rfl, rfl, rfl⟩
   refine .fin rfl ?_
   have gH19 : Grow J 4 27 encCo (L18.put bl (.cells (putRow cA (q * 4) [.int .i64 fw]) 27)) (.slice (some ⟨bh, 0, none⟩) s.cones.length h2) (s.cones.set q ⟨cq.wet, f1, f2, f3⟩) := gH.besideA (Ne.symm hlh) hJl
   have gW19 : Grow J 6 25 encSP (L18.put bl (.cells (putRow cA (q * 4) [.int .i64 fw]) 27)) (.slice (some ⟨bw, 0, none⟩) 1 1) [(s, ⟨some ⟨b2, 0, none⟩, ca, c1, c2⟩)] := gW.besideA nlw hJl
   change W C _ _ _ _ _ (L18.put bl (.cells (putRow cA (q * 4) [.int .i64 fw]) 27))
   change Grow J 4 27 encCo (L18.put bl (.cells (putRow cA (q * 4) [.int .i64 fw]) 27)) _ _ at gL19
   generalize L18.put bl (.cells (putRow cA (q * 4) [.int .i64 fw]) 27) = L19 at gL19 gH19 gW19 ⊢
   have hhc := gH19.atA encCo_len (Ne.symm nhw)
   have hlc := gL19.atA encCo_len (Ne.symm nlw)
   have hJ19 : Le J (L19.but bw) := le_but hJw gH19.1
   refine W.go 99 rfl ?_
   refine W.eff rfl rfl rfl (Ef.grow rfl rfl rfl rfl rfl rfl rfl rfl rfl encSP_len encSP_sg gW19.baseA (ls := [(s, (⟨hsa, some ⟨bh, 0, none⟩, h1, h2⟩ : Pt)), (s, (⟨lsa, some ⟨bl, 0, none⟩, l1, l2⟩ : Pt))]) (.own rfl rfl rfl rfl) (by simp)) ?_
   rintro _ _ _ ⟨v', rfl, rfl, hg20, -⟩
   rename_i L20
   have hg20 : Grow (L19.but bw) 6 25 encSP L20 v' [(s, ⟨some ⟨b2, 0, none⟩, ca, c1, c2⟩), (s, ⟨hsa, some ⟨bh, 0, none⟩, h1, h2⟩), (s, ⟨lsa, some ⟨bl, 0, none⟩, l1, l2⟩)] := hg20
   obtain ⟨wa, wc, rfl, -⟩ := hg20.slice
   have hJ20 := hJ19.trans hg20.1
   obtain ⟨hokH, hwdH⟩ := setCo_wide (x := ⟨cq.wet, f1, f2, f3⟩) hok hcq (by dsimp only; omega) (by constructor <;> dsimp only <;> omega)
   obtain ⟨hokL, hwdL⟩ := setCo_wide (x := { cq with wet := fw }) hok hcq (by dsimp only; omega) (by constructor <;> dsimp only <;> omega)
   refine W.go 2 rfl ?_
   exact rest _ _ _ ⟨[(setSh s y ⟨ys.lift, 2⟩, ⟨some ⟨b2, 0, none⟩, ca, c1, c2⟩), (setCo s q ⟨cq.wet, f1, f2, f3⟩, ⟨hsa, some ⟨bh, 0, none⟩, h1, h2⟩), (setCo s q { cq with wet := fw }, ⟨lsa, some ⟨bl, 0, none⟩, l1, l2⟩)], wa, wc, hK.trans hJ20, (hg20.at encSP_len).2, (fun x hx => by
    simp only [List.mem_cons, List.not_mem_nil, or_false] at hx
    rcases hx with rfl | rfl | rfl
    ·exact ⟨hst1.le (hK.trans hJ20), hok1, hwd1, ht, stA_sh ..⟩
    ·exact ⟨⟨hhs.le hJ20, hhc.le hg20.1, by show s.shelves.length ≤ _; omega, by show (s.cones.set q _).length ≤ _; rw [List.length_set]; omega⟩, hokH, hwdH, ht, stA_co ..⟩
    ·exact ⟨⟨hls.le hJ20, hlc.le hg20.1, by show s.shelves.length ≤ _; omega, by show (s.cones.set q _).length ≤ _; rw [List.length_set]; omega⟩, hokL, hwdL, ht, stA_co ..⟩), by simp, by exact ⟨rfl, rfl, rfl, rfl, rfl, trivial⟩, by exact ⟨rfl, trivial⟩⟩
  ·refine W.go 2 rfl ?_
   exact rest _ _ _ ⟨[(setSh s y ⟨ys.lift, 2⟩, ⟨some ⟨b2, 0, none⟩, ca, c1, c2⟩)], _, 1, hK8, sl_block (l := [(s, ⟨some ⟨b2, 0, none⟩, ca, c1, c2⟩)]) encSP_len hw8, (fun x hx => by rw [List.mem_singleton.1 hx]; exact ⟨hst1.le hK8, hok1, hwd1, ht, stA_sh ..⟩), by simp, by exact ⟨rfl, rfl, rfl, rfl, rfl, trivial⟩, by exact ⟨rfl, trivial⟩⟩
end Go.Mz

