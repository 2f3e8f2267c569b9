/- Lemmas on which the claim leans. -/
import Derived.Test.YtnhckcgdmolgcaaGreatDoorMzAv
set_option maxRecDepth 100000
namespace Go.Mz
open Go Go.Conc Go.Proofs
def plansG (s : St) (hs : List Int) (each : Bool) (b : List Stand) : List (List Stand) := if fitsS s hs b then grow (fitsS s hs) ((optsS s hs allC each).drop b.length) b else []
section
variable {s : St} {hs : List Int} {each : Bool} {b : List Stand}
theorem plansG_no (h : fitsS s hs b = false) : plansG s hs each b = [] := by unfold plansG; rw [h]; rfl
theorem plansG_end (h : fitsS s hs b = true) (hb : s.cones.length ≤ b.length) : plansG s hs each b = [b] := by
 unfold plansG
 rw [if_pos h, List.drop_of_length_le (by rw [opts_len]; exact hb)]
 rfl
theorem plansG_step (h : fitsS s hs b = true) {c : Cone} (hc : s.cones[b.length]? = some c) : plansG s hs each b = (optS s hs true each c).flatMap fun a => plansG s hs each (b ++ [a]) := by
 have hi := (List.getElem?_eq_some_iff.1 hc).1
 have ho : (optsS s hs allC each)[b.length]? = some (optS s hs true each c) := opts_get hc
 have hl : b.length < (optsS s hs allC each).length := (List.getElem?_eq_some_iff.1 ho).1
 have hg : (optsS s hs allC each)[b.length] = optS s hs true each c := Option.some.inj ((List.getElem?_eq_getElem hl).symm.trans ho)
 unfold plansG
 rw [if_pos h, List.drop_eq_getElem_cons hl, hg]
 simp only [grow, List.length_append, List.length_cons, List.length_nil, Nat.zero_add]
theorem plansG_nil (h : Ok s) : plansG s hs each [] = plansS s hs allC each := by
 unfold plansG plansS
 rw [if_pos (fits_nil h hs), List.length_nil, List.drop_zero]
end
def heatsG (s : St) (b : List Int) : List (List Int) := (heatsAll s.top s.rise (s.days.toNat - b.length) (b.getLast?.getD s.now)).map (b ++ ·)
section
variable {s : St} {b : List Int}
theorem heatsG_end (h : b.length = s.days.toNat) : heatsG s b = [b] := by
 unfold heatsG
 rw [h, Nat.sub_self]
 simp [heatsAll]
theorem heatsG_step (h : b.length < s.days.toNat) : heatsG s b = (List.range (min s.top (b.getLast?.getD s.now + s.rise) + 1).toNat).flatMap fun (n : Nat) => heatsG s (b ++ [(n : Int)]) := by
 unfold heatsG
 obtain ⟨k, hk⟩ : ∃ k, s.days.toNat - b.length = k + 1 := ⟨s.days.toNat - b.length - 1, by omega⟩
 rw [hk]
 simp only [heatsAll, List.map_flatMap, List.map_map]
 congr 1
 funext n
 rw [show s.days.toNat - (b ++ [(n : Int)]).length = k by simp; omega, List.getLast?_concat]
 simp only [Option.getD_some]
 congr 1
 funext t
 simp
theorem heatsG_nil : heatsG s [] = heatsS s := by unfold heatsG heatsS; simp
end
def fireStep (s : St) (b : Option (List Int)) (x : List Int) : Option (List Int) := if canS s x then takeLess sumL b x else b
theorem fireS_fold (s : St) : fireS s = (heatsS s).foldl (fireStep s) none := by
 unfold fireS firstMin
 rw [List.foldl_filter]
 rfl
theorem heatsAll_mem {top rise : Int} : ∀ {n : Nat} {b : Int} {l : List Int}, l ∈ heatsAll top rise n b → l.length = n ∧ ∀ x ∈ l, 0 ≤ x ∧ x ≤ top
 | 0, b, l, h => by
  simp only [heatsAll, List.mem_singleton] at h
  subst h
  exact ⟨rfl, fun x hx => by cases hx⟩
 | n + 1, b, l, h => by
  simp only [heatsAll, List.mem_flatMap, List.mem_map, List.mem_range] at h
  obtain ⟨y, hy, t, ht, rfl⟩ := h
  obtain ⟨h1, h2⟩ := heatsAll_mem ht
  refine ⟨by simp [h1], fun x hx => ?_⟩
  rcases List.mem_cons.1 hx with rfl | hx
  ·omega
  ·exact h2 x hx
end Go.Mz


set_option maxRecDepth 100000
namespace Go.Mz
open Go
theorem grow_len {fit : List Stand → Bool} {k : Nat} : ∀ {os : List (List Stand)} {b : List Stand}, (∀ o ∈ os, o.length ≤ k) → (grow fit os b).length ≤ k ^ os.length
 | [], b, _ => by simp [grow]
 | o :: os, b, h => by
  simp only [grow]
  have h1 := h o (List.mem_cons_self ..)
  have h2 : ∀ a ∈ o, (if fit (b ++ [a]) then grow fit os (b ++ [a]) else []).length ≤ k ^ os.length := fun a _ => by
   split
   ·exact grow_len fun x hx => h x (List.mem_cons_of_mem _ hx)
   ·simp
  have h3 := flatMap_le o h2
  rw [List.length_cons, Nat.pow_succ, Nat.mul_comm]
  exact Nat.le_trans h3 (Nat.mul_le_mul_right _ h1)
section
variable {s : St} {hs : List Int}
theorem opt_len (h : Ok s) {so each : Bool} {c : Cone} : (optS s hs so each c).length ≤ 13 := by
 unfold optS
 rw [List.length_append]
 have h1 := grid_len h
 have h2 : (standsS s hs c).length ≤ (grid s).length := List.length_filter_le ..
 split <;> split <;> simp <;> omega
theorem plansG_len (h : Ok s) {each : Bool} {b : List Stand} : (plansG s hs each b).length ≤ 2197 := by
 unfold plansG
 split
 ·have h1 : ((optsS s hs allC each).drop b.length).length ≤ 3 := by rw [List.length_drop, opts_len]; have := h.c3; omega
  have h2 := grow_len (fit := fitsS s hs) (k := 13) (os := (optsS s hs allC each).drop b.length) (b := b) (fun o ho => by
   have := List.mem_of_mem_drop ho
   unfold optsS at this
   obtain ⟨x, _, rfl⟩ := List.mem_map.1 this
   exact opt_len h)
  have h3 : 13 ^ ((optsS s hs allC each).drop b.length).length ≤ 13 ^ 3 := Nat.pow_le_pow_right (by omega) h1
  omega
 ·simp
theorem heatsG_len (h : Ok s) {b : List Int} : (heatsG s b).length ≤ 1296 := by
 unfold heatsG
 rw [List.length_map]
 have h1 := heatsAll_len (top := s.top) (rise := s.rise) h.t5 (s.days.toNat - b.length) (b.getLast?.getD s.now)
 have h2 : 6 ^ (s.days.toNat - b.length) ≤ 6 ^ 4 := Nat.pow_le_pow_right (by omega) (by have := h.d4; omega)
 omega
end
def pickL (n : Nat) : Nat → Nat → List (List Nat)
 | 0, _ => [[]]
 | m + 1, first => (List.range' first (n - first)).flatMap fun i => (pickL n m (i + 1)).map (i :: ·)
end Go.Mz


namespace Go.Mz
open Go
theorem mem_grow {fit : List Stand → Bool} : ∀ {os : List (List Stand)} {b x : List Stand}, x ∈ grow fit os b ↔ ∃ t, x = b ++ t ∧ t.length = os.length ∧ (∀ (i : Nat) (o : List Stand) (a : Stand), os[i]? = some o → t[i]? = some a → a ∈ o) ∧ ∀ i, i < t.length → fit (b ++ t.take (i + 1)) = true
 | [], b, x => by
  simp only [grow, List.mem_singleton]
  constructor
  ·rintro rfl; exact ⟨[], by simp, rfl, fun i o a h => by simp at h, fun i h => by simp at h⟩
  ·rintro ⟨t, rfl, h, _⟩
   obtain rfl := List.length_eq_zero_iff.1 h
   simp
 | o :: os, b, x => by
  simp only [grow, List.mem_flatMap]
  constructor
  ·rintro ⟨a, ha, hx⟩
   by_cases hf : fit (b ++ [a]) = true
   ·rw [if_pos hf] at hx
    obtain ⟨t, rfl, h1, h2, h3⟩ := mem_grow.1 hx
    refine ⟨a :: t, by simp, by simp [h1], fun i o' a' ho ha' => ?_, fun i hi => ?_⟩
    ·cases i with
     | zero => simp at ho ha'; subst ho; subst ha'; exact ha
     | succ i => exact h2 i o' a' (by simpa using ho) (by simpa using ha')
    ·cases i with
     | zero => simpa using hf
     | succ i => have := h3 i (by simpa using hi); simpa using this
   ·rw [if_neg hf] at hx; cases hx
  ·rintro ⟨t, rfl, h1, h2, h3⟩
   cases t with
   | nil => simp at h1
   | cons a t =>
    have hf : fit (b ++ [a]) = true := by have := h3 0 (by simp); simpa using this
    refine ⟨a, h2 0 o a rfl rfl, ?_⟩
    rw [if_pos hf]
    refine mem_grow.2 ⟨t, by simp, by simpa using h1, fun i o' a' ho ha' => h2 (i + 1) o' a' (by simpa using ho) (by simpa using ha'), fun i hi => ?_⟩
    have := h3 (i + 1) (by simpa using hi)
    simpa using this
theorem filter_le {α : Type} {p q : α → Bool} {l : List α} (h : ∀ x ∈ l, p x = true → q x = true) : (l.filter p).length ≤ (l.filter q).length := by
 rw [← List.countP_eq_length_filter, ← List.countP_eq_length_filter]
 exact List.countP_mono_left h
theorem fits_iff {s : St} {hs : List Int} {l : List Stand} : fitsS s hs l = true ↔ ∀ k, k < s.shelves.length → ∀ d, d < s.days.toNat → ((onS s hs l k d).length : Int) ≤ roomOf s k := by
 unfold fitsS
 simp only [List.all_eq_true, List.mem_range, decide_eq_true_eq]
theorem on_mono {s : St} {hs : List Int} {l m : List Stand} {k d : Nat} : (onS s hs l k d).length ≤ (onS s hs (l ++ m) k d).length := by
 unfold onS
 refine filter_le fun i _ h => ?_
 unfold onB at h ⊢
 cases hl : l[i]? with
 | none => rw [hl] at h; cases h
 | some a =>
  have : (l ++ m)[i]? = some a := by rw [List.getElem?_append_left (List.getElem?_eq_some_iff.1 hl).1]; exact hl
  rw [hl] at h
  rw [this]
  exact h
theorem fits_pre {s : St} {hs : List Int} {l m : List Stand} (h : fitsS s hs (l ++ m) = true) : fitsS s hs l = true := by
 rw [fits_iff] at h ⊢
 intro k hk d hd
 have h1 := h k hk d hd
 have h2 := on_mono (s := s) (hs := hs) (l := l) (m := m) (k := k) (d := d)
 omega
theorem mem_plans {s : St} (h : Ok s) {hs : List Int} {so : Nat → Bool} {each : Bool} {x : List Stand} :
  x ∈ plansS s hs so each ↔ x.length = s.cones.length ∧ (∀ (i : Nat) (c : Cone) (a : Stand), s.cones[i]? = some c → x[i]? = some a → a ∈ optS s hs (so i) each c) ∧ fitsS s hs x = true := by
 unfold plansS
 rw [mem_grow]
 constructor
 ·rintro ⟨t, ht, h1, h2, h3⟩
  have ht : x = t := by simpa using ht
  subst ht
  rw [opts_len] at h1
  refine ⟨h1, fun i c a hc ha => h2 i _ a (opts_get hc) ha, ?_⟩
  cases ht : x.length with
  | zero =>
   obtain rfl := List.length_eq_zero_iff.1 ht
   exact fits_nil h hs
  | succ m =>
   have := h3 m (by omega)
   rw [List.take_of_length_le (by omega)] at this
   exact this
 ·rintro ⟨h1, h2, h3⟩
  refine ⟨x, rfl, by rw [opts_len]; exact h1, fun i o a ho ha => ?_, fun i hi => ?_⟩
  ·have hi : i < s.cones.length := by
    have := (List.getElem?_eq_some_iff.1 ho).1
    rw [opts_len] at this; exact this
   have hc : s.cones[i]? = some s.cones[i] := List.getElem?_eq_getElem hi
   rw [opts_get hc] at ho
   cases ho
   exact h2 i _ a hc ha
  ·refine fits_pre (m := x.drop (i + 1)) ?_
   rw [List.nil_append, List.take_append_drop]
   exact h3
theorem most_mem {s : St} (h : Ok s) (hs : List Int) : mostS s hs ∈ plansS s hs allC false := by
 obtain ⟨y, hy⟩ := firstMin_some (f := fun p => - cnt p) (plans_ne h hs allC)
 unfold mostS
 rw [hy]
 exact firstMin_mem hy
theorem most_max {s : St} (h : Ok s) {hs : List Int} {x : List Stand} (hx : x ∈ plansS s hs allC false) : cnt x ≤ cnt (mostS s hs) := by
 obtain ⟨y, hy⟩ := firstMin_some (f := fun p => - cnt p) (plans_ne h hs allC)
 have := firstMin_le hy x hx
 unfold mostS
 rw [hy]
 simp only [Option.getD_some]
 omega
end Go.Mz


namespace Go.Mz
open Go
structure Harder (c c' : Cone) : Prop where
 cold : c.cold ≤ c'.cold
 jump : c.jump ≤ c'.jump
 most : c.most ≤ c'.most
 wet : c'.wet ≤ c.wet
theorem Harder.refl (c : Cone) : Harder c c := ⟨Int.le_refl _, Int.le_refl _, Int.le_refl _, Int.le_refl _⟩
structure Wider (s s' : St) : Prop where
 sh : s'.shelves.length = s.shelves.length
 lift : ∀ k, liftOf s' k = liftOf s k
 room : ∀ k, k < s.shelves.length → roomOf s k ≤ roomOf s' k
 days : s'.days = s.days
 len : s'.cones.length = s.cones.length
 co : ∀ (i : Nat) c c', s.cones[i]? = some c → s'.cones[i]? = some c' → Harder c c'
theorem opt_dry {s : St} {hs : List Int} {so each : Bool} {c : Cone} {a : Stand} (h : a ∈ optS s hs so each c) : a = none1 ∨ (a ∈ grid s ∧ (fateS s hs c a).1 = 0) := by
 unfold optS at h
 rcases List.mem_append.1 h with h | h
 ·left
  split at h
  ·exact List.mem_singleton.1 h
  ·cases h
 ·right
  split at h
  ·have := List.mem_filter.1 h; exact ⟨this.1, by simpa using this.2⟩
  ·cases h
end Go.Mz


namespace Go.Mz
open Go
structure Renum (s s' : St) (σ : Nat → Nat) : Prop where
 sh : s'.shelves.length = s.shelves.length
 rng : ∀ k, k < s.shelves.length → σ k < s.shelves.length
 inj : ∀ j k, j < s.shelves.length → k < s.shelves.length → σ j = σ k → j = k
 sur : ∀ k, k < s.shelves.length → ∃ j, j < s.shelves.length ∧ σ j = k
 get : ∀ k, k < s.shelves.length → s'.shelves[σ k]? = s.shelves[k]?
 days : s'.days = s.days
 cones : s'.cones = s.cones
def mapSt (σ : Nat → Nat) (a : Stand) : Stand := if a.shelf < 0 then a else ⟨(σ a.shelf.toNat : Nat), a.day⟩
theorem map_none (σ : Nat → Nat) : mapSt σ none1 = none1 := rfl
theorem mem_grid {s : St} {a : Stand} : a ∈ grid s ↔ ∃ k d : Nat, k < s.shelves.length ∧ d < s.days.toNat ∧ a = ⟨k, d⟩ := by
 unfold grid
 simp only [List.mem_flatMap, List.mem_map, List.mem_range]
 constructor
 ·rintro ⟨k, hk, d, hd, rfl⟩; exact ⟨k, d, hk, hd, rfl⟩
 ·rintro ⟨k, d, hk, hd, rfl⟩; exact ⟨k, hk, d, hd, rfl⟩
theorem map_grid (σ : Nat → Nat) (k d : Nat) : mapSt σ ⟨k, d⟩ = ⟨(σ k : Nat), d⟩ := by
 unfold mapSt
 rw [if_neg (by simp only; omega)]
 simp
theorem Renum.lift {s s' : St} {σ : Nat → Nat} (r : Renum s s' σ) {k : Nat} (hk : k < s.shelves.length) : liftOf s' (σ k : Nat) = liftOf s (k : Nat) := by
 unfold liftOf
 simp only [Int.toNat_natCast]
 rw [r.get k hk]
theorem Renum.fate {s s' : St} {σ : Nat → Nat} (r : Renum s s' σ) {k : Nat} (hk : k < s.shelves.length) (hs : List Int) (c : Cone) (d : Nat) : fateS s' hs c ⟨(σ k : Nat), d⟩ = fateS s hs c ⟨k, d⟩ := by
 unfold fateS
 simp only
 rw [r.lift hk]
theorem Renum.plans {s s' : St} {σ : Nat → Nat} (r : Renum s s' σ) (h : Ok s) (h' : Ok s') {hs : List Int} {so : Nat → Bool} {each : Bool} {x : List Stand} (hx : x ∈ plansS s hs so each) : x.map (mapSt σ) ∈ plansS s' hs so each := by
 obtain ⟨h1, h2, h3⟩ := (mem_plans h).1 hx
 refine (mem_plans h').2 ⟨by rw [r.cones]; simpa using h1, fun i c a hc ha => ?_, ?_⟩
 ·rw [r.cones] at hc
  rw [List.getElem?_map] at ha
  obtain ⟨a0, ha0, rfl⟩ := Option.map_eq_some_iff.1 ha
  have := h2 i c a0 hc ha0
  unfold optS at this ⊢
  rcases List.mem_append.1 this with this | this
  ·refine List.mem_append_left _ ?_
   split at this
   ·rename_i hh
    rw [if_pos hh]
    rw [List.mem_singleton.1 this]
    exact List.mem_singleton.2 rfl
   ·cases this
  ·refine List.mem_append_right _ ?_
   split at this
   ·rename_i hso
    rw [if_pos hso]
    obtain ⟨g1, g2⟩ := List.mem_filter.1 this
    obtain ⟨k, d, hk, hd, rfl⟩ := mem_grid.1 g1
    rw [map_grid]
    refine List.mem_filter.2 ⟨mem_grid.2 ⟨σ k, d, by rw [r.sh]; exact r.rng k hk, by rw [r.days]; exact hd, rfl⟩, ?_⟩
    rw [r.fate hk]
    exact g2
   ·cases this
 ·rw [fits_iff] at h3 ⊢
  intro k' hk' d hd
  rw [r.sh] at hk'
  rw [r.days] at hd
  obtain ⟨k, hk, rfl⟩ := r.sur k' hk'
  have hon : onS s' hs (x.map (mapSt σ)) (σ k) d = onS s hs x k d := by
   unfold onS
   rw [r.cones]
   refine List.filter_congr fun i hi => ?_
   have hi := List.mem_range.1 hi
   have hc : s.cones[i]? = some s.cones[i] := List.getElem?_eq_getElem hi
   unfold onB
   rw [r.cones, hc, List.getElem?_map]
   cases ha : x[i]? with
   | none => rfl
   | some a =>
    simp only [Option.map_some]
    rcases opt_dry (h2 i _ a hc ha) with rfl | ⟨hg, _⟩
    ·have e1 : ((mapSt σ none1).shelf == ((σ k : Nat) : Int)) = false := by rw [map_none]; simp [none1]
     have e2 : (none1.shelf == ((k : Nat) : Int)) = false := by simp [none1]
     rw [e1, e2]; simp
    ·obtain ⟨j, e, hj, he, rfl⟩ := mem_grid.1 hg
     rw [map_grid, r.fate hj]
     have e1 : (((σ j : Nat) : Int) == ((σ k : Nat) : Int)) = ((j : Int) == (k : Int)) := by
      by_cases e : j = k
      ·subst e; simp
      ·have : σ j ≠ σ k := fun g => e (r.inj j k hj hk g)
       rw [beq_eq_false_iff_ne.2 (by omega), beq_eq_false_iff_ne.2 (by omega)]
     rw [e1]
  have hr : roomOf s' (σ k) = roomOf s k := by unfold roomOf; rw [r.get k hk]
  rw [hon, hr]
  exact h3 k hk d hd
theorem cnt_map {s : St} (h : Ok s) {hs : List Int} {so : Nat → Bool} {each : Bool} {x : List Stand} (hx : x ∈ plansS s hs so each) (σ : Nat → Nat) : cnt (x.map (mapSt σ)) = cnt x := by
 unfold cnt
 rw [List.countP_map]
 congr 1
 refine List.countP_congr fun a ha => ?_
 simp only [Function.comp, decide_eq_true_eq]
 unfold mapSt
 split
 ·rfl
 ·rename_i hh
  constructor
  ·intro _; omega
  ·intro _; simp only; omega
theorem Renum.inv {s s' : St} {σ : Nat → Nat} (r : Renum s s' σ) : ∃ τ, Renum s' s τ := by
 classical
 have hc : ∀ k, ∃ j, k < s.shelves.length → j < s.shelves.length ∧ σ j = k := fun k => by
  by_cases hk : k < s.shelves.length
  ·obtain ⟨j, hj⟩ := r.sur k hk; exact ⟨j, fun _ => hj⟩
  ·exact ⟨0, fun h => absurd h hk⟩
 obtain ⟨τ, hτ⟩ := Classical.axiomOfChoice hc
 refine ⟨τ, r.sh.symm, fun k hk => ?_, fun j k hj hk e => ?_, fun k hk => ?_, fun k hk => ?_, r.days.symm, r.cones.symm⟩
 ·rw [r.sh] at hk ⊢; exact (hτ k hk).1
 ·rw [r.sh] at hj hk; rw [← (hτ j hj).2, ← (hτ k hk).2, e]
 ·rw [r.sh] at hk ⊢
  exact ⟨σ k, r.rng k hk, r.inj _ _ (hτ _ (r.rng k hk)).1 hk (hτ _ (r.rng k hk)).2⟩
 ·rw [r.sh] at hk
  have := r.get (τ k) (hτ k hk).1
  rw [(hτ k hk).2] at this
  exact this.symm
theorem Renum.most {s s' : St} {σ : Nat → Nat} (r : Renum s s' σ) (h : Ok s) (h' : Ok s') (hs : List Int) : cnt (mostS s hs) = cnt (mostS s' hs) := by
 have key : ∀ {s s' : St} {σ : Nat → Nat}, Renum s s' σ → Ok s → Ok s' → cnt (mostS s hs) ≤ cnt (mostS s' hs) := fun {s s' σ} r h h' => by
  have h1 := most_mem h hs
  rw [← cnt_map h h1 σ]
  exact most_max h' (r.plans h h' h1)
 obtain ⟨τ, rτ⟩ := r.inv
 have h1 := key r h h'
 have h2 := key rτ h' h
 omega
theorem Renum.can {s s' : St} {σ : Nat → Nat} (r : Renum s s' σ) (h : Ok s) (h' : Ok s') (hs : List Int) : canS s hs = canS s' hs := by
 have key : ∀ {s s' : St} {σ : Nat → Nat}, Renum s s' σ → Ok s → Ok s' → canS s hs = true → canS s' hs = true := fun {s s' σ} r h h' hc => by
  unfold canS at hc ⊢
  cases hp : plansS s hs allC true with
  | nil => rw [hp] at hc; simp at hc
  | cons x l =>
   have hx : x ∈ plansS s hs allC true := by rw [hp]; exact List.mem_cons_self ..
   have := r.plans h h' hx
   cases hp' : plansS s' hs allC true with
   | nil => rw [hp'] at this; cases this
   | cons _ _ => rfl
 obtain ⟨τ, rτ⟩ := r.inv
 cases h1 : canS s hs with
 | true => exact (key r h h' h1).symm
 | false =>
  cases h2 : canS s' hs with
  | false => rfl
  | true => rw [key rτ h' h h2] at h1; cases h1
theorem Renum.fire {s s' : St} {σ : Nat → Nat} (r : Renum s s' σ) (h : Ok s) (h' : Ok s') (e : s'.top = s.top ∧ s'.rise = s.rise ∧ s'.now = s.now) : fireS s' = fireS s := by
 unfold fireS heatsS
 rw [e.1, e.2.1, e.2.2, r.days]
 congr 1
 exact List.filter_congr fun x _ => (r.can h h' x).symm
end Go.Mz


set_option maxRecDepth 100000
namespace Go.Mz
open Go.Conc Go.Proofs
abbrev Rw (α : Type) := Rf × List α
def encRw {α : Type} (x : Rw α) : List Value := [slV x.1]
theorem encRw_len {α : Type} (x : Rw α) : (encRw x).length = 1 := rfl
theorem encRw_sg {α : Type} (x : Rw α) : ∀ u ∈ encRw x, single u = true := fun u hu => by rw [List.mem_singleton.1 hu]; rfl
structure RwOk {α : Type} (L : LH) (k : Nat) (enc : α → List Value) (x : Rw α) : Prop where
 sl : SlAt L x.1.1 k enc x.2
 len : x.1.2.1 = x.2.length
theorem RwOk.le {α : Type} {L L' : LH} {k : Nat} {enc : α → List Value} {x : Rw α} (h : RwOk L k enc x) (hl : Le L L') : RwOk L' k enc x := ⟨h.sl.le hl, h.len⟩
def RowsAt {α : Type} (L : LH) (ad : Option Addr) (k : Nat) (enc : α → List Value) (ls : List (List α)) : Prop := ∃ rs : List (Rw α), rs.map Prod.snd = ls ∧ SlAt L ad 1 encRw rs ∧ ∀ x ∈ rs, RwOk L k enc x
def GrowL {α : Type} (I : LH) (e k : Nat) (enc : α → List Value) (L : LH) (v : Value) (ls : List (List α)) : Prop := ∃ J, ∃ rs : List (Rw α), Le I J ∧ rs.map Prod.snd = ls ∧ Grow J 1 e encRw L v rs ∧ ∀ x ∈ rs, RwOk J k enc x
section
variable {β : Type} {F F' I L L' L2 : LH} {e k : Nat} {enc : β → List Value} {v : Value} {l : List β}
theorem Grow.foot {ad : Option Addr} {len cap : Nat} (h : Grow I k e enc L (.slice ad len cap) l) (hk : ∀ x, (enc x).length = k) (hF : Le F I) : ∃ F', Le F F' ∧ Le F' L ∧ SlAt F' ad k enc l ∧ ∀ b, F' b ≠ none → F b ≠ none ∨ I b = none := by
 obtain ⟨hI, ob, ho, hn⟩ := h
 obtain ⟨ad', cap', e1, -⟩ := ho.slice
 cases e1
 classical
 refine ⟨fun b => if ob = some b then L b else F b, fun b x hx => ?_, fun b x hx => ?_, (ho.keep (L' := fun b => if ob = some b then L b else F b) fun b hb => ?_).at hk, fun b hb => ?_⟩
 ·simp only
  split
  ·rename_i e2; have := hF _ _ hx; rw [hn b e2] at this; cases this
  ·exact hx
 ·simp only at hx
  split at hx
  ·exact hx
  ·exact hI _ _ (hF _ _ hx)
 ·rw [if_pos hb]
 ·simp only at hb
  split at hb
  ·rename_i e2; exact .inr (hn b e2)
  ·exact .inl hb
theorem Own.some_blk {v : Value} {n : Nat} {cs : List Value} {ob : Option Nat} (h : Own L k e v n cs ob) {b : Nat} (hb : ob = some b) : L b ≠ none := by subst hb; exact h.blk
theorem Grow.rebase (h : Grow F k e enc L v l) (hl : Le L L') (hF : Le F' L') (hn : ∀ b, F' b ≠ none → F b ≠ none ∨ L b = none) : Grow F' k e enc L' v l := by
 obtain ⟨_, ob, ho, hf⟩ := h
 refine ⟨hF, ob, ho.le hl, fun b hb => ?_⟩
 cases hx : F' b with
 | none => rfl
 | some y =>
  rcases hn b (by rw [hx]; simp) with e1 | e1
  ·exact absurd (hf b hb) e1
  ·exact absurd e1 (ho.some_blk hb)
theorem Grow.call (h : Grow F k e enc L v l) (p : Post F L F' L2) : Grow F' k e enc L2 v l := by
 obtain ⟨_, ob, ho, hf⟩ := h
 refine ⟨p.le, ob, ho.keep fun b hb => ?_, fun b hb => ?_⟩
 ·cases hx : L b with
  | none => exact absurd hx (ho.some_blk hb)
  | some y => exact p.keep b y (hf b hb) hx
 ·cases hx : F' b with
  | none => rfl
  | some y =>
   rcases p.fresh b (by rw [hx]; simp) with e1 | e1
   ·exact absurd (hf b hb) e1
   ·exact absurd e1 (ho.some_blk hb)
end
section
variable {α : Type} {I L L' : LH} {e k : Nat} {enc : α → List Value} {v : Value} {ls : List (List α)}
theorem GrowL.hle (h : GrowL I e k enc L v ls) : Le I L := let ⟨_, _, h1, _, h, _⟩ := h; h1.trans h.1
theorem GrowL.le (h : GrowL I e k enc L v ls) (hl : Le L L') : GrowL I e k enc L' v ls := let ⟨J, rs, h0, h1, h2, h3⟩ := h; ⟨J, rs, h0, h1, h2.le hl, h3⟩
theorem GrowL.less {I' : LH} (h : GrowL I e k enc L v ls) (hl : Le I' I) : GrowL I' e k enc L v ls := let ⟨J, rs, h0, h1, h2, h3⟩ := h; ⟨J, rs, hl.trans h0, h1, h2, h3⟩
theorem GrowL.nil (h : Le I L) : GrowL I e k enc L (.slice none 0 0) ([] : List (List α)) := ⟨L, [], h, rfl, Grow.nil (Le.refl _), fun x hx => by cases hx⟩
theorem GrowL.slice (h : GrowL I e k enc L v ls) : ∃ ad cap, v = .slice ad ls.length cap := by
 obtain ⟨J, rs, _, rfl, h2, _⟩ := h
 obtain ⟨ad, cap, rfl, -⟩ := h2.slice
 exact ⟨ad, cap, by rw [List.length_map]⟩
theorem GrowL.at {ad : Option Addr} {len cap : Nat} (h : GrowL I e k enc L (.slice ad len cap) ls) : len = ls.length ∧ RowsAt L ad k enc ls := by
 obtain ⟨J, rs, _, rfl, h2, h3⟩ := h
 obtain ⟨rfl, h4⟩ := h2.at encRw_len
 exact ⟨(List.length_map ..).symm, rs, rfl, h4, fun x hx => (h3 x hx).le h2.1⟩
theorem RowsAt.le {ad : Option Addr} (h : RowsAt L ad k enc ls) (hl : Le L L') : RowsAt L' ad k enc ls := let ⟨rs, h1, h2, h3⟩ := h; ⟨rs, h1, h2.le hl, fun x hx => (h3 x hx).le hl⟩
theorem RowsAt.addr {ad : Option Addr} (h : RowsAt L ad k enc ls) {i : Nat} (hi : i < ls.length) : ∃ a, ad = some a := by
 obtain ⟨rs, rfl, h2, _⟩ := h
 exact h2.addr (by simpa using hi)
theorem RowsAt.row {ad : Addr} (h : RowsAt L (some ad) k enc ls) {i : Nat} {l : List α} (hl : ls[i]? = some l) : ∃ a c, L.cell? (ad.add i) = some (.slice a l.length c) ∧ SlAt L a k enc l := by
 obtain ⟨rs, rfl, h2, h3⟩ := h
 rw [List.getElem?_map] at hl
 obtain ⟨⟨⟨a, n, c⟩, l'⟩, hx, rfl⟩ := Option.map_eq_some_iff.1 hl
 have hk := h3 _ (List.mem_of_getElem? hx)
 have hn : n = l'.length := hk.len
 subst hn
 refine ⟨a, c, ?_, hk.sl⟩
 have := h2.get hx (j := 0) (v := slV (a, l'.length, c)) rfl
 simpa using this
theorem Grow.lit {β : Type} {encB : β → List Value} {l : List β} {b : Nat} (hk : ∀ x, (encB x).length = k) (h : Le I L) (hb : L b = some (.cells (l.flatMap encB).toArray e (0, 0), true)) (hn : I b = none) : Grow I k e encB L (.slice (some ⟨b, 0, none⟩) l.length l.length) l :=
 ⟨h, some b, ⟨l.length, (l.flatMap encB).toArray, rfl, hb, by simp [flat_len hk], Nat.le_refl _, flat_len hk l, fun i x hx => by simpa using hx⟩, fun b' hb' => by cases hb'; exact hn⟩
theorem GrowL.one {b : Nat} {a : Option Addr} {c : Nat} {l : List α} (hl : SlAt I a k enc l) (hI : Le I L) (hb : L b = some (.cells #[.slice a l.length c] e (0, 0), true)) (hn : I b = none) : GrowL I e k enc L (.slice (some ⟨b, 0, none⟩) 1 1) [l] :=
 ⟨I, [((a, l.length, c), l)], Le.refl _, rfl, Grow.lit (l := [((a, l.length, c), l)]) encRw_len hI hb hn, fun x hx => by rw [List.mem_singleton.1 hx]; exact ⟨hl, rfl⟩⟩
end
section
variable {X : Logic Tryz.prog}
theorem planV_snoc {s : St} {hs : List Int} {b : List Stand} {c : Cone} {a : Stand} {each : Bool} (h : PlanV s b) (hb : b.length < s.cones.length) (ha : a ∈ optS s hs true each c) : PlanV s (b ++ [a]) := by
 refine ⟨by simp; omega, fun x hx => ?_⟩
 rcases List.mem_append.1 hx with hx | hx
 ·exact h.2 x hx
 ·rw [List.mem_singleton.1 hx]
  rcases opt_dry ha with rfl | ⟨hg, _⟩
  ·exact .inl rfl
  ·obtain ⟨k, d, hk, hd, rfl⟩ := mem_grid.1 hg
   right
   unfold isStand inB
   simp
   omega
theorem rPlans_sp (s : St) (p : Pt) (ha : Option Addr) (hc : Nat) (hs : List Int) (each : Bool) (hok : Ok s) (hhk : HOk s hs) : ∀ (n : Nat) (ba : Option Addr) (bc : Nat) (b : List Stand) (L : LH), s.cones.length - b.length = n → AskAt L s p ha hs → SlAt L ba 2 encSt b → PlanV s b →
  Sp X 102 [stA s p, .slice ha hs.length hc, .bool each, .slice ba b.length bc] L (fun v L' => GrowL L 41 2 encSt L' v (plansG s hs each b)) := by
 intro n
 induction n using Nat.strongRecOn with
 | _ n ih => ?_
 intro ba bc b L hn h hb hv
 have hc3 := hok.c3
 have hv1 := hv.1
 refine Sp.enter (n := 60) Tryz.func102 rfl rfl rfl rfl fun C hX _ hL0 r => ?_
 refine W.go 99 rfl ?_
 refine W.eff rfl rfl rfl (Ef.call rfl (rFits_sp s p ha ba hc bc hs b L h hok hhk hb hv)) ?_
 rintro _ _ _ ⟨_, rfl, rfl, rfl, hl0⟩
 refine W.go 99 rfl ?_
 rename_i L0
 have h := h.le hl0
 have hb := hb.le hl0
 refine W.split rfl rfl rfl (fun e1 => W.go 99 rfl ?_) (fun e1 => W.go 99 rfl ?_)
 ·have hf : fitsS s hs b = false := by simpa using e1
  refine W.ret r rfl rfl ?_
  rw [plansG_no hf]
  exact GrowL.nil hl0
 have hf : fitsS s hs b = true := by simpa using e1
 refine W.split rfl rfl rfl (fun e2 => W.go 99 rfl ?_) (fun e2 => W.go 99 rfl ?_)
 ·have hbl : s.cones.length ≤ b.length := by simp at e2; omega
  refine W.pub 8 (.inr ⟨_, _, _, rfl⟩) rfl rfl ?_
  intro b1 hb1 _
  refine W.ret r rfl rfl ?_
  rw [plansG_end hf hbl]
  exact (GrowL.one hb (Le.put hb1 _) (put_same _ _ _) hb1).less hl0
 have hbl : b.length < s.cones.length := by simp at e2; omega
 obtain ⟨c, hcc⟩ : ∃ c, s.cones[b.length]? = some c := ⟨_, List.getElem?_eq_getElem hbl⟩
 have hopt : (if (!each) = true then [none1] else []) ++ standsS s hs c = optS s hs true each c := by unfold optS; cases each <;> rfl
 refine W.cutI (fun E B L1 => ∃ v : Value, Grow L0 2 30 encSt L1 v (if (!each) = true then [none1] else []) ∧ SubE E [(1, .v (.slice ha hs.length hc)), (2, .v (.bool each)), (3, .v (.slice ba b.length bc)), (4, .p 0 0), (9, .v v)] ∧ PreB B [some ⟨cellsS (.v (stA s p)), 25⟩]) ?_ ?_
 ·rintro E B L1 ⟨v, hg, hE, hB⟩
  refine W.weak hE hB ?_
  refine W.go 99 rfl ?_
  refine W.eff rfl rfl rfl (Ef.call rfl (rStands_sp s p ha hc hs c b.length L1 (h.le hg.1) hok hhk hcc)) ?_
  rintro _ _ _ ⟨_, rfl, rfl, hg2⟩
  refine W.go 99 rfl ?_
  rename_i L2
  have hol := opt_len (hs := hs) (so := true) (each := each) (c := c) hok
  rw [← hopt, List.length_append] at hol
  obtain ⟨ad, cap, rfl, -⟩ := hg2.slice
  refine W.eff rfl rfl rfl (Ef.grow rfl rfl rfl rfl rfl rfl rfl rfl rfl encSt_len encSt_sg (hg.le hg2.1) (ls := standsS s hs c) (.sl (hg2.at encSt_len).2 encSt_len rfl) (by omega)) ?_
  rintro _ _ _ ⟨v', rfl, rfl, hg3, -⟩
  refine W.go 99 rfl ?_
  rename_i L3
  have hg3 : Grow L0 2 30 encSt L3 v' ((if (!each) = true then [none1] else []) ++ standsS s hs c) := hg3
  rw [← List.length_append] at hol
  rw [hopt] at hg3 hol
  have ho1 : ∀ a ∈ optS s hs true each c, PlanV s (b ++ [a]) := fun a ha => planV_snoc hv hbl ha
  rw [plansG_step hf hcc] at r
  generalize optS s hs true each c = o at hg3 hol ho1 r
  clear hopt
  obtain ⟨la, lc, rfl, -⟩ := hg3.slice
  have ho3 := (hg3.at encSt_len).2
  refine W.loop (fun m E B L' => ∃ (i : Nat) (v : Value) (F : LH) (rs : List (Rw Stand)), m = o.length - i ∧ i ≤ o.length ∧ Le L3 F ∧ rs.map Prod.snd = (o.take i).flatMap (fun a => plansG s hs each (b ++ [a])) ∧ Grow F 1 41 encRw L' v rs ∧ (∀ x ∈ rs, RwOk F 2 encSt x) ∧
    E = [(1, .v (.slice ha hs.length hc)), (2, .v (.bool each)), (3, .v (.slice ba b.length bc)), (4, .p 0 0), (9, .v (.slice la o.length lc)), (10, .v v), (11, .v (.int .i64 i))] ∧ B = [some ⟨cellsS (.v (stA s p)), 25⟩])
   ⟨0, _, L3, [], rfl, by omega, Le.refl _, rfl, Grow.nil (Le.refl _), (fun x hx => by cases hx), rfl, rfl⟩ (by exact ⟨rfl, rfl, rfl, rfl, rfl, rfl, rfl, trivial⟩) (by exact ⟨rfl, trivial⟩) ?_
  rintro _ _ _ L4 ⟨i, v, F, rs, rfl, hi, hLF, hrs, hgr, hrk, rfl, rfl⟩ again
  have hF4 := hgr.1
  refine W.go 99 rfl ?_
  refine W.split rfl rfl rfl (fun e4 => W.go 99 rfl ?_) (fun e4 => W.go 99 rfl ?_)
  ·have hio : i < o.length := by simpa using e4
   obtain ⟨a, hai⟩ : ∃ a, o[i]? = some a := ⟨_, List.getElem?_eq_getElem hio⟩
   obtain ⟨la', rfl⟩ := ho3.addr hio
   have hrl : rs.length ≤ 13 * 2197 := by
    have h1 := congrArg List.length hrs
    rw [List.length_map] at h1
    have h2 := flatMap_le (f := fun a => plansG s hs each (b ++ [a])) (k := 2197) (o.take i) fun x _ => plansG_len hok
    rw [List.length_take] at h2
    have h3 : min i o.length * 2197 ≤ 13 * 2197 := Nat.mul_le_mul_right _ (by omega)
    omega
   have hLF0 : Le L0 F := hg3.1.trans hLF
   refine W.drawn (by kernel_rfl) F hF4 ?_
   refine DD.run' [0, 1, 2, 3, 4, 5, 7, 8] rfl ?_
   refine DD.vf 9 rfl rfl rfl rfl rfl (Vf.idx rfl rfl rfl rfl rfl rfl (hio)) ?_
   refine DD.vf 10 rfl rfl rfl rfl rfl (Vf.loadN rfl rfl rfl ((ho3.le hLF).whole hai rfl)) ?_
   refine DD.run' [11] rfl ?_
   refine DD.act 6 rfl rfl rfl rfl rfl (Ef.pub 48 (.inr ⟨_, _, _, rfl⟩) rfl rfl (fun b1 hb1 _ => Ef.grow rfl rfl rfl rfl rfl rfl rfl rfl rfl encSt_len encSt_sg (Grow.new (Le.put hb1 _) (put_same _ _ _) hb1) (ls := b) (.sl ((hb.le (hLF0.trans hF4)).le (Le.put hb1 _)) encSt_len rfl) (by simp; omega))) ((by rintro _ _ _ ⟨b1, hb1, _, _, rfl, rfl, hg, _⟩; exact ⟨hF4.trans hg.1, rfl, .inl rfl⟩)) ?_
   rintro _ _ _ ⟨b1, hb1, _, v1, rfl, rfl, hg1, -⟩
   rw [List.nil_append] at hg1
   refine DD.act 12 rfl rfl rfl rfl rfl (Ef.grow rfl rfl rfl rfl rfl rfl rfl rfl rfl encSt_len encSt_sg hg1 (ls := [a]) (.own rfl rfl rfl rfl) (by simp; omega)) ((by rintro _ _ _ ⟨_, rfl, rfl, hg, _⟩; exact ⟨hF4.trans hg.1, rfl, .inl rfl⟩)) ?_
   rintro _ _ _ ⟨v2, rfl, rfl, hg2, -⟩
   rename_i L5
   have hg2 : Grow L4 2 30 encSt L5 v2 (b ++ [a]) := hg2
   obtain ⟨xa, xc, rfl, -⟩ := hg2.slice
   obtain ⟨F5, hFF5, hF5L, hx5, hf5⟩ := hg2.foot encSt_len hF4
   have hrec := (ih (n - 1) (by omega) xa xc (b ++ [a]) F5 (by simp; omega) (h.le (hLF0.trans hFF5)) hx5 (ho1 a (List.mem_of_getElem? hai))).frame hF5L
   rw [← hX] at hrec
   refine DD.act 13 rfl rfl rfl rfl rfl (Ef.call rfl hrec) ((by rintro _ _ _ ⟨_, _, rfl, L1', hq, hp⟩; exact ⟨(hFF5.trans hq.hle).trans hp.le, rfl, .inl rfl⟩)) ?_
   rintro _ _ _ ⟨_, rfl, rfl, F6, ⟨J, rs2, hJ, hrs2, hgr2, hrk2⟩, hp⟩
   rename_i L6 _
   have hgr6 : Grow F6 1 41 encRw L6 v rs := (hgr.rebase hg2.1 hF5L hf5).call hp
   obtain ⟨ra, rc, rfl, -⟩ := hgr2.slice
   have hFF6 : Le F F6 := hFF5.trans (hJ.trans hgr2.1)
   have hrl2 : rs2.length ≤ 2197 := by
    have h1 := congrArg List.length hrs2
    rw [List.length_map] at h1
    have h2 := plansG_len (hs := hs) hok (each := each) (b := b ++ [a])
    omega
   refine DD.act 14 rfl rfl rfl rfl rfl (Ef.grow rfl rfl rfl rfl rfl rfl rfl rfl rfl encRw_len encRw_sg hgr6 (ls := rs2) (.sl ((hgr2.at encRw_len).2.le hp.le) encRw_len rfl) (by omega)) ((by rintro _ _ _ ⟨_, rfl, rfl, hg, _⟩; exact ⟨hFF6.trans hg.1, rfl, .inl rfl⟩)) ?_
   rintro _ _ _ ⟨v3, rfl, rfl, hgr7, -⟩
   refine DD.run' [15] rfl ?_
   refine .fin rfl ?_
   refine W.go 99 rfl ?_
   refine W.again (again _ _ _ _ (by omega) ⟨i + 1, v3, F6, rs ++ rs2, rfl, by omega, hLF.trans hFF6, ?_, hgr7, ?_, rfl, rfl⟩) ⟨rfl, rfl, rfl, rfl, rfl, rfl, congrArg some (inc64 (by omega)), trivial⟩ ⟨rfl, trivial⟩
   ·obtain ⟨_, rfl⟩ := List.getElem?_eq_some_iff.1 hai
    rw [List.map_append, hrs, hrs2, List.take_succ_eq_append_getElem hio, List.flatMap_append, List.flatMap_singleton]
   ·intro x hx
    rcases List.mem_append.1 hx with hx | hx
    ·exact (hrk x hx).le hFF6
    ·exact (hrk2 x hx).le hgr2.1
  ·have hie : i = o.length := by simp at e4; omega
   rw [hie, List.take_length] at hrs
   refine W.ret r rfl rfl ?_
   exact ⟨F, rs, hl0.trans (hg3.1.trans hLF), hrs, hgr, hrk⟩
 ·intro rest
  refine W.split rfl rfl rfl (fun e3 => ?_) (fun e3 => ?_)
  ·refine W.go 99 rfl ?_
   refine W.eff rfl rfl rfl (Ef.grow rfl rfl rfl rfl rfl rfl rfl rfl rfl encSt_len encSt_sg (Grow.nil (Le.refl L0)) (ls := [none1]) (.own rfl rfl rfl rfl) (by simp)) ?_
   rintro _ _ _ ⟨v', rfl, rfl, hg', -⟩
   refine W.go 2 rfl ?_
   exact rest _ _ _ ⟨v', by rw [if_pos (by simpa using e3)]; exact hg', ⟨rfl, rfl, rfl, rfl, rfl, trivial⟩, ⟨rfl, trivial⟩⟩
  ·refine W.go 2 rfl ?_
   exact rest _ _ _ ⟨_, by rw [if_neg (by simpa using e3)]; exact Grow.nil (Le.refl _), ⟨rfl, rfl, rfl, rfl, rfl, trivial⟩, ⟨rfl, trivial⟩⟩
end
end Go.Mz


set_option maxRecDepth 100000
namespace Go.Mz
open Go.Conc Go.Proofs
variable {X : Logic Tryz.prog}
def Got {α : Type} (L : LH) (k : Nat) (enc : α → List Value) (l : List α) (v : Value) (L' : LH) : Prop := ∃ ad cap, v = .slice ad l.length cap ∧ Le L L' ∧ SlAt L' ad k enc l
theorem Got.nil {α : Type} {L L' : LH} {k : Nat} {enc : α → List Value} (h : Le L L') : Got L k enc ([] : List α) (.slice none 0 0) L' := ⟨none, 0, rfl, h, SlAt.empty⟩
theorem planV_nil {s : St} : PlanV s [] := ⟨by simp, fun a ha => by cases ha⟩
theorem rCan_sp (s : St) (p : Pt) (ha : Option Addr) (hc : Nat) (hs : List Int) (L : LH) (h : AskAt L s p ha hs) (hok : Ok s) (hhk : HOk s hs) : Sp X 114 [stA s p, .slice ha hs.length hc] L (fun v L' => v = .bool (canS s hs) ∧ Le L L') := by
 refine Sp.enter (n := 10) Tryz.func114 rfl rfl rfl rfl fun C hX _ hL0 r => ?_
 refine W.go 99 rfl ?_
 refine W.eff rfl rfl rfl (Ef.call rfl (rPlans_sp s p ha hc hs true hok hhk _ none 0 [] L rfl h SlAt.empty planV_nil)) ?_
 rintro _ _ _ ⟨_, rfl, rfl, hg⟩
 rw [plansG_nil hok] at hg
 obtain ⟨ad, cap, rfl⟩ := hg.slice
 refine W.go 99 rfl ?_
 refine W.ret r rfl rfl ?_
 refine ⟨?_, hg.hle⟩
 unfold canS
 cases plansS s hs allC true <;> simp [retV] <;> omega
end Go.Mz


set_option maxRecDepth 100000
namespace Go.Mz
open Go.Conc Go.Proofs
variable {X : Logic Tryz.prog}
theorem last_rng {s : St} (h : Ok s) {b : List Int} (hv : ∀ x ∈ b, 0 ≤ x ∧ x ≤ s.top) : 0 ≤ b.getLast?.getD s.now ∧ b.getLast?.getD s.now ≤ 5 := by
 have := h.n0; have := h.n5; have := h.t5
 cases hb : b.getLast? with
 | none => simp; omega
 | some x =>
  have := hv x (List.mem_of_getLast? hb)
  simp only [Option.getD_some]; omega
theorem rHeatsG_sp (s : St) (p : Pt) (hok : Ok s) : ∀ (n : Nat) (ba : Option Addr) (bc : Nat) (b : List Int) (L : LH), s.days.toNat - b.length = n → b.length ≤ s.days.toNat → (∀ x ∈ b, 0 ≤ x ∧ x ≤ s.top) → StAt L s p → IntsAt L ba b →
  Sp X 131 [stA s p, .slice ba b.length bc] L (fun v L' => GrowL L 28 1 encI L' v (heatsG s b)) := by
 intro n
 induction n using Nat.strongRecOn with
 | _ n ih => ?_
 intro ba bc b L hn hb hv h hi
 have t0 := hok.t0
 have t5 := hok.t5
 have r0 := hok.r0
 have r3 := hok.r3
 have d1 := hok.d1
 have d4 := hok.d4
 refine Sp.enter (n := 48) Tryz.func131 rfl rfl rfl rfl fun C hX _ hL0 r => ?_
 refine W.go 99 rfl ?_
 refine W.split rfl rfl rfl (fun e1 => W.go 99 rfl ?_) (fun e1 => W.go 99 rfl ?_)
 ·have hbl : b.length = s.days.toNat := by simp at e1; omega
  refine W.pub 4 (.inr ⟨_, _, _, rfl⟩) rfl rfl ?_
  intro b1 hb1 _
  refine W.ret r rfl rfl ?_
  rw [heatsG_end hbl]
  exact GrowL.one hi (Le.put hb1 _) (put_same _ _ _) hb1
 have hbl : b.length < s.days.toNat := by simp at e1; omega
 rw [heatsG_step hbl] at r
 obtain ⟨q0, q5⟩ := last_rng hok hv
 refine W.cutI (fun E B L1 => L = L1 ∧ SubE E [(1, .v (.slice ba b.length bc)), (2, .p 0 0), (5, .v (.int .i64 (b.getLast?.getD s.now)))] ∧ PreB B [some ⟨cellsS (.v (stA s p)), 25⟩]) ?_ ?_
 ·rintro E B _ ⟨rfl, hE, hB⟩
  refine W.weak hE hB ?_
  generalize b.getLast?.getD s.now = q at q0 q5 r
  obtain ⟨N, hN⟩ : ∃ N : Nat, min s.top (q + s.rise) + 1 = (N : Int) := ⟨(min s.top (q + s.rise) + 1).toNat, by omega⟩
  rw [hN, Int.toNat_natCast] at r
  refine W.go 99 rfl ?_
  refine W.loop (fun m E B L' => ∃ (j : Nat) (v : Value) (F : LH) (rs : List (Rw Int)), m = N - j ∧ j ≤ N ∧ Le L F ∧ rs.map Prod.snd = (List.range j).flatMap (fun (n : Nat) => heatsG s (b ++ [(n : Int)])) ∧ Grow F 1 28 encRw L' v rs ∧ (∀ x ∈ rs, RwOk F 1 encI x) ∧
    E = [(1, .v (.slice ba b.length bc)), (2, .p 0 0), (5, .v (.int .i64 q)), (6, .v v), (7, .v (.int .i64 j))] ∧ B = [some ⟨cellsS (.v (stA s p)), 25⟩])
   ⟨0, _, L, [], rfl, by omega, Le.refl _, rfl, Grow.nil (Le.refl _), (fun x hx => by cases hx), rfl, rfl⟩ (by exact ⟨rfl, rfl, rfl, rfl, rfl, trivial⟩) (by exact ⟨rfl, trivial⟩) ?_
  rintro _ _ _ L2 ⟨j, v, F, rs, rfl, hj, hLF, hrs, hgr, hrk, rfl, rfl⟩ again
  have hF2 := hgr.1
  refine W.go 99 rfl ?_
  rw [wrap64_in _ (by omega) (by omega)]
  refine W.split rfl rfl rfl (fun e2 => W.go 99 rfl ?_) (fun e2 => W.go 99 rfl ?_)
  ·have hj1 : j + 1 ≤ N := by simp at e2; split at e2 <;> omega
   have hrl : rs.length ≤ 6 * 1296 := by
    have h1 := congrArg List.length hrs
    rw [List.length_map] at h1
    have h2 := flatMap_le (f := fun (n : Nat) => heatsG s (b ++ [(n : Int)])) (k := 1296) (List.range j) fun x _ => heatsG_len hok
    rw [List.length_range] at h2
    have h3 : j * 1296 ≤ 6 * 1296 := Nat.mul_le_mul_right _ (by omega)
    omega
   refine W.drawn (by kernel_rfl) F hF2 ?_
   refine DD.run' [0, 1, 2, 3, 5, 6] rfl ?_
   refine DD.act 4 rfl rfl rfl rfl rfl (Ef.pub 39 (.inr ⟨_, _, _, rfl⟩) rfl rfl (fun b1 hb1 _ => Ef.grow rfl rfl rfl rfl rfl rfl rfl rfl rfl encI_len encI_sg (Grow.new (Le.put hb1 _) (put_same _ _ _) hb1) (ls := b) (.sl ((hi.le (hLF.trans hF2)).le (Le.put hb1 _)) encI_len rfl) (by simp; omega))) ((by rintro _ _ _ ⟨b1, hb1, _, _, rfl, rfl, hg, _⟩; exact ⟨hF2.trans hg.1, rfl, .inl rfl⟩)) ?_
   rintro _ _ _ ⟨b1, hb1, _, v1, rfl, rfl, hg1, -⟩
   rw [List.nil_append] at hg1
   refine DD.act 7 rfl rfl rfl rfl rfl (Ef.grow rfl rfl rfl rfl rfl rfl rfl rfl rfl encI_len encI_sg hg1 (ls := [(j : Int)]) (.own rfl rfl rfl rfl) (by simp; omega)) ((by rintro _ _ _ ⟨_, rfl, rfl, hg, _⟩; exact ⟨hF2.trans hg.1, rfl, .inl rfl⟩)) ?_
   rintro _ _ _ ⟨v2, rfl, rfl, hg2, -⟩
   rename_i L4
   have hg2 : Grow L2 1 3 encI L4 v2 (b ++ [(j : Int)]) := hg2
   obtain ⟨xa, xc, rfl, -⟩ := hg2.slice
   obtain ⟨F4, hFF4, hF4L, hx4, hf4⟩ := hg2.foot encI_len hF2
   have hrec := (ih (n - 1) (by omega) xa xc (b ++ [(j : Int)]) F4 (by simp; omega) (by simp; omega) (fun x hx => by
    rcases List.mem_append.1 hx with hx | hx
    ·exact hv x hx
    ·rw [List.mem_singleton.1 hx]; omega) (h.le (hLF.trans hFF4)) hx4).frame hF4L
   rw [← hX] at hrec
   refine DD.act 8 rfl rfl rfl rfl rfl (Ef.call rfl hrec) ((by rintro _ _ _ ⟨_, _, rfl, L1', hq, hp⟩; exact ⟨(hFF4.trans hq.hle).trans hp.le, rfl, .inl rfl⟩)) ?_
   rintro _ _ _ ⟨_, rfl, rfl, F5, ⟨J, rs2, hJ, hrs2, hgr2, hrk2⟩, hp⟩
   rename_i L5 _
   have hgr5 : Grow F5 1 28 encRw L5 v rs := (hgr.rebase hg2.1 hF4L hf4).call hp
   obtain ⟨ra, rc, rfl, -⟩ := hgr2.slice
   have hFF5 : Le F F5 := hFF4.trans (hJ.trans hgr2.1)
   have hrl2 : rs2.length ≤ 1296 := by
    have h1 := congrArg List.length hrs2
    rw [List.length_map] at h1
    have h2 := heatsG_len hok (b := b ++ [(j : Int)])
    omega
   refine DD.act 9 rfl rfl rfl rfl rfl (Ef.grow rfl rfl rfl rfl rfl rfl rfl rfl rfl encRw_len encRw_sg hgr5 (ls := rs2) (.sl ((hgr2.at encRw_len).2.le hp.le) encRw_len rfl) (by omega)) ((by rintro _ _ _ ⟨_, rfl, rfl, hg, _⟩; exact ⟨hFF5.trans hg.1, rfl, .inl rfl⟩)) ?_
   rintro _ _ _ ⟨v3, rfl, rfl, hgr6, -⟩
   refine DD.run' [10] rfl ?_
   refine .fin rfl ?_
   refine W.go 99 rfl ?_
   exact W.again (again _ _ _ _ (by omega) ⟨j + 1, v3, F5, rs ++ rs2, rfl, by omega, hLF.trans hFF5, by rw [List.map_append, hrs, hrs2, List.range_succ, List.flatMap_append, List.flatMap_singleton], hgr6, (fun x hx => by
    rcases List.mem_append.1 hx with hx | hx
    ·exact (hrk x hx).le hFF5
    ·exact (hrk2 x hx).le hgr2.1), rfl, rfl⟩) ⟨rfl, rfl, rfl, rfl, congrArg some (inc64 (by omega)), trivial⟩ ⟨rfl, trivial⟩
  ·have hje : j = N := by simp at e2; split at e2 <;> omega
   subst hje
   refine W.ret r rfl rfl ?_
   exact ⟨F, rs, hLF, hrs, hgr, hrk⟩
 ·intro rest
  refine W.split rfl rfl rfl (fun e3 => ?_) (fun e3 => ?_)
  ·have hb0 : 0 < b.length := by simpa using e3
   refine W.go 99 rfl ?_
   obtain ⟨a, rfl⟩ := hi.addr hb0
   rw [wrap64_in _ (by omega) (by omega), show (b.length : Int) - 1 = ((b.length - 1 : Nat) : Int) by omega]
   refine W.vf rfl rfl rfl rfl (Vf.idx1 rfl rfl rfl rfl rfl rfl rfl ((show b.length - 1 < b.length by omega))) ?_
   refine W.vf rfl rfl rfl rfl (Vf.load rfl rfl rfl (hi.int (List.getElem?_eq_getElem (show b.length - 1 < b.length by omega)))) ?_
   refine W.go 2 rfl ?_
   have hlast : b.getLast?.getD s.now = b[b.length - 1] := by rw [List.getLast?_eq_getElem?, List.getElem?_eq_getElem (show b.length - 1 < b.length by omega)]; rfl
   exact rest _ _ _ ⟨rfl, (by exact ⟨rfl, rfl, congrArg (fun x => some (SV.v (.int .i64 x))) hlast.symm, trivial⟩), (by exact ⟨rfl, trivial⟩)⟩
  ·refine W.go 2 rfl ?_
   have hb0 : b = [] := by cases b with | nil => rfl | cons x t => simp at e3
   exact rest _ _ _ ⟨rfl, (by exact ⟨rfl, rfl, congrArg (fun x => some (SV.v (.int .i64 x))) (show s.now = b.getLast?.getD s.now by rw [hb0]; rfl), trivial⟩), (by exact ⟨rfl, trivial⟩)⟩
def BestAt (L : LH) (o : Option (List Int)) (v : Value) : Prop := match o with
 | none => v = .slice none 0 0
 | some y => ∃ a c, v = .slice a y.length c ∧ IntsAt L a y
theorem BestAt.le {L L' : LH} {o : Option (List Int)} {v : Value} (h : BestAt L o v) (hl : Le L L') : BestAt L' o v := by
 cases o with
 | none => exact h
 | some y => obtain ⟨a, c, h1, h2⟩ := h; exact ⟨a, c, h1, h2.le hl⟩
theorem rFire0_sp (s : St) (p : Pt) (L : LH) (hok : Ok s) (h : StAt L s p) (hgl : GlOk L) : Sp X 94 [stA s p] L (fun v L' => ∃ u, v = .tuple #[u, .bool (fireS s).isSome] ∧ Le L L' ∧ BestAt L' (fireS s) u) := by
 have d1 := hok.d1
 have d4 := hok.d4
 have t5 := hok.t5
 refine Sp.enter (n := 42) Tryz.func94 rfl rfl rfl rfl fun C hX _ hL0 r => ?_
 refine W.go 99 rfl ?_
 refine W.eff rfl rfl rfl (Ef.call rfl (rHeatsG_sp s p hok _ none 0 [] L rfl (by simp) (fun x hx => by cases hx) h ints0)) ?_
 rintro _ _ _ ⟨_, rfl, rfl, hg⟩
 refine W.go 99 rfl ?_
 rename_i L1 _
 rw [heatsG_nil] at hg
 rw [fireS_fold] at r
 have hlen : ∀ x ∈ heatsS s, HOk s x := fun x hx => by
  obtain ⟨h1, h2⟩ := heatsAll_mem hx
  exact ⟨by omega, h2⟩
 have hll := heats_len hok
 generalize heatsS s = l at hg hlen hll r
 obtain ⟨ad, cap, rfl⟩ := hg.slice
 have hrows := hg.at.2
 have hL1 := hg.hle
 clear hg
 refine W.loop (fun m E B L' => ∃ (i : Nat) (v : Value) (o : Option (List Int)), m = l.length - i ∧ i ≤ l.length ∧ Le L1 L' ∧ (l.take i).foldl (fireStep s) none = o ∧ BestAt L' o v ∧ (∀ y, o = some y → HOk s y) ∧
   E = [(1, .p 0 0), (4, .v v), (5, .lit o.isSome), (6, .v (.slice ad l.length cap)), (7, .v (.int .i64 i))] ∧ B = [some ⟨cellsS (.v (stA s p)), 25⟩])
  ⟨0, _, none, rfl, by omega, Le.refl _, by simp, rfl, (fun y hy => by cases hy), rfl, rfl⟩ (by exact ⟨rfl, rfl, rfl, rfl, rfl, trivial⟩) (by exact ⟨rfl, trivial⟩) ?_
 rintro _ _ _ L2 ⟨i, v, o, rfl, hi, hl2, ho, hbest, hbo, rfl, rfl⟩ again
 refine W.go 99 rfl ?_
 refine W.split rfl rfl rfl (fun e1 => W.go 99 rfl ?_) (fun e1 => W.go 99 rfl ?_)
 ·have hil : i < l.length := by simpa using e1
  obtain ⟨x, hx⟩ : ∃ x, l[i]? = some x := ⟨_, List.getElem?_eq_getElem hil⟩
  have htk : (l.take (i + 1)).foldl (fireStep s) none = fireStep s o x := by
   obtain ⟨_, rfl⟩ := List.getElem?_eq_some_iff.1 hx
   rw [List.take_succ_eq_append_getElem hil, List.foldl_append, ho]; rfl
  have hxo := hlen x (List.mem_of_getElem? hx)
  have hxn := hxo.len
  obtain ⟨ad', rfl⟩ := hrows.addr hil
  obtain ⟨xa, xc, hxc, hxs⟩ := (hrows.le hl2).row hx
  have hask : AskAt L2 s p xa x := ⟨h.le (hL1.trans hl2), hxs, hgl.le (hL1.trans hl2), by omega⟩
  cases o with
  | none =>
   obtain rfl : v = .slice none 0 0 := hbest
   refine W.drawn (by kernel_rfl) _ (Le.refl _) ?_
   refine DD.run' [0, 1, 2] rfl ?_
   refine DD.run' [3, 4, 5, 6, 7, 8, 9, 10, 11, 12] rfl ?_
   refine DD.run' [13, 14, 15] rfl ?_
   refine DD.vf 16 rfl rfl rfl rfl rfl (Vf.idx1 rfl rfl rfl rfl rfl rfl rfl (hil)) ?_
   refine DD.vf 17 rfl rfl rfl rfl rfl (Vf.load rfl rfl rfl (hxc)) ?_
   refine DD.act 18 rfl rfl rfl rfl rfl (Ef.call rfl ((rCan_sp s p xa xc x L2 hask hok hxo))) ((by rintro _ _ _ ⟨_, rfl, rfl, rfl, hl⟩; exact ⟨hl, rfl, .inl rfl⟩)) ?_
   rintro _ _ _ ⟨_, rfl, rfl, rfl, hl3⟩
   refine DD.run' [19] rfl ?_
   refine .fin rfl ?_
   refine W.go 99 rfl ?_
   refine W.split rfl rfl rfl (fun e3 => W.go 99 rfl ?_) (fun e3 => W.go 99 rfl ?_)
   ·have hcan : canS s x = true := by simpa using e3
    have hnew : (l.take (i + 1)).foldl (fireStep s) none = some x := by rw [htk]; unfold fireStep; rw [if_pos hcan]; rfl
    refine W.vf rfl rfl rfl rfl (Vf.idx1 rfl rfl rfl rfl rfl rfl rfl (hil)) ?_
    refine W.vf rfl rfl rfl rfl (Vf.load rfl rfl rfl (hl3.cell hxc)) ?_
    refine W.go 99 rfl ?_
    exact W.again (again _ _ _ _ (by omega) ⟨i + 1, .slice xa x.length xc, some x, rfl, by omega, hl2.trans hl3, hnew, ⟨xa, xc, rfl, hxs.le hl3⟩, (fun z hz => by cases hz; exact hxo), rfl, rfl⟩) ⟨rfl, rfl, rfl, rfl, congrArg some (inc64 (by omega)), trivial⟩ ⟨rfl, trivial⟩
   ·have hcan : canS s x = false := by simpa using e3
    have hnew : (l.take (i + 1)).foldl (fireStep s) none = none := by rw [htk]; unfold fireStep; rw [if_neg (by rw [hcan]; simp)]
    exact W.again (again _ _ _ _ (by omega) ⟨i + 1, .slice none 0 0, none, rfl, by omega, hl2.trans hl3, hnew, rfl, (fun z hz => by cases hz), rfl, rfl⟩) ⟨rfl, rfl, rfl, rfl, congrArg some (inc64 (by omega)), trivial⟩ ⟨rfl, trivial⟩
  | some y =>
   obtain ⟨ya, yc, rfl, hys⟩ := hbest
   have hyo := hbo y rfl
   have hyn := hyo.len
   have hb5 : ∀ {z : List Int}, HOk s z → ∀ x ∈ z, 0 ≤ x ∧ x ≤ 100 := fun h x hx => by have := h.r x hx; omega
   refine W.drawn (by kernel_rfl) _ (Le.refl _) ?_
   refine DD.run' [0, 1, 2] rfl ?_
   refine DD.run' [3, 4, 8] rfl ?_
   refine DD.vf 5 rfl rfl rfl rfl rfl (Vf.idx1 rfl rfl rfl rfl rfl rfl rfl (hil)) ?_
   refine DD.vf 6 rfl rfl rfl rfl rfl (Vf.load rfl rfl rfl (hxc)) ?_
   refine DD.act 7 rfl rfl rfl rfl rfl (Ef.call rfl (rSum_sp xa xc x L2 hxs (by omega) (hb5 hxo))) (by rintro _ _ _ ⟨_, rfl, rfl, rfl, rfl⟩; exact ⟨Le.refl _, rfl, .inl rfl⟩) ?_
   rintro _ _ _ ⟨_, rfl, rfl, rfl, rfl⟩
   refine DD.act 9 rfl rfl rfl rfl rfl (Ef.call rfl (rSum_sp ya yc y L2 hys (by omega) (hb5 hyo))) (by rintro _ _ _ ⟨_, rfl, rfl, rfl, rfl⟩; exact ⟨Le.refl _, rfl, .inl rfl⟩) ?_
   rintro _ _ _ ⟨_, rfl, rfl, rfl, rfl⟩
   refine DD.run' [10, 11, 12] rfl ?_
   refine DD.split 28 rfl (fun e4 => ?_) (fun e4 => ?_)
   ·have hlt : sumL x < sumL y := by simpa using e4
    refine DD.run' [13, 14, 15] rfl ?_
    refine DD.vf 16 rfl rfl rfl rfl rfl (Vf.idx1 rfl rfl rfl rfl rfl rfl rfl (hil)) ?_
    refine DD.vf 17 rfl rfl rfl rfl rfl (Vf.load rfl rfl rfl (hxc)) ?_
    refine DD.act 18 rfl rfl rfl rfl rfl (Ef.call rfl ((rCan_sp s p xa xc x L2 hask hok hxo))) ((by rintro _ _ _ ⟨_, rfl, rfl, rfl, hl⟩; exact ⟨hl, rfl, .inl rfl⟩)) ?_
    rintro _ _ _ ⟨_, rfl, rfl, rfl, hl3⟩
    refine DD.run' [19] rfl ?_
    refine .fin rfl ?_
    refine W.go 99 rfl ?_
    refine W.split rfl rfl rfl (fun e3 => W.go 99 rfl ?_) (fun e3 => W.go 99 rfl ?_)
    ·have hcan : canS s x = true := by simpa using e3
     have hnew : (l.take (i + 1)).foldl (fireStep s) none = some x := by rw [htk]; unfold fireStep takeLess; rw [if_pos hcan]; simp only; rw [if_pos hlt]
     refine W.vf rfl rfl rfl rfl (Vf.idx1 rfl rfl rfl rfl rfl rfl rfl (hil)) ?_
     refine W.vf rfl rfl rfl rfl (Vf.load rfl rfl rfl (hl3.cell hxc)) ?_
     refine W.go 99 rfl ?_
     exact W.again (again _ _ _ _ (by omega) ⟨i + 1, .slice xa x.length xc, some x, rfl, by omega, hl2.trans hl3, hnew, ⟨xa, xc, rfl, hxs.le hl3⟩, (fun z hz => by cases hz; exact hxo), rfl, rfl⟩) ⟨rfl, rfl, rfl, rfl, congrArg some (inc64 (by omega)), trivial⟩ ⟨rfl, trivial⟩
    ·have hcan : canS s x = false := by simpa using e3
     have hnew : (l.take (i + 1)).foldl (fireStep s) none = some y := by rw [htk]; unfold fireStep; rw [if_neg (by rw [hcan]; simp)]
     exact W.again (again _ _ _ _ (by omega) ⟨i + 1, .slice ya y.length yc, some y, rfl, by omega, hl2.trans hl3, hnew, ⟨ya, yc, rfl, hys.le hl3⟩, (fun z hz => by cases hz; exact hyo), rfl, rfl⟩) ⟨rfl, rfl, rfl, rfl, congrArg some (inc64 (by omega)), trivial⟩ ⟨rfl, trivial⟩
   ·have hlt : ¬ sumL x < sumL y := by simpa using e4
    have hnew : (l.take (i + 1)).foldl (fireStep s) none = some y := by
     rw [htk]; unfold fireStep takeLess
     split
     ·simp only; rw [if_neg hlt]
     ·rfl
    refine DD.run' [13, 14, 15, 16, 17, 18, 19] rfl ?_
    refine .fin rfl ?_
    refine W.go 99 rfl ?_
    exact W.again (again _ _ _ _ (by omega) ⟨i + 1, .slice ya y.length yc, some y, rfl, by omega, hl2, hnew, ⟨ya, yc, rfl, hys⟩, (fun z hz => by cases hz; exact hyo), rfl, rfl⟩) ⟨rfl, rfl, rfl, rfl, congrArg some (inc64 (by omega)), trivial⟩ ⟨rfl, trivial⟩
 ·have hie : i = l.length := by simp at e1; omega
  rw [hie, List.take_length] at ho
  rw [ho] at r
  refine W.ret r rfl rfl ?_
  exact ⟨_, rfl, hL1.trans hl2, hbest⟩
end Go.Mz


set_option maxRecDepth 100000
namespace Go.Mz
open Go.Conc Go.Proofs
theorem SPOk.dim {L L' : LH} {x : St × Pt} (h : SPOk L x) (hl : Dim L L') : SPOk L' x := ⟨hl.st h.st, h.s, h.c⟩
theorem HPOk.dim {L L' : LH} {x : HP} (h : HPOk L x) (hl : Dim L L') : HPOk L' x := ⟨hl.sl h.i, h.l, h.n⟩
theorem SevAt.dim {L L' : LH} {ba bb : Nat} {Ss : List (St × Pt)} {Hs : List HP} (h : SevAt L ba bb Ss Hs) (hl : Dim L L') : SevAt L' ba bb Ss Hs := ⟨hl.sl h.ss, hl.sl h.hs, fun x hx => (h.so x hx).dim hl, fun x hx => (h.ho x hx).dim hl⟩
variable {Post : Value → World → Prop} {W0 : World}
end Go.Mz


namespace Go.Mz
open Go.Conc
end Go.Mz


set_option maxRecDepth 100000
namespace Go.Mz
open Go.Conc Go.Proofs
variable {X : Logic Tryz.prog}
theorem rSpare_sp (s : St) (p : Pt) (ha : Option Addr) (hc : Nat) (hs : List Int) (d : Int) (L : LH) (h : AskAt L s p ha hs) :
  Sp X 59 [stA s p, .slice ha hs.length hc, .int .i64 d] L (fun v L' => v = .tuple #[.int .i64 (SpareE s hs d).1, .int .i64 (SpareE s hs d).2] ∧ Le L L') := by
 have hop : openE s hs [] [d] = if askE s hs ≠ 0 then askE s hs else if inB d 0 (s.days - 1) then 0 else 3 := by rw [open_ask]; simp
 unfold SpareE
 rw [hop]
 refine Sp.enter (n := 43) Tryz.func59 rfl rfl rfl rfl fun C hX _ hL0 r => ?_
 refine W.go 99 rfl ?_
 refine W.eff rfl rfl rfl (Ef.call rfl (asked_sp s p ha hc hs L h)) ?_
 rintro _ _ _ ⟨_, rfl, rfl, rfl, rfl⟩
 refine W.go 99 rfl ?_
 refine W.split rfl rfl rfl (fun e1 => W.go 99 rfl ?_) (fun e1 => W.go 99 rfl ?_)
 ·refine W.ret r rfl rfl ?_
  have h1 : askE s hs ≠ 0 := by simpa using e1
  rw [if_pos h1, if_pos h1]
  exact ⟨rfl, Le.refl _⟩
 have h1 : askE s hs = 0 := by simpa using e1
 obtain ⟨hok, hhk⟩ := ask_ok h1
 have d1 := hok.d1
 have d4 := hok.d4
 have t0 := hok.t0
 have t5 := hok.t5
 have hlen := hhk.len
 have h1n : ¬ askE s hs ≠ 0 := by rw [h1]; simp
 rw [if_neg h1n] at r
 rw [wrap64_in _ (by omega) (by omega)]
 refine W.eff rfl rfl rfl (Ef.call rfl (inside_sp _ _ _ _)) ?_
 rintro _ _ _ ⟨_, rfl, rfl, rfl, rfl⟩
 refine W.go 99 rfl ?_
 refine W.split rfl rfl rfl (fun e2 => W.go 99 rfl ?_) (fun e2 => W.go 99 rfl ?_)
 ·refine W.ret r rfl rfl ?_
  have h2 : inB d 0 (s.days - 1) = false := by simpa using e2
  rw [h2]
  exact ⟨rfl, Le.refl _⟩
 have h2 : inB d 0 (s.days - 1) = true := by simpa using e2
 rw [if_pos h2, if_neg (by simp)] at r
 obtain ⟨d, rfl⟩ := Int.eq_ofNat_of_zero_le (inB_iff.1 h2).1
 have hdn : d < hs.length := by have := (inB_iff.1 h2).2; omega
 rw [Int.toNat_natCast] at r
 refine W.loop (fun m E B L' => ∃ k : Nat, m = k ∧ (k : Int) ≤ s.top + 1 ∧ Le L L' ∧ (∀ j : Nat, k ≤ j → (j : Int) ≤ s.top → spareB s hs d j = false) ∧
   E = [(1, .v (.slice ha hs.length hc)), (2, .v (.int .i64 d)), (3, .p 0 0), (9, .v (.int .i64 ((k : Int) - 1)))] ∧ B = [some ⟨cellsS (.v (stA s p)), 25⟩])
  ⟨(s.top + 1).toNat, rfl, by omega, Le.refl _, fun j h1 h2 => absurd h1 (by omega), rfl, rfl⟩ (by exact ⟨rfl, rfl, rfl, congrArg (fun x => some (SV.v (.int .i64 x))) (show s.top = (((s.top + 1).toNat : Nat) : Int) - 1 by omega), trivial⟩) (by exact ⟨rfl, trivial⟩) ?_
 rintro k _ _ L1 ⟨_, rfl, hk, hl1, hall, rfl, rfl⟩ again
 refine W.go 99 rfl ?_
 refine W.split rfl rfl rfl (fun e3 => W.go 99 rfl ?_) (fun e3 => W.go 99 rfl ?_)
 ·obtain ⟨j, rfl⟩ : ∃ j, k = j + 1 := ⟨k - 1, by simp at e3; omega⟩
  rw [show ((j + 1 : Nat) : Int) - 1 = (j : Int) by omega]
  refine W.eff rfl rfl rfl (Ef.call rfl (rWith_sp ha hc d hs j L1 (h.he.le hl1) (by omega) hdn)) ?_
  rintro _ _ _ ⟨_, rfl, rfl, hg⟩
  rename_i L2 _
  obtain ⟨wa, wc, rfl, -⟩ := hg.slice
  have hw := (hg.at encI_len).2
  have hl2 := hl1.trans hg.1
  have hwl : (hs.set d (j : Int)).length = hs.length := List.length_set ..
  refine W.go 99 rfl ?_
  refine W.eff rfl rfl rfl (Ef.call rfl (rHeats_sp s p wa wc (hs.set d (j : Int)) L2 hw (by omega))) ?_
  rintro _ _ _ ⟨_, rfl, rfl, rfl, rfl⟩
  refine W.go 99 rfl ?_
  have hsp : spareB s hs d j = (heatsE s (hs.set d (j : Int)) == 0 && canS s (hs.set d (j : Int))) := rfl
  have hnext : spareB s hs d j = false → ∀ i : Nat, j ≤ i → (i : Int) ≤ s.top → spareB s hs d i = false := fun hf i h1 h2 => by
   by_cases e : i = j
   ·subst e; exact hf
   ·exact hall i (by omega) h2
  refine W.bool 37 rfl rfl (fun e4 => ?_) (fun e4 => ?_)
  ·have hh0 : heatsE s (hs.set d (j : Int)) = 0 := by simpa using e4
   refine W.go 99 rfl ?_
   refine W.eff rfl rfl rfl (Ef.call rfl (rCan_sp s p wa wc (hs.set d (j : Int)) L2 ⟨h.st.le hl2, hw, h.gl.le hl2, by omega⟩ hok (hok_of hh0))) ?_
   rintro _ _ _ ⟨_, rfl, rfl, rfl, hl3⟩
   refine W.go 99 rfl ?_
   refine W.split rfl rfl rfl (fun e5 => W.go 99 rfl ?_) (fun e5 => W.go 99 rfl ?_)
   ·have hcan : canS s (hs.set d (j : Int)) = true := by simpa using e5
    have hsome : spareS s hs d = some j := by
     unfold spareS
     exact find_down _ j (by omega) (by show spareB s hs d j = true; rw [hsp, hh0, hcan]; rfl) fun i h1 h2 => hall i (by omega) (by omega)
    refine W.ret r rfl rfl ?_
    rw [hsome]
    exact ⟨rfl, hl2.trans hl3⟩
   ·have hcan : canS s (hs.set d (j : Int)) = false := by simpa using e5
    exact W.again (again _ _ _ _ (by omega) ⟨j, rfl, by omega, hl2.trans hl3, hnext (by rw [hsp, hcan]; simp), rfl, rfl⟩) ⟨rfl, rfl, rfl, congrArg some (w64 rfl (by omega) (by omega)), trivial⟩ ⟨rfl, trivial⟩
  ·refine W.go 99 rfl ?_
   exact W.again (again _ _ _ _ (by omega) ⟨j, rfl, by omega, hl2, hnext (by rw [hsp, e4]; rfl), rfl, rfl⟩) ⟨rfl, rfl, rfl, congrArg some (w64 rfl (by omega) (by omega)), trivial⟩ ⟨rfl, trivial⟩
 ·have hk0 : k = 0 := by simp at e3; omega
  subst hk0
  refine W.ret r rfl rfl ?_
  have hnone : spareS s hs d = none := by
   unfold spareS
   exact find_none _ fun i h1 => hall i (by omega) (by omega)
  rw [hnone]
  exact ⟨rfl, hl1⟩
end Go.Mz


set_option maxRecDepth 100000
namespace Go.Mz
open Go.Conc Go.Proofs
variable {X : Logic Tryz.prog}
def zS : St := ⟨[], [], 0, 0, 0, 0⟩
def AddE (s : St) (c : Cone) : St × Int :=
 if checkE s ≠ 0 then (zS, checkE s) else if s.cones.length = 3 then (zS, 6) else if coneE c ≠ 0 then (zS, coneE c) else
 if (fireS s).isSome && !(fireS (moreS s c)).isSome then (zS, 9) else (moreS s c, 0)
theorem zS_at (L : LH) : StAt L zS ⟨none, none, 0, 0⟩ := ⟨SlAt.empty, SlAt.empty, by simp [zS], by simp [zS]⟩
theorem more_ok {s : St} {c : Cone} (h : Ok s) (h3 : s.cones.length ≠ 3) (hc : coneE c = 0) : Ok (moreS s c) :=
  { h with
    c3 := by have := h.c3; show (s.cones ++ [c]).length ≤ 3; simp; omega
    co := fun x hx => by
      rcases List.mem_append.1 (show x ∈ s.cones ++ [c] from hx) with hx | hx
      · exact h.co x hx
      · rw [List.mem_singleton.1 hx]; exact coneE_0.1 hc }
theorem rMore_sp (s : St) (p : Pt) (c : Cone) (L : LH) (h : StAt L s p) (h1 : s.shelves.length ≤ 1000000) (h2 : s.cones.length ≤ 1000000) :
  Sp X 62 [stA s p, .agg (encCo c).toArray] L (fun v L' => ∃ p', v = stA (moreS s c) p' ∧ Le L L' ∧ StAt L' (moreS s c) p') := by
 refine Sp.enter (n := 19) Tryz.func62 rfl rfl rfl rfl fun C hX _ hL0 r => ?_
 refine W.go 99 rfl ?_
 refine W.drawn (by kernel_rfl) _ (Le.refl _) ?_
 refine DD.run' [0, 1, 2, 4, 5] rfl ?_
 refine DD.act 3 rfl rfl rfl rfl rfl (Ef.pub 5 (.inr ⟨_, _, _, rfl⟩) rfl rfl (fun b3 hb3 _ => Ef.grow rfl rfl rfl rfl rfl rfl rfl rfl rfl encCo_len encCo_sg (Grow.new (Le.put hb3 _) (put_same _ _ _) hb3) (ls := s.cones) (.sl (h.co.le (Le.put hb3 _)) encCo_len rfl) (by simp; omega))) ((by rintro _ _ _ ⟨b3, hb3, _, _, rfl, rfl, hg, _⟩; exact ⟨hg.1, rfl, .inl rfl⟩)) ?_
 rintro _ _ _ ⟨b3, hb3, _, v1, rfl, rfl, hg1, -⟩
 rw [List.nil_append] at hg1
 refine DD.act 6 rfl rfl rfl rfl rfl (Ef.grow rfl rfl rfl rfl rfl rfl rfl rfl rfl encCo_len encCo_sg hg1 (ls := [c]) (.own rfl rfl rfl rfl) (by simp; omega)) ((by rintro _ _ _ ⟨_, rfl, rfl, hg, _⟩; exact ⟨hg.1, rfl, .inl rfl⟩)) ?_
 rintro _ _ _ ⟨v2, rfl, rfl, hg2, -⟩
 rename_i L2
 have hg2 : Grow L 4 27 encCo L2 v2 (s.cones ++ [c]) := hg2
 obtain ⟨ca, cc, rfl, -⟩ := hg2.slice
 refine DD.run' [7] rfl ?_
 refine DD.act 8 rfl rfl rfl rfl rfl (Ef.sto rfl) (by rintro _ _ _ ⟨rfl, rfl, rfl⟩; exact ⟨hg2.1, rfl, .inr rfl⟩) ?_
 rintro _ _ _ ⟨rfl, rfl, rfl⟩
 refine .fin rfl ?_
 refine W.go 99 rfl ?_
 refine W.pub 13 (.inr ⟨_, _, _, rfl⟩) rfl rfl ?_
 intro b4 hb4 _
 refine W.eff rfl rfl rfl (Ef.grow rfl rfl rfl rfl rfl rfl rfl rfl rfl encSh_len encSh_sg (Grow.new (Le.put hb4 _) (put_same _ _ _) hb4) (ls := s.shelves) (.sl ((h.sh.le hg2.1).le (Le.put hb4 _)) encSh_len rfl) (by simp; omega)) ?_
 rintro _ _ _ ⟨v', rfl, rfl, hg3, -⟩
 rw [List.nil_append] at hg3
 obtain ⟨sa, sc, rfl, -⟩ := hg3.slice
 refine W.go 99 rfl ?_
 refine W.ret r rfl rfl ?_
 exact ⟨⟨sa, ca, sc, cc⟩, rfl, hg2.1.trans hg3.1, (hg3.at encSh_len).2, (hg2.at encCo_len).2.le hg3.1, by show s.shelves.length ≤ _; omega, by show (s.cones ++ [c]).length ≤ _; simp; omega⟩
theorem rAdd_sp (s : St) (p : Pt) (c : Cone) (L : LH) (h : StAt L s p) (hgl : GlOk L) :
  Sp X 61 [stA s p, .agg (encCo c).toArray] L (fun v L' => ∃ p', v = .tuple #[stA (AddE s c).1 p', .int .i64 (AddE s c).2] ∧ Le L L' ∧ StAt L' (AddE s c).1 p') := by
 unfold AddE
 refine Sp.enter (n := 50) Tryz.func61 rfl rfl rfl rfl fun C hX _ hL0 r => ?_
 refine W.go 99 rfl ?_
 refine W.eff rfl rfl rfl (Ef.call rfl (rCheck_sp s p L h)) ?_
 rintro _ _ _ ⟨_, rfl, rfl, rfl, rfl⟩
 refine W.go 99 rfl ?_
 refine W.split rfl rfl rfl (fun e1 => W.go 99 rfl ?_) (fun e1 => W.go 99 rfl ?_)
 ·refine W.ret r rfl rfl ?_
  have h0 : checkE s ≠ 0 := by simpa using e1
  rw [if_pos h0]
  exact ⟨⟨none, none, 0, 0⟩, rfl, Le.refl _, zS_at _⟩
 have h0 : checkE s = 0 := by simpa using e1
 have hok := ok_iff.1 h0
 have hc3 := hok.c3
 have hs3 := hok.s3
 rw [if_neg (by rw [h0]; simp)] at r
 refine W.split rfl rfl rfl (fun e2 => W.go 99 rfl ?_) (fun e2 => W.go 99 rfl ?_)
 ·refine W.ret r rfl rfl ?_
  have h3 : s.cones.length = 3 := by simp at e2; omega
  rw [if_pos h3]
  exact ⟨⟨none, none, 0, 0⟩, rfl, Le.refl _, zS_at _⟩
 have h3 : s.cones.length ≠ 3 := by simp at e2; omega
 rw [if_neg h3] at r
 refine W.eff rfl rfl rfl (Ef.call rfl (rCone_sp c L)) ?_
 rintro _ _ _ ⟨_, rfl, rfl, rfl, rfl⟩
 refine W.go 99 rfl ?_
 refine W.split rfl rfl rfl (fun e3 => W.go 99 rfl ?_) (fun e3 => W.go 99 rfl ?_)
 ·refine W.ret r rfl rfl ?_
  have h4 : coneE c ≠ 0 := by simpa using e3
  rw [if_pos h4]
  exact ⟨⟨none, none, 0, 0⟩, rfl, Le.refl _, zS_at _⟩
 have h4 : coneE c = 0 := by simpa using e3
 rw [if_neg (by rw [h4]; simp)] at r
 have hokm := more_ok hok h3 h4
 refine W.eff rfl rfl rfl (Ef.call rfl (rMore_sp s p c L h (by omega) (by omega))) ?_
 rintro _ _ _ ⟨_, rfl, rfl, p1, rfl, hl1, hst1⟩
 refine W.go 99 rfl ?_
 rename_i L1
 refine W.eff rfl rfl rfl (Ef.call rfl (rFire0_sp s p L1 hok (h.le hl1) (hgl.le hl1))) ?_
 rintro _ _ _ ⟨_, rfl, rfl, u1, rfl, hl2, _⟩
 refine W.go 99 rfl ?_
 rename_i L2 _
 have hl12 := hl1.trans hl2
 refine W.eff rfl rfl rfl (Ef.call rfl (rFire0_sp (moreS s c) p1 L2 hokm (hst1.le hl2) (hgl.le hl12))) ?_
 rintro _ _ _ ⟨_, rfl, rfl, u2, rfl, hl3, _⟩
 refine W.go 99 rfl ?_
 rename_i L3 _
 have hl13 := hl12.trans hl3
 refine W.bool 44 rfl rfl (fun e4 => ?_) (fun e4 => ?_)
 ·refine W.go 99 rfl ?_
  refine W.split rfl rfl rfl (fun e5 => W.go 99 rfl ?_) (fun e5 => W.go 99 rfl ?_)
  ·refine W.ret r rfl rfl ?_
   rw [e4, if_pos (by simpa using e5)]
   exact ⟨⟨none, none, 0, 0⟩, rfl, hl13, zS_at _⟩
  ·refine W.ret r rfl rfl ?_
   have e6 : (fireS (moreS s c)).isSome = true := by simpa using e5
   rw [e4, e6, if_neg (by decide)]
   exact ⟨p1, rfl, hl13, hst1.le (hl2.trans hl3)⟩
 ·refine W.go 99 rfl ?_
  refine W.ret r rfl rfl ?_
  rw [e4, if_neg (by simp)]
  exact ⟨p1, rfl, hl13, hst1.le (hl2.trans hl3)⟩
end Go.Mz


set_option maxRecDepth 100000
namespace Go.Mz
open Go.Conc Go.Proofs
variable {Post : Value → World → Prop} {W0 : World}
theorem fireB_sp (s : St) (p : Pt) (L : LH) (hst : StAt L s p) (hok : Ok s) (hgl : GlOk L) : Sp (LFGo Tryz.prog Post W0) 93 [stA s p] L (fun v L' => ∃ u n, v = .tuple #[u, .int .i64 n, .bool (fireS s).isSome] ∧ Dim L L') := by
 refine (fire_sp s p L hst hok hgl).mono ?_ (fun _ _ h => h)
 rintro v L' ⟨h1, h2⟩
 cases hf : fireS s with
 | none => rw [hf] at h1; exact ⟨_, _, h1, h2⟩
 | some l => rw [hf] at h1; obtain ⟨ad, cap, h1, _⟩ := h1; exact ⟨_, _, h1, h2⟩
theorem Add_sp (s : St) (p : Pt) (c : Cone) (L : LH) (h : StAt L s p) (hcap : s.cones.length ≤ p.c2) (hgl : GlOk L) :
  Sp (LFGo Tryz.prog Post W0) 60 [stA s p, .agg (encCo c).toArray] L (fun v L' => ∃ p', v = .tuple #[stA (AddE s c).1 p', .int .i64 (AddE s c).2] ∧ Dim L L' ∧ StAt L' (AddE s c).1 p') := by
 unfold AddE
 refine Sp.enter (n := 69) Tryz.func60 rfl rfl rfl rfl fun C hX _ hL0 r => ?_
 refine W.go 99 rfl ?_
 refine W.eff rfl rfl rfl (Ef.call rfl (Check_sp s p L h)) ?_
 rintro _ _ _ ⟨_, rfl, rfl, rfl, rfl⟩
 refine W.go 99 rfl ?_
 refine W.split rfl rfl rfl (fun e1 => W.go 99 rfl ?_) (fun e1 => W.go 99 rfl ?_)
 ·refine W.ret r rfl rfl ?_
  have h0 : checkE s ≠ 0 := by simpa using e1
  rw [if_pos h0]
  exact ⟨⟨none, none, 0, 0⟩, rfl, Dim.refl _, zS_at _⟩
 have h0 : checkE s = 0 := by simpa using e1
 have hok := ok_iff.1 h0
 have hc3 := hok.c3
 have hs3 := hok.s3
 rw [if_neg (by rw [h0]; simp)] at r
 refine W.split rfl rfl rfl (fun e2 => W.go 99 rfl ?_) (fun e2 => W.go 99 rfl ?_)
 ·refine W.ret r rfl rfl ?_
  have h3 : s.cones.length = 3 := by simp at e2; omega
  rw [if_pos h3]
  exact ⟨⟨none, none, 0, 0⟩, rfl, Dim.refl _, zS_at _⟩
 have h3 : s.cones.length ≠ 3 := by simp at e2; omega
 rw [if_neg h3] at r
 refine W.eff rfl rfl rfl (Ef.call rfl (checkCone_sp c L)) ?_
 rintro _ _ _ ⟨_, rfl, rfl, rfl, rfl⟩
 refine W.go 99 rfl ?_
 refine W.split rfl rfl rfl (fun e3 => W.go 99 rfl ?_) (fun e3 => W.go 99 rfl ?_)
 ·refine W.ret r rfl rfl ?_
  have h4 : coneE c ≠ 0 := by simpa using e3
  rw [if_pos h4]
  exact ⟨⟨none, none, 0, 0⟩, rfl, Dim.refl _, zS_at _⟩
 have h4 : coneE c = 0 := by simpa using e3
 rw [if_neg (by rw [h4]; simp)] at r
 have hokm := more_ok hok h3 h4
 refine W.drawn (by kernel_rfl) _ (Le.refl _) ?_
 refine DD.run' [0, 1, 2, 3, 4, 5, 6, 7, 9, 10] rfl ?_
 refine DD.vf 8 rfl rfl rfl rfl rfl (Vf.slice3 rfl rfl rfl Tryz.underlying23 size27 (Nat.le_refl _) hcap) ?_
 refine DD.act 11 rfl rfl rfl rfl rfl (Ef.appF (enc := encCo) (l := s.cones) (ls := [c]) rfl rfl rfl rfl rfl rfl rfl rfl rfl encCo_len h.co (.own rfl rfl rfl rfl) (by simp) (by simp; omega)) ((by rintro _ _ _ ⟨_, _, _, _, rfl, hb, rfl, _⟩; exact ⟨Le.put hb _, rfl, .inl rfl⟩)) ?_
 rintro _ _ _ ⟨bn, cn, capn, rfl, rfl, hbn, rfl, hown⟩
 refine DD.run' [12] rfl ?_
 have hl1 : Le L (L.put bn (.cells cn 27)) := Le.put hbn _
 refine DD.act 13 rfl rfl rfl rfl rfl (Ef.sto rfl) (by rintro _ _ _ ⟨rfl, rfl, rfl⟩; exact ⟨hl1, rfl, .inr rfl⟩) ?_
 rintro _ _ _ ⟨rfl, rfl, rfl⟩
 refine .fin rfl ?_
 refine W.go 99 rfl ?_
 generalize L.put bn (.cells cn 27) = L1 at hl1 hown
 have hco1 : SlAt L1 (some ⟨bn, 0, none⟩) 4 encCo (s.cones ++ [c]) := hown.at encCo_len
 have hlm : (s.cones ++ [c]).length ≤ 140737488355328 := by simp; omega
 have hst1 : StAt L1 (moreS s c) ⟨p.sa, some ⟨bn, 0, none⟩, p.c1, capn⟩ := ⟨h.sh.le hl1, hco1, h.l1, hlm⟩
 have hf1 := fireB_sp (Post := Post) (W0 := W0) s p L1 (h.le hl1) hok (hgl.le hl1)
 rw [← hX] at hf1
 refine W.eff rfl rfl rfl (Ef.call rfl (hf1)) ?_
 rintro _ _ _ ⟨_, rfl, rfl, u1, n1, rfl, hd1⟩
 refine W.go 99 rfl ?_
 rename_i L2
 have hf2 := fireB_sp (Post := Post) (W0 := W0) (moreS s c) ⟨p.sa, some ⟨bn, 0, none⟩, p.c1, capn⟩ L2 (hd1.st hst1) hokm (hd1.cell (hgl.le hl1))
 rw [← hX] at hf2
 refine W.eff rfl rfl rfl (Ef.call rfl (hf2)) ?_
 rintro _ _ _ ⟨_, rfl, rfl, u2, n2, rfl, hd2⟩
 refine W.go 99 rfl ?_
 rename_i L3
 have hd3 := (Dim.of_le hl1).trans (hd1.trans hd2)
 have hst3 := hd2.st (hd1.st hst1)
 have hsh3 : SlAt L3 p.sa 2 encSh s.shelves := hd3.sl h.sh
 refine W.bool 59 rfl rfl (fun e4 => ?_) (fun e4 => ?_)
 ·refine W.go 99 rfl ?_
  refine W.split rfl rfl rfl (fun e5 => W.go 99 rfl ?_) (fun e5 => W.go 99 rfl ?_)
  ·refine W.ret r rfl rfl ?_
   rw [e4, if_pos (by simpa using e5)]
   exact ⟨⟨none, none, 0, 0⟩, rfl, hd3, zS_at _⟩
  ·have e6 : (fireS (moreS s c)).isSome = true := by simpa using e5
   refine W.eff rfl rfl rfl (Ef.call rfl (CloneSh_sp p.sa p.c1 s.shelves L3 hsh3 (by omega))) ?_
   rintro _ _ _ ⟨_, rfl, rfl, sa, sc, rfl, hl4, hsh4, _⟩
   refine W.go 99 rfl ?_
   refine W.ret r rfl rfl ?_
   rw [e4, e6, if_neg (by decide)]
   exact ⟨⟨sa, some ⟨bn, 0, none⟩, sc, capn⟩, rfl, hd3.trans (Dim.of_le hl4), hsh4, hst3.co.le hl4, h.l1, hlm⟩
 ·refine W.go 99 rfl ?_
  refine W.eff rfl rfl rfl (Ef.call rfl (CloneSh_sp p.sa p.c1 s.shelves L3 hsh3 (by omega))) ?_
  rintro _ _ _ ⟨_, rfl, rfl, sa, sc, rfl, hl4, hsh4, _⟩
  refine W.go 99 rfl ?_
  refine W.ret r rfl rfl ?_
  rw [e4, if_neg (by simp)]
  exact ⟨⟨sa, some ⟨bn, 0, none⟩, sc, capn⟩, rfl, hd3.trans (Dim.of_le hl4), hsh4, hst3.co.le hl4, h.l1, hlm⟩
end Go.Mz


set_option maxRecDepth 100000
namespace Go.Mz
open Go.Conc Go.Proofs
theorem Grow.cap {α : Type} {I L : LH} {k : Nat} {e : TypeId} {enc : α → List Value} {l : List α} {ad : Option Addr} {len cap : Nat} (h : Grow I k e enc L (.slice ad len cap) l) : l.length ≤ cap := by
 obtain ⟨ad', cap', e1, h2⟩ := h.slice
 cases e1
 exact h2
theorem put4 {L : LH} {a b c d : Nat} {X1 X2 X3 X4 : Obj} (h1 : L a = none) (h2 : (L.put a X1) b = none) (h3 : ((L.put a X1).put b X2) c = none) (h4 : (((L.put a X1).put b X2).put c X3) d = none) :
  ∃ L8, (((L.put a X1).put b X2).put c X3).put d X4 = L8 ∧ Le L L8 ∧ L8 a = some (X1, true) ∧ L8 b = some (X2, true) ∧ L8 c = some (X3, true) ∧ L8 d = some (X4, true) := by
 have q1 := Le.put h1 X1
 have q2 := Le.put h2 X2
 have q3 := Le.put h3 X3
 have q4 := Le.put h4 X4
 exact ⟨_, rfl, q1.trans (q2.trans (q3.trans q4)), q4 _ _ (q3 _ _ (q2 _ _ (put_same _ _ _))), q4 _ _ (q3 _ _ (put_same _ _ _)), q4 _ _ (put_same _ _ _), put_same _ _ _⟩
variable {Post : Value → World → Prop} {W0 : World}
theorem SsP_run (s : St) (p : Pt) (c : Cone) (ha : Option Addr) (hc : Nat) (hs : List Int) (i : Int) (na : Option Addr) (nc : Nat) (nums : List Int) (L : LH) (hst : StAt L s p) (hh : IntsAt L ha hs) (hn : IntsAt L na nums) (hgl : GlOk L) (hl2 : nums.length ≤ 140737488355328)
    (hQ : ∀ v L' w, (v = .bool true ∧ Dim L L') → Sub L' w → Same W0 w → Post v w) :
    FGo Tryz.prog Post W0 (G (Frame.enter Tryz.prog 13 [stA s p, .agg (encCo c).toArray, .slice ha hs.length hc, .int .i64 i, .slice na nums.length nc].toArray .normal) []) L := by
  refine root_enter (n := 174) (s := 10) Tryz.func13 rfl rfl (by kernel_rfl) rfl rfl hQ fun C hX _ hL0 r => ?_
  refine W.go 99 rfl ?_
  refine W.eff rfl rfl rfl (Ef.call rfl (vast_sp s p L)) ?_
  rintro _ _ _ ⟨_, rfl, rfl, rfl, rfl⟩
  refine W.go 99 rfl ?_
  have drd : ∀ L2, GlOk L2 → Sp C.X 21 [] L2 (fun v L' => v = .bool true ∧ Dim L2 L') := fun L2 h => by rw [hX]; exact dried_sp L2 h
  refine W.split rfl rfl rfl (fun e1 => W.go 99 rfl ?_) (fun e1 => W.go 99 rfl ?_)
  · refine W.eff rfl rfl rfl (Ef.call rfl (drd L hgl)) ?_
    rintro _ _ _ ⟨_, rfl, rfl, rfl, hdm⟩
    refine W.go 99 rfl ?_
    refine W.retO r rfl ⟨rfl, hdm⟩
  refine W.split rfl rfl rfl (fun e2 => W.go 99 rfl ?_) (fun e2 => W.go 99 rfl ?_)
  · refine W.eff rfl rfl rfl (Ef.call rfl (drd L hgl)) ?_
    rintro _ _ _ ⟨_, rfl, rfl, rfl, hdm⟩
    refine W.go 99 rfl ?_
    refine W.retO r rfl ⟨rfl, hdm⟩
  have h20 : hs.length ≤ 20 := by simp at e2; omega
  obtain ⟨v1, v2⟩ := vast_no e1
  apply W.cut (fun E B L' => L = L' ∧ SubE E [(2, .v (.slice ha hs.length hc)), (3, .v (.int .i64 i)), (5, .p 0 0), (6, .p 1 0), (48, .v (.slice na nums.length nc))] ∧ PreB B [some ⟨cellsS (.v (stA s p)), 25⟩, some ⟨cellsS (.v (.agg (encCo c).toArray)), 27⟩])
  rotate_left
  · intro rest
    refine W.split rfl rfl rfl (fun e3 => W.go 99 rfl ?_) (fun e3 => W.go 99 rfl ?_)
    · refine W.split rfl rfl rfl (fun e4 => W.go 99 rfl ?_) (fun e4 => W.go 99 rfl ?_)
      · refine W.eff rfl rfl rfl (Ef.call rfl (drd L hgl)) ?_
        rintro _ _ _ ⟨_, rfl, rfl, rfl, hdm⟩
        refine W.go 99 rfl ?_
        refine W.retO r rfl ⟨rfl, hdm⟩
      · exact rest _ _ _ ⟨rfl, by exact ⟨rfl, rfl, rfl, rfl, rfl, trivial⟩, by exact ⟨rfl, rfl, trivial⟩⟩
    · exact rest _ _ _ ⟨rfl, by exact ⟨rfl, rfl, rfl, rfl, rfl, trivial⟩, by exact ⟨rfl, rfl, trivial⟩⟩
  rintro E B _ ⟨rfl, hE, hB⟩
  refine W.weak hE hB ?_
  refine W.eff rfl rfl rfl (Ef.call rfl (NewHat_sp na nc nums L hn)) ?_
  rintro _ _ _ ⟨_, rfl, rfl, b, rfl, hb, hle1, hh1⟩
  refine W.go 99 rfl ?_
  rename_i L1
  have hb1 := le_but hb hle1
  refine W.eff rfl rfl rfl (Ef.call rfl (StoveOf_sp b na nc nums 0 2 3 L1 hh1 (by omega) hl2 (by omega) (by omega) (by omega))) ?_
  rintro _ _ _ ⟨_, rfl, rfl, own, p1, m, rfl, ho, hm, hle2, hh2, hst2⟩
  refine W.go 99 rfl ?_
  rename_i L2
  have hok := ho.ok
  have o2 := hok.c3
  have o3 := hok.s3
  have o4 := hok.d4
  refine W.eff rfl rfl rfl (Ef.call rfl (HeatsOf_sp own p1 b na nc nums m L2 hh2 (by omega) hl2 hok)) ?_
  rintro _ _ _ ⟨_, rfl, rfl, t, I3, m2, ht, hm2, hg3⟩
  rename_i L3 _
  have htl := (hok_of ht).len
  obtain ⟨ta, tc, rfl, _⟩ := hg3.g.slice
  obtain ⟨sd3, hb3⟩ := hg3.hat.blk
  have ht3 := (hg3.g.sl_but encI_len hb3 (by decide)).2
  have hst3 : StAt (L3.but b) own p1 := hst2.le (but_but hg3.le)
  have hh3 := hg3.hat
  have hL3 : Le L (L3.but b) := hb1.trans (but_but (but_trans hle2 hg3.le))
  refine W.go 99 rfl ?_
  refine W.drawn (by kernel_rfl) (L3.but b) (but_le _ _) ?_
  refine DD.run' [0, 1, 3, 5, 6, 8] rfl ?_
  refine DD.act 2 rfl rfl rfl rfl rfl (Ef.call rfl ((ConeOf_sp b na nc nums m2 L3 hh3 (by omega) hl2))) ((by rintro _ _ _ ⟨_, rfl, rfl, ⟨y, rfl, _⟩, hk, _⟩; exact ⟨hk, rfl, .inl rfl⟩)) ?_
  rintro _ _ _ ⟨_, rfl, rfl, ⟨c2, rfl, hcn⟩, f4, g4⟩
  rename_i L4
  refine DD.run' [4] rfl ?_
  refine DD.act 7 rfl rfl rfl rfl rfl (Ef.call rfl ((To_sp b na nc nums (m2 + 4) 2 L4 g4 (by omega) hl2 (by omega)))) ((by rintro _ _ _ ⟨_, rfl, rfl, ⟨y, rfl, _⟩, hk, _⟩; exact ⟨but_trans f4 (but_same hk), rfl, .inl rfl⟩)) ?_
  rintro _ _ _ ⟨_, rfl, rfl, ⟨y2, rfl, hy2⟩, hk5, hs5⟩
  rename_i L5
  have f5 : Le (L3.but b) L5 := but_trans f4 (but_same hk5)
  refine DD.run' [9, 10, 11] rfl ?_
  refine .fin rfl ?_
  refine W.go 99 rfl ?_
  refine W.pub 14 (.inr ⟨_, _, _, rfl⟩) rfl rfl ?_
  intro ba hba _
  refine W.pub 15 (.inr ⟨_, _, _, rfl⟩) rfl rfl ?_
  intro bb hbb _
  refine W.pub 16 (.inr ⟨_, _, _, rfl⟩) rfl rfl ?_
  intro bc hbc _
  refine W.pub 17 (.inr ⟨_, _, _, rfl⟩) rfl rfl ?_
  intro bd hbd _
  obtain ⟨L8, e8, q8, k1, k2, k3, k4⟩ := put4 (X1 := .cells ([(s, p), (own, p1), (own, p1)].flatMap encSP).toArray 25) (X2 := .cells ([((ha, hs.length, hc), hs), ((ta, t.length, tc), t), ((ha, hs.length, hc), hs)].flatMap encHP).toArray 28) (X3 := .cells ([c, c2, c].flatMap encCo).toArray 27) (X4 := .cells ([i, (y2 : Int), i].flatMap encI).toArray 3) hba hbb hbc hbd
  refine Eq.mp (congrArg (W C _ _ _ _ _) e8.symm) ?_
  have f8 := f5.trans q8
  have hL8 : Le L L8 := hL3.trans f8
  have hgl8 := hgl.le hL8
  have hsev : SevAt L8 ba bb [(s, p), (own, p1), (own, p1)] [((ha, hs.length, hc), hs), ((ta, t.length, tc), t), ((ha, hs.length, hc), hs)] := by
    refine ⟨sl_block encSP_len k1, sl_block encHP_len k2, fun x hx => ?_, fun x hx => ?_⟩
    · simp only [List.mem_cons, List.not_mem_nil, or_false] at hx
      rcases hx with rfl | rfl | rfl
      · exact ⟨hst.le hL8, v1, v2⟩
      · exact ⟨hst3.le f8, by show own.shelves.length ≤ 20; omega, by show own.cones.length ≤ 20; omega⟩
      · exact ⟨hst3.le f8, by show own.shelves.length ≤ 20; omega, by show own.cones.length ≤ 20; omega⟩
    · simp only [List.mem_cons, List.not_mem_nil, or_false] at hx
      rcases hx with rfl | rfl | rfl
      · exact ⟨hh.le hL8, rfl, h20⟩
      · exact ⟨ht3.le f8, rfl, by show t.length ≤ 20; omega⟩
      · exact ⟨hh.le hL8, rfl, h20⟩
  have hcs := sl_block (L := L8) encCo_len k3
  have his := sl_block (L := L8) encI_len k4
  generalize hSs : [(s, p), (own, p1), (own, p1)] = Ss at hsev
  generalize hHs : [((ha, hs.length, hc), hs), ((ta, t.length, tc), t), ((ha, hs.length, hc), hs)] = Hs at hsev
  generalize hCs : [c, c2, c] = Cs at hcs
  generalize hIs : [i, (y2 : Int), i] = Is at his
  have nS : Ss.length = 3 := by rw [← hSs]; rfl
  have nH : Hs.length = 3 := by rw [← hHs]; rfl
  have nC : Cs.length = 3 := by rw [← hCs]; rfl
  have nI : Is.length = 3 := by rw [← hIs]; rfl
  refine W.loop (fun w E B L' => ∃ k : Nat, w = 3 - k ∧ k ≤ 3 ∧ Dim L8 L' ∧ E = [(14, .v (.slice (some ⟨ba, 0, none⟩) 3 3)), (15, .v (.slice (some ⟨bb, 0, none⟩) 3 3)), (16, .v (.slice (some ⟨bc, 0, none⟩) 3 3)), (17, .v (.slice (some ⟨bd, 0, none⟩) 3 3)), (18, .v (.int .i64 k))] ∧ B = [])
    ⟨0, rfl, by omega, Dim.refl _, rfl, rfl⟩ (by exact ⟨rfl, rfl, rfl, rfl, rfl, trivial⟩) (by exact trivial) ?_
  rintro _ _ _ L9 ⟨k, rfl, hk, hd9, rfl, rfl⟩ again
  refine W.go 99 rfl ?_
  refine W.split rfl rfl rfl (fun e3 => W.go 99 rfl ?_) (fun e3 => W.go 99 rfl ?_)
  · have hk3' : k < 3 := by have : (k : Int) < 3 := by simpa using e3
                            omega
    obtain ⟨⟨sk, pk⟩, hx⟩ : ∃ x, Ss[k]? = some x := ⟨_, List.getElem?_eq_getElem (by omega)⟩
    obtain ⟨⟨⟨hk1, hk2, hk3⟩, hks⟩, hy⟩ : ∃ x, Hs[k]? = some x := ⟨_, List.getElem?_eq_getElem (by omega)⟩
    obtain ⟨ck, hz⟩ : ∃ x, Cs[k]? = some x := ⟨_, List.getElem?_eq_getElem (by omega)⟩
    obtain ⟨ik, hu⟩ : ∃ x, Is[k]? = some x := ⟨_, List.getElem?_eq_getElem (by omega)⟩
    have hsv := hsev.dim hd9
    obtain ⟨hsk, sk1, sk2⟩ := hsv.so _ (List.mem_of_getElem? hx)
    obtain ⟨hhk, hkl, hk20⟩ := hsv.ho _ (List.mem_of_getElem? hy)
    dsimp only at hsk sk1 sk2 hhk hkl hk20
    subst hkl
    have hcl : L9.cell? ((Addr.mk bb 0 none).add (k * 1)) = some (.slice hk1 hks.length hk3) := by
      have := hsv.hs.get hy (j := 0) (v := slV (hk1, hks.length, hk3)) rfl
      simpa using this
    refine W.drawn (by kernel_rfl) _ (Le.refl _) ?_
    refine DD.run' [0, 1, 5, 6, 10] rfl ?_
    refine DD.vf 2 rfl rfl rfl rfl rfl (Vf.idx rfl rfl rfl rfl rfl rfl (hk3')) ?_
    refine DD.vf 3 rfl rfl rfl rfl rfl (Vf.loadN rfl rfl rfl (hsv.ss.whole hx rfl)) ?_
    refine DD.vf 7 rfl rfl rfl rfl rfl (Vf.idx rfl rfl rfl rfl rfl rfl (hk3')) ?_
    refine DD.vf 8 rfl rfl rfl rfl rfl (Vf.load rfl rfl rfl (hcl)) ?_
    refine DD.act 4 rfl rfl rfl rfl rfl (Ef.call rfl ((DupStove_sp sk pk L9 hsk (by omega) (by omega)))) ((by rintro _ _ _ ⟨_, rfl, rfl, _, _, _, _, _, rfl, g1, g2⟩; exact ⟨g1.1.trans g2.1, rfl, .inl rfl⟩)) ?_
    rintro _ _ _ ⟨_, rfl, rfl, xa, ya, z1, z2, I1, rfl, hg1, hg2⟩
    rename_i L10
    have hl10 := hg1.1.trans hg2.1
    have hst10 : StAt L10 sk ⟨xa, ya, z1, z2⟩ := ⟨(hg1.at encSh_len).2.le hg2.1, (hg2.at encCo_len).2, by omega, by omega⟩
    have hcap := hg2.cap
    refine DD.act 9 rfl rfl rfl rfl rfl (Ef.call rfl ((DupInts_sp hk1 hk3 hks L10 (hhk.le hl10) (by omega)))) ((by rintro _ _ _ ⟨_, rfl, rfl, g3⟩; exact ⟨hl10.trans g3.1, rfl, .inl rfl⟩)) ?_
    rintro _ _ _ ⟨vx, rfl, rfl, hg3⟩
    obtain ⟨wa, wc, rfl, _⟩ := hg3.slice
    have hi11 := (hg3.at encI_len).2
    have hl11 := hl10.trans hg3.1
    refine DD.act 11 rfl rfl rfl rfl rfl (Ef.sto rfl) (by rintro _ _ _ ⟨rfl, rfl, rfl⟩; exact ⟨hl11, rfl, .inr rfl⟩) ?_
    rintro _ _ L11 ⟨rfl, rfl, rfl⟩
    refine DD.run' [12] rfl ?_
    refine .fin rfl ?_
    refine W.go 99 rfl ?_
    have hst11 := hst10.le hg3.1
    have h911 := Dim.of_le hl11
    have h811 := hd9.trans h911
    have hask : ∀ {L'}, Dim L11 L' → AskAt L' sk ⟨xa, ya, z1, z2⟩ wa hks := fun hl => ⟨hl.st hst11, hl.sl hi11, (h811.trans hl).cell hgl8, by omega⟩
    have hask2 : ∀ {L'}, Dim L11 L' → AskAt L' sk pk hk1 hks := fun hl => ⟨(h911.trans hl).st hsk, (h911.trans hl).sl hhk, (h811.trans hl).cell hgl8, by omega⟩
    have hss : ∀ {L'}, Dim L11 L' → _ := fun {L'} hl => ((h911.trans hl).sl hsv.ss).whole (L := L') hx rfl
    have hcc : ∀ {L'}, Dim L11 L' → _ := fun {L'} hl => (h911.trans hl).cell (L' := L') hcl
    have hci : ∀ {L'}, Dim L11 L' → _ := fun {L'} hl => ((h811.trans hl).sl his).int (L := L') hu
    have hco : ∀ {L'}, Dim L11 L' → _ := fun {L'} hl => ((h811.trans hl).sl hcs).whole (L := L') hz rfl
    refine W.drawn (by kernel_rfl) _ (Le.refl _) ?_
    refine DD.run' [0, 1, 2, 3] rfl ?_
    refine DD.vf 4 rfl rfl rfl rfl rfl (Vf.idx1 rfl rfl rfl rfl rfl rfl rfl (hk3')) ?_
    refine DD.vf 5 rfl rfl rfl rfl rfl (Vf.load rfl rfl rfl (hci (Dim.refl _))) ?_
    refine DD.act 6 rfl rfl rfl rfl rfl (Ef.call rfl ((Spare_sp sk ⟨xa, ya, z1, z2⟩ wa wc hks ik L11 (hask (Dim.refl _))))) ((by rintro _ _ _ ⟨_, rfl, rfl, rfl, hl⟩; exact ⟨hl, rfl, .inl rfl⟩)) ?_
    rintro _ _ _ ⟨_, rfl, rfl, rfl, f12⟩
    rename_i L12
    have f12 := Dim.of_le f12
    refine DD.run' [7, 8, 9, 10, 11] rfl ?_
    refine .fin rfl ?_
    refine W.go 99 rfl ?_
    refine W.drawn (by kernel_rfl) _ (Le.refl _) ?_
    refine DD.run' [0, 1, 4, 5, 8, 9] rfl ?_
    refine DD.vf 2 rfl rfl rfl rfl rfl (Vf.idx rfl rfl rfl rfl rfl rfl (hk3')) ?_
    refine DD.vf 3 rfl rfl rfl rfl rfl (Vf.loadN rfl rfl rfl (hss f12)) ?_
    refine DD.vf 6 rfl rfl rfl rfl rfl (Vf.idx rfl rfl rfl rfl rfl rfl (hk3')) ?_
    refine DD.vf 7 rfl rfl rfl rfl rfl (Vf.load rfl rfl rfl (hcc f12)) ?_
    refine DD.vf 10 rfl rfl rfl rfl rfl (Vf.idx1 rfl rfl rfl rfl rfl rfl rfl (hk3')) ?_
    refine DD.vf 11 rfl rfl rfl rfl rfl (Vf.load rfl rfl rfl (hci f12)) ?_
    refine DD.act 12 rfl rfl rfl rfl rfl (Ef.call rfl ((rSpare_sp sk pk hk1 hk3 hks ik L12 (hask2 f12)))) ((by rintro _ _ _ ⟨_, rfl, rfl, rfl, hl⟩; exact ⟨hl, rfl, .inl rfl⟩)) ?_
    rintro _ _ _ ⟨_, rfl, rfl, rfl, f13⟩
    rename_i L13
    have f13 := f12.trans (Dim.of_le f13)
    refine DD.run' [13, 14, 15, 16, 17] rfl ?_
    refine .fin rfl ?_
    refine W.weak (E' := [(14, .v (.slice (some ⟨ba, 0, none⟩) 3 3)), (15, .v (.slice (some ⟨bb, 0, none⟩) 3 3)), (16, .v (.slice (some ⟨bc, 0, none⟩) 3 3)), (17, .v (.slice (some ⟨bd, 0, none⟩) 3 3)), (18, .v (.int .i64 k)), (19, .p 0 0), (20, .v (.slice wa hks.length wc)), (21, .v (.int .i64 (SpareE sk hks ik).1)), (22, .v (.int .i64 (SpareE sk hks ik).2)), (23, .v (.int .i64 (SpareE sk hks ik).1)), (24, .v (.int .i64 (SpareE sk hks ik).2))]) (B' := [some ⟨cellsS (.v (stA sk ⟨xa, ya, z1, z2⟩)), 25⟩]) (by exact ⟨rfl, rfl, rfl, rfl, rfl, rfl, rfl, rfl, rfl, rfl, rfl, trivial⟩) (by exact ⟨rfl, trivial⟩) ?_
    refine W.go 99 rfl ?_
    have hadd := Add_sp (Post := Post) (W0 := W0) sk ⟨xa, ya, z1, z2⟩ ck L13 (hask f13).st hcap (hask f13).gl
    rw [← hX] at hadd
    refine W.drawn (by kernel_rfl) noL (noL_le _) ?_
    refine DD.run' [0, 1, 2, 9] rfl ?_
    refine DD.vf 3 rfl rfl rfl rfl rfl (Vf.idx rfl rfl rfl rfl rfl rfl (hk3')) ?_
    refine DD.act 4 rfl rfl rfl rfl rfl (Ef.val rfl (Vf.loadN rfl rfl rfl (hco f13))) (by rintro _ _ _ ⟨rfl, rfl, rfl⟩; exact ⟨noL_le _, rfl, .inl rfl⟩) ?_
    rintro _ _ _ ⟨rfl, rfl, rfl⟩
    refine DD.act 5 rfl rfl rfl rfl rfl (Ef.call rfl hadd) ((by rintro _ _ _ ⟨_, rfl, rfl, _, rfl, _⟩; exact ⟨noL_le _, rfl, .inl rfl⟩)) ?_
    rintro _ _ _ ⟨_, rfl, rfl, pa, rfl, hd14, ha14⟩
    rename_i L14
    have f14 := f13.trans hd14
    refine DD.run' [6, 7, 8] rfl ?_
    refine DD.act 10 rfl rfl rfl rfl rfl (Ef.sto rfl) (by rintro _ _ _ ⟨rfl, rfl, rfl⟩; exact ⟨noL_le _, rfl, .inl rfl⟩) ?_
    rintro _ _ L14 ⟨rfl, rfl, rfl⟩
    refine DD.run' [11] rfl ?_
    refine .fin rfl ?_
    refine W.go 99 rfl ?_
    refine W.drawn (by kernel_rfl) _ (Le.refl _) ?_
    refine DD.run' [0, 1, 4, 5, 12] rfl ?_
    refine DD.vf 2 rfl rfl rfl rfl rfl (Vf.idx rfl rfl rfl rfl rfl rfl (hk3')) ?_
    refine DD.vf 3 rfl rfl rfl rfl rfl (Vf.loadN rfl rfl rfl (hss f14)) ?_
    refine DD.vf 6 rfl rfl rfl rfl rfl (Vf.idx rfl rfl rfl rfl rfl rfl (hk3')) ?_
    refine DD.vf 7 rfl rfl rfl rfl rfl (Vf.loadN rfl rfl rfl (hco f14)) ?_
    refine DD.act 8 rfl rfl rfl rfl rfl (Ef.call rfl ((rAdd_sp sk pk ck L14 (hask2 f14).st (hask2 f14).gl))) ((by rintro _ _ _ ⟨_, rfl, rfl, _, rfl, hl, _⟩; exact ⟨hl, rfl, .inl rfl⟩)) ?_
    rintro _ _ _ ⟨_, rfl, rfl, pb, rfl, g15, hb15⟩
    rename_i L15
    have f15 := f14.trans (Dim.of_le g15)
    refine DD.run' [9, 10, 11] rfl ?_
    refine DD.act 13 rfl rfl rfl rfl rfl (Ef.sto rfl) (by rintro _ _ _ ⟨rfl, rfl, rfl⟩; exact ⟨g15, rfl, .inl rfl⟩) ?_
    rintro _ _ L15 ⟨rfl, rfl, rfl⟩
    refine DD.run' [14] rfl ?_
    refine .fin rfl ?_
    refine W.go 99 rfl ?_
    have ha15 := ha14.le g15
    refine W.drawn (by kernel_rfl) _ (Le.refl _) ?_
    refine DD.run' [0, 1, 2, 3] rfl ?_
    rw [bne_self_eq_false]
    refine DD.split 139 rfl (fun c => absurd c (by decide)) (fun _ => ?_)
    refine DD.run' [4, 5, 6, 7, 8] rfl ?_
    rw [bne_self_eq_false]
    refine DD.split 144 rfl (fun c => absurd c (by decide)) (fun _ => ?_)
    refine DD.run' [9, 10, 11, 12, 13] rfl ?_
    rw [bne_self_eq_false]
    refine DD.split 149 rfl (fun c => absurd c (by decide)) (fun _ => ?_)
    refine DD.run' [14, 15] rfl ?_
    refine DD.act 16 rfl rfl rfl rfl rfl (Ef.call rfl (EqStoves_sp (AddE sk ck).1 pa pb L15 ha15 hb15)) (by rintro _ _ _ ⟨_, rfl, rfl, rfl, rfl⟩; exact ⟨Le.refl _, rfl, .inl rfl⟩) ?_
    rintro _ _ _ ⟨_, rfl, rfl, rfl, rfl⟩
    refine DD.run' [17, 18, 19] rfl ?_
    refine DD.split 155 rfl (fun c => absurd c (by decide)) (fun _ => ?_)
    refine DD.run' [20, 21, 22] rfl ?_
    refine DD.vf 23 rfl rfl rfl rfl rfl (Vf.idx rfl rfl rfl rfl rfl rfl (hk3')) ?_
    refine DD.vf 24 rfl rfl rfl rfl rfl (Vf.loadN rfl rfl rfl (hss f15)) ?_
    refine DD.act 25 rfl rfl rfl rfl rfl (Ef.call rfl (EqStoves_sp sk ⟨xa, ya, z1, z2⟩ pk L15 (hask f15).st (hask2 f15).st)) (by rintro _ _ _ ⟨_, rfl, rfl, rfl, rfl⟩; exact ⟨Le.refl _, rfl, .inl rfl⟩) ?_
    rintro _ _ _ ⟨_, rfl, rfl, rfl, rfl⟩
    refine DD.run' [26, 27, 28] rfl ?_
    refine DD.split 164 rfl (fun c => absurd c (by decide)) (fun _ => ?_)
    refine DD.run' [29, 30, 31] rfl ?_
    refine DD.vf 32 rfl rfl rfl rfl rfl (Vf.idx rfl rfl rfl rfl rfl rfl (hk3')) ?_
    refine DD.vf 33 rfl rfl rfl rfl rfl (Vf.load rfl rfl rfl (hcc f15)) ?_
    refine DD.act 34 rfl rfl rfl rfl rfl (Ef.call rfl (EqInts_sp wa hk1 wc hk3 hks hks L15 (hask f15).he (hask2 f15).he (by omega) (by omega))) (by rintro _ _ _ ⟨_, rfl, rfl, rfl, rfl⟩; exact ⟨Le.refl _, rfl, .inl rfl⟩) ?_
    rintro _ _ _ ⟨_, rfl, rfl, rfl, rfl⟩
    rw [show decide (hks = hks) = true from decide_eq_true rfl]
    refine DD.run' [35, 36] rfl ?_
    refine .fin rfl ?_
    refine W.go 99 rfl ?_
    refine W.split rfl rfl rfl (fun c => absurd c (by decide)) (fun c => ?_)
    refine W.go 99 rfl ?_
    exact W.again (again _ _ _ _ (by omega) ⟨k + 1, rfl, by omega, h811.trans f15, rfl, rfl⟩) (by exact ⟨rfl, rfl, rfl, rfl, congrArg some (inc64 (by omega)), trivial⟩) (by exact trivial)
  · refine W.eff rfl rfl rfl (Ef.call rfl (drd L9 (hd9.cell hgl8))) ?_
    rintro _ _ _ ⟨_, rfl, rfl, rfl, hdm⟩
    refine W.go 99 rfl ?_
    exact W.retO r rfl ⟨rfl, ((Dim.of_le hL8).trans hd9).trans hdm⟩
end Go.Mz

