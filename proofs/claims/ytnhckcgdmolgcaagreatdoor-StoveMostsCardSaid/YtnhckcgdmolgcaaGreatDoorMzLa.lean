/- Lemmas on which the claim leans. -/
import Derived.Test.YtnhckcgdmolgcaaGreatDoorMzAv
set_option maxRecDepth 100000
namespace Go.Mz
open Go Go.Conc Go.Proofs
def plansG (s : St) (hs : List Int) (each : Bool) (b : List Stand) : List (List Stand) := if fitsS s hs b then grow (fitsS s hs) ((optsS s hs allC each).drop b.length) b else []
section
variable {s : St} {hs : List Int} {each : Bool} {b : List Stand}
theorem plansG_no (h : fitsS s hs b = false) : plansG s hs each b = [] := by unfold plansG; rw [h]; rfl
theorem plansG_end (h : fitsS s hs b = true) (hb : s.cones.length ≤ b.length) : plansG s hs each b = [b] := by
 unfold plansG
 rw [if_pos h, List.drop_of_length_le (by rw [opts_len]; exact hb)]
 rfl
theorem plansG_step (h : fitsS s hs b = true) {c : Cone} (hc : s.cones[b.length]? = some c) : plansG s hs each b = (optS s hs true each c).flatMap fun a => plansG s hs each (b ++ [a]) := by
 have hi := (List.getElem?_eq_some_iff.1 hc).1
 have ho : (optsS s hs allC each)[b.length]? = some (optS s hs true each c) := opts_get hc
 have hl : b.length < (optsS s hs allC each).length := (List.getElem?_eq_some_iff.1 ho).1
 have hg : (optsS s hs allC each)[b.length] = optS s hs true each c := Option.some.inj ((List.getElem?_eq_getElem hl).symm.trans ho)
 unfold plansG
 rw [if_pos h, List.drop_eq_getElem_cons hl, hg]
 simp only [grow, List.length_append, List.length_cons, List.length_nil, Nat.zero_add]
theorem plansG_nil (h : Ok s) : plansG s hs each [] = plansS s hs allC each := by
 unfold plansG plansS
 rw [if_pos (fits_nil h hs), List.length_nil, List.drop_zero]
end
def heatsG (s : St) (b : List Int) : List (List Int) := (heatsAll s.top s.rise (s.days.toNat - b.length) (b.getLast?.getD s.now)).map (b ++ ·)
section
variable {s : St} {b : List Int}
end
def fireStep (s : St) (b : Option (List Int)) (x : List Int) : Option (List Int) := if canS s x then takeLess sumL b x else b
end Go.Mz


set_option maxRecDepth 100000
namespace Go.Mz
open Go
theorem grow_len {fit : List Stand → Bool} {k : Nat} : ∀ {os : List (List Stand)} {b : List Stand}, (∀ o ∈ os, o.length ≤ k) → (grow fit os b).length ≤ k ^ os.length
 | [], b, _ => by simp [grow]
 | o :: os, b, h => by
  simp only [grow]
  have h1 := h o (List.mem_cons_self ..)
  have h2 : ∀ a ∈ o, (if fit (b ++ [a]) then grow fit os (b ++ [a]) else []).length ≤ k ^ os.length := fun a _ => by
   split
   ·exact grow_len fun x hx => h x (List.mem_cons_of_mem _ hx)
   ·simp
  have h3 := flatMap_le o h2
  rw [List.length_cons, Nat.pow_succ, Nat.mul_comm]
  exact Nat.le_trans h3 (Nat.mul_le_mul_right _ h1)
section
variable {s : St} {hs : List Int}
theorem opt_len (h : Ok s) {so each : Bool} {c : Cone} : (optS s hs so each c).length ≤ 13 := by
 unfold optS
 rw [List.length_append]
 have h1 := grid_len h
 have h2 : (standsS s hs c).length ≤ (grid s).length := List.length_filter_le ..
 split <;> split <;> simp <;> omega
theorem plansG_len (h : Ok s) {each : Bool} {b : List Stand} : (plansG s hs each b).length ≤ 2197 := by
 unfold plansG
 split
 ·have h1 : ((optsS s hs allC each).drop b.length).length ≤ 3 := by rw [List.length_drop, opts_len]; have := h.c3; omega
  have h2 := grow_len (fit := fitsS s hs) (k := 13) (os := (optsS s hs allC each).drop b.length) (b := b) (fun o ho => by
   have := List.mem_of_mem_drop ho
   unfold optsS at this
   obtain ⟨x, _, rfl⟩ := List.mem_map.1 this
   exact opt_len h)
  have h3 : 13 ^ ((optsS s hs allC each).drop b.length).length ≤ 13 ^ 3 := Nat.pow_le_pow_right (by omega) h1
  omega
 ·simp
theorem plans_lenX (h : Ok s) {each : Bool} : (plansS s hs allC each).length ≤ 2197 := by rw [← plansG_nil h]; exact plansG_len h
end
theorem best_next {α : Type} {f : α → Int} {l : List α} {i b : Nat} {x y : α} (hx : l[i]? = some x) (hy : l[b]? = some y) (h : (i = 0 ∧ b = 0) ∨ firstMin f (l.take i) = some y) : firstMin f (l.take (i + 1)) = some (if f x < f y then x else y) := by
 have ht : l.take (i + 1) = l.take i ++ [x] := by
  obtain ⟨hi, rfl⟩ := List.getElem?_eq_some_iff.1 hx
  exact List.take_succ_eq_append_getElem hi
 rw [ht, firstMin_add]
 rcases h with ⟨rfl, rfl⟩ | h
 ·rw [hx] at hy; cases hy
  simp [firstMin, takeLess]
 ·rw [h]; unfold takeLess; simp only; split <;> rfl
def pickL (n : Nat) : Nat → Nat → List (List Nat)
 | 0, _ => [[]]
 | m + 1, first => (List.range' first (n - first)).flatMap fun i => (pickL n m (i + 1)).map (i :: ·)
end Go.Mz


namespace Go.Mz
open Go
theorem mem_grow {fit : List Stand → Bool} : ∀ {os : List (List Stand)} {b x : List Stand}, x ∈ grow fit os b ↔ ∃ t, x = b ++ t ∧ t.length = os.length ∧ (∀ (i : Nat) (o : List Stand) (a : Stand), os[i]? = some o → t[i]? = some a → a ∈ o) ∧ ∀ i, i < t.length → fit (b ++ t.take (i + 1)) = true
 | [], b, x => by
  simp only [grow, List.mem_singleton]
  constructor
  ·rintro rfl; exact ⟨[], by simp, rfl, fun i o a h => by simp at h, fun i h => by simp at h⟩
  ·rintro ⟨t, rfl, h, _⟩
   obtain rfl := List.length_eq_zero_iff.1 h
   simp
 | o :: os, b, x => by
  simp only [grow, List.mem_flatMap]
  constructor
  ·rintro ⟨a, ha, hx⟩
   by_cases hf : fit (b ++ [a]) = true
   ·rw [if_pos hf] at hx
    obtain ⟨t, rfl, h1, h2, h3⟩ := mem_grow.1 hx
    refine ⟨a :: t, by simp, by simp [h1], fun i o' a' ho ha' => ?_, fun i hi => ?_⟩
    ·cases i with
     | zero => simp at ho ha'; subst ho; subst ha'; exact ha
     | succ i => exact h2 i o' a' (by simpa using ho) (by simpa using ha')
    ·cases i with
     | zero => simpa using hf
     | succ i => have := h3 i (by simpa using hi); simpa using this
   ·rw [if_neg hf] at hx; cases hx
  ·rintro ⟨t, rfl, h1, h2, h3⟩
   cases t with
   | nil => simp at h1
   | cons a t =>
    have hf : fit (b ++ [a]) = true := by have := h3 0 (by simp); simpa using this
    refine ⟨a, h2 0 o a rfl rfl, ?_⟩
    rw [if_pos hf]
    refine mem_grow.2 ⟨t, by simp, by simpa using h1, fun i o' a' ho ha' => h2 (i + 1) o' a' (by simpa using ho) (by simpa using ha'), fun i hi => ?_⟩
    have := h3 (i + 1) (by simpa using hi)
    simpa using this
theorem filter_le {α : Type} {p q : α → Bool} {l : List α} (h : ∀ x ∈ l, p x = true → q x = true) : (l.filter p).length ≤ (l.filter q).length := by
 rw [← List.countP_eq_length_filter, ← List.countP_eq_length_filter]
 exact List.countP_mono_left h
theorem fits_iff {s : St} {hs : List Int} {l : List Stand} : fitsS s hs l = true ↔ ∀ k, k < s.shelves.length → ∀ d, d < s.days.toNat → ((onS s hs l k d).length : Int) ≤ roomOf s k := by
 unfold fitsS
 simp only [List.all_eq_true, List.mem_range, decide_eq_true_eq]
theorem on_mono {s : St} {hs : List Int} {l m : List Stand} {k d : Nat} : (onS s hs l k d).length ≤ (onS s hs (l ++ m) k d).length := by
 unfold onS
 refine filter_le fun i _ h => ?_
 unfold onB at h ⊢
 cases hl : l[i]? with
 | none => rw [hl] at h; cases h
 | some a =>
  have : (l ++ m)[i]? = some a := by rw [List.getElem?_append_left (List.getElem?_eq_some_iff.1 hl).1]; exact hl
  rw [hl] at h
  rw [this]
  exact h
theorem fits_pre {s : St} {hs : List Int} {l m : List Stand} (h : fitsS s hs (l ++ m) = true) : fitsS s hs l = true := by
 rw [fits_iff] at h ⊢
 intro k hk d hd
 have h1 := h k hk d hd
 have h2 := on_mono (s := s) (hs := hs) (l := l) (m := m) (k := k) (d := d)
 omega
theorem mem_plans {s : St} (h : Ok s) {hs : List Int} {so : Nat → Bool} {each : Bool} {x : List Stand} :
  x ∈ plansS s hs so each ↔ x.length = s.cones.length ∧ (∀ (i : Nat) (c : Cone) (a : Stand), s.cones[i]? = some c → x[i]? = some a → a ∈ optS s hs (so i) each c) ∧ fitsS s hs x = true := by
 unfold plansS
 rw [mem_grow]
 constructor
 ·rintro ⟨t, ht, h1, h2, h3⟩
  have ht : x = t := by simpa using ht
  subst ht
  rw [opts_len] at h1
  refine ⟨h1, fun i c a hc ha => h2 i _ a (opts_get hc) ha, ?_⟩
  cases ht : x.length with
  | zero =>
   obtain rfl := List.length_eq_zero_iff.1 ht
   exact fits_nil h hs
  | succ m =>
   have := h3 m (by omega)
   rw [List.take_of_length_le (by omega)] at this
   exact this
 ·rintro ⟨h1, h2, h3⟩
  refine ⟨x, rfl, by rw [opts_len]; exact h1, fun i o a ho ha => ?_, fun i hi => ?_⟩
  ·have hi : i < s.cones.length := by
    have := (List.getElem?_eq_some_iff.1 ho).1
    rw [opts_len] at this; exact this
   have hc : s.cones[i]? = some s.cones[i] := List.getElem?_eq_getElem hi
   rw [opts_get hc] at ho
   cases ho
   exact h2 i _ a hc ha
  ·refine fits_pre (m := x.drop (i + 1)) ?_
   rw [List.nil_append, List.take_append_drop]
   exact h3
theorem most_mem {s : St} (h : Ok s) (hs : List Int) : mostS s hs ∈ plansS s hs allC false := by
 obtain ⟨y, hy⟩ := firstMin_some (f := fun p => - cnt p) (plans_ne h hs allC)
 unfold mostS
 rw [hy]
 exact firstMin_mem hy
theorem most_max {s : St} (h : Ok s) {hs : List Int} {x : List Stand} (hx : x ∈ plansS s hs allC false) : cnt x ≤ cnt (mostS s hs) := by
 obtain ⟨y, hy⟩ := firstMin_some (f := fun p => - cnt p) (plans_ne h hs allC)
 have := firstMin_le hy x hx
 unfold mostS
 rw [hy]
 simp only [Option.getD_some]
 omega
end Go.Mz


namespace Go.Mz
open Go
structure Harder (c c' : Cone) : Prop where
 cold : c.cold ≤ c'.cold
 jump : c.jump ≤ c'.jump
 most : c.most ≤ c'.most
 wet : c'.wet ≤ c.wet
theorem Harder.refl (c : Cone) : Harder c c := ⟨Int.le_refl _, Int.le_refl _, Int.le_refl _, Int.le_refl _⟩
structure Wider (s s' : St) : Prop where
 sh : s'.shelves.length = s.shelves.length
 lift : ∀ k, liftOf s' k = liftOf s k
 room : ∀ k, k < s.shelves.length → roomOf s k ≤ roomOf s' k
 days : s'.days = s.days
 len : s'.cones.length = s.cones.length
 co : ∀ (i : Nat) c c', s.cones[i]? = some c → s'.cones[i]? = some c' → Harder c c'
theorem opt_dry {s : St} {hs : List Int} {so each : Bool} {c : Cone} {a : Stand} (h : a ∈ optS s hs so each c) : a = none1 ∨ (a ∈ grid s ∧ (fateS s hs c a).1 = 0) := by
 unfold optS at h
 rcases List.mem_append.1 h with h | h
 ·left
  split at h
  ·exact List.mem_singleton.1 h
  ·cases h
 ·right
  split at h
  ·have := List.mem_filter.1 h; exact ⟨this.1, by simpa using this.2⟩
  ·cases h
end Go.Mz


namespace Go.Mz
open Go
structure Renum (s s' : St) (σ : Nat → Nat) : Prop where
 sh : s'.shelves.length = s.shelves.length
 rng : ∀ k, k < s.shelves.length → σ k < s.shelves.length
 inj : ∀ j k, j < s.shelves.length → k < s.shelves.length → σ j = σ k → j = k
 sur : ∀ k, k < s.shelves.length → ∃ j, j < s.shelves.length ∧ σ j = k
 get : ∀ k, k < s.shelves.length → s'.shelves[σ k]? = s.shelves[k]?
 days : s'.days = s.days
 cones : s'.cones = s.cones
def mapSt (σ : Nat → Nat) (a : Stand) : Stand := if a.shelf < 0 then a else ⟨(σ a.shelf.toNat : Nat), a.day⟩
theorem map_none (σ : Nat → Nat) : mapSt σ none1 = none1 := rfl
theorem mem_grid {s : St} {a : Stand} : a ∈ grid s ↔ ∃ k d : Nat, k < s.shelves.length ∧ d < s.days.toNat ∧ a = ⟨k, d⟩ := by
 unfold grid
 simp only [List.mem_flatMap, List.mem_map, List.mem_range]
 constructor
 ·rintro ⟨k, hk, d, hd, rfl⟩; exact ⟨k, d, hk, hd, rfl⟩
 ·rintro ⟨k, d, hk, hd, rfl⟩; exact ⟨k, hk, d, hd, rfl⟩
theorem map_grid (σ : Nat → Nat) (k d : Nat) : mapSt σ ⟨k, d⟩ = ⟨(σ k : Nat), d⟩ := by
 unfold mapSt
 rw [if_neg (by simp only; omega)]
 simp
theorem Renum.lift {s s' : St} {σ : Nat → Nat} (r : Renum s s' σ) {k : Nat} (hk : k < s.shelves.length) : liftOf s' (σ k : Nat) = liftOf s (k : Nat) := by
 unfold liftOf
 simp only [Int.toNat_natCast]
 rw [r.get k hk]
theorem Renum.fate {s s' : St} {σ : Nat → Nat} (r : Renum s s' σ) {k : Nat} (hk : k < s.shelves.length) (hs : List Int) (c : Cone) (d : Nat) : fateS s' hs c ⟨(σ k : Nat), d⟩ = fateS s hs c ⟨k, d⟩ := by
 unfold fateS
 simp only
 rw [r.lift hk]
theorem Renum.plans {s s' : St} {σ : Nat → Nat} (r : Renum s s' σ) (h : Ok s) (h' : Ok s') {hs : List Int} {so : Nat → Bool} {each : Bool} {x : List Stand} (hx : x ∈ plansS s hs so each) : x.map (mapSt σ) ∈ plansS s' hs so each := by
 obtain ⟨h1, h2, h3⟩ := (mem_plans h).1 hx
 refine (mem_plans h').2 ⟨by rw [r.cones]; simpa using h1, fun i c a hc ha => ?_, ?_⟩
 ·rw [r.cones] at hc
  rw [List.getElem?_map] at ha
  obtain ⟨a0, ha0, rfl⟩ := Option.map_eq_some_iff.1 ha
  have := h2 i c a0 hc ha0
  unfold optS at this ⊢
  rcases List.mem_append.1 this with this | this
  ·refine List.mem_append_left _ ?_
   split at this
   ·rename_i hh
    rw [if_pos hh]
    rw [List.mem_singleton.1 this]
    exact List.mem_singleton.2 rfl
   ·cases this
  ·refine List.mem_append_right _ ?_
   split at this
   ·rename_i hso
    rw [if_pos hso]
    obtain ⟨g1, g2⟩ := List.mem_filter.1 this
    obtain ⟨k, d, hk, hd, rfl⟩ := mem_grid.1 g1
    rw [map_grid]
    refine List.mem_filter.2 ⟨mem_grid.2 ⟨σ k, d, by rw [r.sh]; exact r.rng k hk, by rw [r.days]; exact hd, rfl⟩, ?_⟩
    rw [r.fate hk]
    exact g2
   ·cases this
 ·rw [fits_iff] at h3 ⊢
  intro k' hk' d hd
  rw [r.sh] at hk'
  rw [r.days] at hd
  obtain ⟨k, hk, rfl⟩ := r.sur k' hk'
  have hon : onS s' hs (x.map (mapSt σ)) (σ k) d = onS s hs x k d := by
   unfold onS
   rw [r.cones]
   refine List.filter_congr fun i hi => ?_
   have hi := List.mem_range.1 hi
   have hc : s.cones[i]? = some s.cones[i] := List.getElem?_eq_getElem hi
   unfold onB
   rw [r.cones, hc, List.getElem?_map]
   cases ha : x[i]? with
   | none => rfl
   | some a =>
    simp only [Option.map_some]
    rcases opt_dry (h2 i _ a hc ha) with rfl | ⟨hg, _⟩
    ·have e1 : ((mapSt σ none1).shelf == ((σ k : Nat) : Int)) = false := by rw [map_none]; simp [none1]
     have e2 : (none1.shelf == ((k : Nat) : Int)) = false := by simp [none1]
     rw [e1, e2]; simp
    ·obtain ⟨j, e, hj, he, rfl⟩ := mem_grid.1 hg
     rw [map_grid, r.fate hj]
     have e1 : (((σ j : Nat) : Int) == ((σ k : Nat) : Int)) = ((j : Int) == (k : Int)) := by
      by_cases e : j = k
      ·subst e; simp
      ·have : σ j ≠ σ k := fun g => e (r.inj j k hj hk g)
       rw [beq_eq_false_iff_ne.2 (by omega), beq_eq_false_iff_ne.2 (by omega)]
     rw [e1]
  have hr : roomOf s' (σ k) = roomOf s k := by unfold roomOf; rw [r.get k hk]
  rw [hon, hr]
  exact h3 k hk d hd
theorem cnt_map {s : St} (h : Ok s) {hs : List Int} {so : Nat → Bool} {each : Bool} {x : List Stand} (hx : x ∈ plansS s hs so each) (σ : Nat → Nat) : cnt (x.map (mapSt σ)) = cnt x := by
 unfold cnt
 rw [List.countP_map]
 congr 1
 refine List.countP_congr fun a ha => ?_
 simp only [Function.comp, decide_eq_true_eq]
 unfold mapSt
 split
 ·rfl
 ·rename_i hh
  constructor
  ·intro _; omega
  ·intro _; simp only; omega
theorem Renum.inv {s s' : St} {σ : Nat → Nat} (r : Renum s s' σ) : ∃ τ, Renum s' s τ := by
 classical
 have hc : ∀ k, ∃ j, k < s.shelves.length → j < s.shelves.length ∧ σ j = k := fun k => by
  by_cases hk : k < s.shelves.length
  ·obtain ⟨j, hj⟩ := r.sur k hk; exact ⟨j, fun _ => hj⟩
  ·exact ⟨0, fun h => absurd h hk⟩
 obtain ⟨τ, hτ⟩ := Classical.axiomOfChoice hc
 refine ⟨τ, r.sh.symm, fun k hk => ?_, fun j k hj hk e => ?_, fun k hk => ?_, fun k hk => ?_, r.days.symm, r.cones.symm⟩
 ·rw [r.sh] at hk ⊢; exact (hτ k hk).1
 ·rw [r.sh] at hj hk; rw [← (hτ j hj).2, ← (hτ k hk).2, e]
 ·rw [r.sh] at hk ⊢
  exact ⟨σ k, r.rng k hk, r.inj _ _ (hτ _ (r.rng k hk)).1 hk (hτ _ (r.rng k hk)).2⟩
 ·rw [r.sh] at hk
  have := r.get (τ k) (hτ k hk).1
  rw [(hτ k hk).2] at this
  exact this.symm
theorem Renum.most {s s' : St} {σ : Nat → Nat} (r : Renum s s' σ) (h : Ok s) (h' : Ok s') (hs : List Int) : cnt (mostS s hs) = cnt (mostS s' hs) := by
 have key : ∀ {s s' : St} {σ : Nat → Nat}, Renum s s' σ → Ok s → Ok s' → cnt (mostS s hs) ≤ cnt (mostS s' hs) := fun {s s' σ} r h h' => by
  have h1 := most_mem h hs
  rw [← cnt_map h h1 σ]
  exact most_max h' (r.plans h h' h1)
 obtain ⟨τ, rτ⟩ := r.inv
 have h1 := key r h h'
 have h2 := key rτ h' h
 omega
theorem Renum.can {s s' : St} {σ : Nat → Nat} (r : Renum s s' σ) (h : Ok s) (h' : Ok s') (hs : List Int) : canS s hs = canS s' hs := by
 have key : ∀ {s s' : St} {σ : Nat → Nat}, Renum s s' σ → Ok s → Ok s' → canS s hs = true → canS s' hs = true := fun {s s' σ} r h h' hc => by
  unfold canS at hc ⊢
  cases hp : plansS s hs allC true with
  | nil => rw [hp] at hc; simp at hc
  | cons x l =>
   have hx : x ∈ plansS s hs allC true := by rw [hp]; exact List.mem_cons_self ..
   have := r.plans h h' hx
   cases hp' : plansS s' hs allC true with
   | nil => rw [hp'] at this; cases this
   | cons _ _ => rfl
 obtain ⟨τ, rτ⟩ := r.inv
 cases h1 : canS s hs with
 | true => exact (key r h h' h1).symm
 | false =>
  cases h2 : canS s' hs with
  | false => rfl
  | true => rw [key rτ h' h h2] at h1; cases h1
theorem Renum.fire {s s' : St} {σ : Nat → Nat} (r : Renum s s' σ) (h : Ok s) (h' : Ok s') (e : s'.top = s.top ∧ s'.rise = s.rise ∧ s'.now = s.now) : fireS s' = fireS s := by
 unfold fireS heatsS
 rw [e.1, e.2.1, e.2.2, r.days]
 congr 1
 exact List.filter_congr fun x _ => (r.can h h' x).symm
end Go.Mz


set_option maxRecDepth 100000
namespace Go.Mz
open Go.Conc Go.Proofs
abbrev Rw (α : Type) := Rf × List α
def encRw {α : Type} (x : Rw α) : List Value := [slV x.1]
theorem encRw_len {α : Type} (x : Rw α) : (encRw x).length = 1 := rfl
theorem encRw_sg {α : Type} (x : Rw α) : ∀ u ∈ encRw x, single u = true := fun u hu => by rw [List.mem_singleton.1 hu]; rfl
structure RwOk {α : Type} (L : LH) (k : Nat) (enc : α → List Value) (x : Rw α) : Prop where
 sl : SlAt L x.1.1 k enc x.2
 len : x.1.2.1 = x.2.length
theorem RwOk.le {α : Type} {L L' : LH} {k : Nat} {enc : α → List Value} {x : Rw α} (h : RwOk L k enc x) (hl : Le L L') : RwOk L' k enc x := ⟨h.sl.le hl, h.len⟩
def RowsAt {α : Type} (L : LH) (ad : Option Addr) (k : Nat) (enc : α → List Value) (ls : List (List α)) : Prop := ∃ rs : List (Rw α), rs.map Prod.snd = ls ∧ SlAt L ad 1 encRw rs ∧ ∀ x ∈ rs, RwOk L k enc x
def GrowL {α : Type} (I : LH) (e k : Nat) (enc : α → List Value) (L : LH) (v : Value) (ls : List (List α)) : Prop := ∃ J, ∃ rs : List (Rw α), Le I J ∧ rs.map Prod.snd = ls ∧ Grow J 1 e encRw L v rs ∧ ∀ x ∈ rs, RwOk J k enc x
section
variable {β : Type} {F F' I L L' L2 : LH} {e k : Nat} {enc : β → List Value} {v : Value} {l : List β}
theorem Grow.foot {ad : Option Addr} {len cap : Nat} (h : Grow I k e enc L (.slice ad len cap) l) (hk : ∀ x, (enc x).length = k) (hF : Le F I) : ∃ F', Le F F' ∧ Le F' L ∧ SlAt F' ad k enc l ∧ ∀ b, F' b ≠ none → F b ≠ none ∨ I b = none := by
 obtain ⟨hI, ob, ho, hn⟩ := h
 obtain ⟨ad', cap', e1, -⟩ := ho.slice
 cases e1
 classical
 refine ⟨fun b => if ob = some b then L b else F b, fun b x hx => ?_, fun b x hx => ?_, (ho.keep (L' := fun b => if ob = some b then L b else F b) fun b hb => ?_).at hk, fun b hb => ?_⟩
 ·simp only
  split
  ·rename_i e2; have := hF _ _ hx; rw [hn b e2] at this; cases this
  ·exact hx
 ·simp only at hx
  split at hx
  ·exact hx
  ·exact hI _ _ (hF _ _ hx)
 ·rw [if_pos hb]
 ·simp only at hb
  split at hb
  ·rename_i e2; exact .inr (hn b e2)
  ·exact .inl hb
theorem Own.some_blk {v : Value} {n : Nat} {cs : List Value} {ob : Option Nat} (h : Own L k e v n cs ob) {b : Nat} (hb : ob = some b) : L b ≠ none := by subst hb; exact h.blk
theorem Grow.rebase (h : Grow F k e enc L v l) (hl : Le L L') (hF : Le F' L') (hn : ∀ b, F' b ≠ none → F b ≠ none ∨ L b = none) : Grow F' k e enc L' v l := by
 obtain ⟨_, ob, ho, hf⟩ := h
 refine ⟨hF, ob, ho.le hl, fun b hb => ?_⟩
 cases hx : F' b with
 | none => rfl
 | some y =>
  rcases hn b (by rw [hx]; simp) with e1 | e1
  ·exact absurd (hf b hb) e1
  ·exact absurd e1 (ho.some_blk hb)
theorem Grow.call (h : Grow F k e enc L v l) (p : Post F L F' L2) : Grow F' k e enc L2 v l := by
 obtain ⟨_, ob, ho, hf⟩ := h
 refine ⟨p.le, ob, ho.keep fun b hb => ?_, fun b hb => ?_⟩
 ·cases hx : L b with
  | none => exact absurd hx (ho.some_blk hb)
  | some y => exact p.keep b y (hf b hb) hx
 ·cases hx : F' b with
  | none => rfl
  | some y =>
   rcases p.fresh b (by rw [hx]; simp) with e1 | e1
   ·exact absurd (hf b hb) e1
   ·exact absurd e1 (ho.some_blk hb)
end
section
variable {α : Type} {I L L' : LH} {e k : Nat} {enc : α → List Value} {v : Value} {ls : List (List α)}
theorem GrowL.hle (h : GrowL I e k enc L v ls) : Le I L := let ⟨_, _, h1, _, h, _⟩ := h; h1.trans h.1
theorem GrowL.le (h : GrowL I e k enc L v ls) (hl : Le L L') : GrowL I e k enc L' v ls := let ⟨J, rs, h0, h1, h2, h3⟩ := h; ⟨J, rs, h0, h1, h2.le hl, h3⟩
theorem GrowL.less {I' : LH} (h : GrowL I e k enc L v ls) (hl : Le I' I) : GrowL I' e k enc L v ls := let ⟨J, rs, h0, h1, h2, h3⟩ := h; ⟨J, rs, hl.trans h0, h1, h2, h3⟩
theorem GrowL.nil (h : Le I L) : GrowL I e k enc L (.slice none 0 0) ([] : List (List α)) := ⟨L, [], h, rfl, Grow.nil (Le.refl _), fun x hx => by cases hx⟩
theorem GrowL.slice (h : GrowL I e k enc L v ls) : ∃ ad cap, v = .slice ad ls.length cap := by
 obtain ⟨J, rs, _, rfl, h2, _⟩ := h
 obtain ⟨ad, cap, rfl, -⟩ := h2.slice
 exact ⟨ad, cap, by rw [List.length_map]⟩
theorem GrowL.at {ad : Option Addr} {len cap : Nat} (h : GrowL I e k enc L (.slice ad len cap) ls) : len = ls.length ∧ RowsAt L ad k enc ls := by
 obtain ⟨J, rs, _, rfl, h2, h3⟩ := h
 obtain ⟨rfl, h4⟩ := h2.at encRw_len
 exact ⟨(List.length_map ..).symm, rs, rfl, h4, fun x hx => (h3 x hx).le h2.1⟩
theorem RowsAt.le {ad : Option Addr} (h : RowsAt L ad k enc ls) (hl : Le L L') : RowsAt L' ad k enc ls := let ⟨rs, h1, h2, h3⟩ := h; ⟨rs, h1, h2.le hl, fun x hx => (h3 x hx).le hl⟩
theorem RowsAt.addr {ad : Option Addr} (h : RowsAt L ad k enc ls) {i : Nat} (hi : i < ls.length) : ∃ a, ad = some a := by
 obtain ⟨rs, rfl, h2, _⟩ := h
 exact h2.addr (by simpa using hi)
theorem RowsAt.row {ad : Addr} (h : RowsAt L (some ad) k enc ls) {i : Nat} {l : List α} (hl : ls[i]? = some l) : ∃ a c, L.cell? (ad.add i) = some (.slice a l.length c) ∧ SlAt L a k enc l := by
 obtain ⟨rs, rfl, h2, h3⟩ := h
 rw [List.getElem?_map] at hl
 obtain ⟨⟨⟨a, n, c⟩, l'⟩, hx, rfl⟩ := Option.map_eq_some_iff.1 hl
 have hk := h3 _ (List.mem_of_getElem? hx)
 have hn : n = l'.length := hk.len
 subst hn
 refine ⟨a, c, ?_, hk.sl⟩
 have := h2.get hx (j := 0) (v := slV (a, l'.length, c)) rfl
 simpa using this
theorem Grow.lit {β : Type} {encB : β → List Value} {l : List β} {b : Nat} (hk : ∀ x, (encB x).length = k) (h : Le I L) (hb : L b = some (.cells (l.flatMap encB).toArray e (0, 0), true)) (hn : I b = none) : Grow I k e encB L (.slice (some ⟨b, 0, none⟩) l.length l.length) l :=
 ⟨h, some b, ⟨l.length, (l.flatMap encB).toArray, rfl, hb, by simp [flat_len hk], Nat.le_refl _, flat_len hk l, fun i x hx => by simpa using hx⟩, fun b' hb' => by cases hb'; exact hn⟩
theorem GrowL.one {b : Nat} {a : Option Addr} {c : Nat} {l : List α} (hl : SlAt I a k enc l) (hI : Le I L) (hb : L b = some (.cells #[.slice a l.length c] e (0, 0), true)) (hn : I b = none) : GrowL I e k enc L (.slice (some ⟨b, 0, none⟩) 1 1) [l] :=
 ⟨I, [((a, l.length, c), l)], Le.refl _, rfl, Grow.lit (l := [((a, l.length, c), l)]) encRw_len hI hb hn, fun x hx => by rw [List.mem_singleton.1 hx]; exact ⟨hl, rfl⟩⟩
end
section
variable {X : Logic Tryz.prog}
theorem planV_snoc {s : St} {hs : List Int} {b : List Stand} {c : Cone} {a : Stand} {each : Bool} (h : PlanV s b) (hb : b.length < s.cones.length) (ha : a ∈ optS s hs true each c) : PlanV s (b ++ [a]) := by
 refine ⟨by simp; omega, fun x hx => ?_⟩
 rcases List.mem_append.1 hx with hx | hx
 ·exact h.2 x hx
 ·rw [List.mem_singleton.1 hx]
  rcases opt_dry ha with rfl | ⟨hg, _⟩
  ·exact .inl rfl
  ·obtain ⟨k, d, hk, hd, rfl⟩ := mem_grid.1 hg
   right
   unfold isStand inB
   simp
   omega
theorem rPlans_sp (s : St) (p : Pt) (ha : Option Addr) (hc : Nat) (hs : List Int) (each : Bool) (hok : Ok s) (hhk : HOk s hs) : ∀ (n : Nat) (ba : Option Addr) (bc : Nat) (b : List Stand) (L : LH), s.cones.length - b.length = n → AskAt L s p ha hs → SlAt L ba 2 encSt b → PlanV s b →
  Sp X 102 [stA s p, .slice ha hs.length hc, .bool each, .slice ba b.length bc] L (fun v L' => GrowL L 41 2 encSt L' v (plansG s hs each b)) := by
 intro n
 induction n using Nat.strongRecOn with
 | _ n ih => ?_
 intro ba bc b L hn h hb hv
 have hc3 := hok.c3
 have hv1 := hv.1
 refine Sp.enter (n := 60) Tryz.func102 rfl rfl rfl rfl fun C hX _ hL0 r => ?_
 refine W.go 99 rfl ?_
 refine W.eff rfl rfl rfl (Ef.call rfl (rFits_sp s p ha ba hc bc hs b L h hok hhk hb hv)) ?_
 rintro _ _ _ ⟨_, rfl, rfl, rfl, hl0⟩
 refine W.go 99 rfl ?_
 rename_i L0
 have h := h.le hl0
 have hb := hb.le hl0
 refine W.split rfl rfl rfl (fun e1 => W.go 99 rfl ?_) (fun e1 => W.go 99 rfl ?_)
 ·have hf : fitsS s hs b = false := by simpa using e1
  refine W.ret r rfl rfl ?_
  rw [plansG_no hf]
  exact GrowL.nil hl0
 have hf : fitsS s hs b = true := by simpa using e1
 refine W.split rfl rfl rfl (fun e2 => W.go 99 rfl ?_) (fun e2 => W.go 99 rfl ?_)
 ·have hbl : s.cones.length ≤ b.length := by simp at e2; omega
  refine W.pub 8 (.inr ⟨_, _, _, rfl⟩) rfl rfl ?_
  intro b1 hb1 _
  refine W.ret r rfl rfl ?_
  rw [plansG_end hf hbl]
  exact (GrowL.one hb (Le.put hb1 _) (put_same _ _ _) hb1).less hl0
 have hbl : b.length < s.cones.length := by simp at e2; omega
 obtain ⟨c, hcc⟩ : ∃ c, s.cones[b.length]? = some c := ⟨_, List.getElem?_eq_getElem hbl⟩
 have hopt : (if (!each) = true then [none1] else []) ++ standsS s hs c = optS s hs true each c := by unfold optS; cases each <;> rfl
 refine W.cutI (fun E B L1 => ∃ v : Value, Grow L0 2 30 encSt L1 v (if (!each) = true then [none1] else []) ∧ SubE E [(1, .v (.slice ha hs.length hc)), (2, .v (.bool each)), (3, .v (.slice ba b.length bc)), (4, .p 0 0), (9, .v v)] ∧ PreB B [some ⟨cellsS (.v (stA s p)), 25⟩]) ?_ ?_
 ·rintro E B L1 ⟨v, hg, hE, hB⟩
  refine W.weak hE hB ?_
  refine W.go 99 rfl ?_
  refine W.eff rfl rfl rfl (Ef.call rfl (rStands_sp s p ha hc hs c b.length L1 (h.le hg.1) hok hhk hcc)) ?_
  rintro _ _ _ ⟨_, rfl, rfl, hg2⟩
  refine W.go 99 rfl ?_
  rename_i L2
  have hol := opt_len (hs := hs) (so := true) (each := each) (c := c) hok
  rw [← hopt, List.length_append] at hol
  obtain ⟨ad, cap, rfl, -⟩ := hg2.slice
  refine W.eff rfl rfl rfl (Ef.grow rfl rfl rfl rfl rfl rfl rfl rfl rfl encSt_len encSt_sg (hg.le hg2.1) (ls := standsS s hs c) (.sl (hg2.at encSt_len).2 encSt_len rfl) (by omega)) ?_
  rintro _ _ _ ⟨v', rfl, rfl, hg3, -⟩
  refine W.go 99 rfl ?_
  rename_i L3
  have hg3 : Grow L0 2 30 encSt L3 v' ((if (!each) = true then [none1] else []) ++ standsS s hs c) := hg3
  rw [← List.length_append] at hol
  rw [hopt] at hg3 hol
  have ho1 : ∀ a ∈ optS s hs true each c, PlanV s (b ++ [a]) := fun a ha => planV_snoc hv hbl ha
  rw [plansG_step hf hcc] at r
  generalize optS s hs true each c = o at hg3 hol ho1 r
  clear hopt
  obtain ⟨la, lc, rfl, -⟩ := hg3.slice
  have ho3 := (hg3.at encSt_len).2
  refine W.loop (fun m E B L' => ∃ (i : Nat) (v : Value) (F : LH) (rs : List (Rw Stand)), m = o.length - i ∧ i ≤ o.length ∧ Le L3 F ∧ rs.map Prod.snd = (o.take i).flatMap (fun a => plansG s hs each (b ++ [a])) ∧ Grow F 1 41 encRw L' v rs ∧ (∀ x ∈ rs, RwOk F 2 encSt x) ∧
    E = [(1, .v (.slice ha hs.length hc)), (2, .v (.bool each)), (3, .v (.slice ba b.length bc)), (4, .p 0 0), (9, .v (.slice la o.length lc)), (10, .v v), (11, .v (.int .i64 i))] ∧ B = [some ⟨cellsS (.v (stA s p)), 25⟩])
   ⟨0, _, L3, [], rfl, by omega, Le.refl _, rfl, Grow.nil (Le.refl _), (fun x hx => by cases hx), rfl, rfl⟩ (by exact ⟨rfl, rfl, rfl, rfl, rfl, rfl, rfl, trivial⟩) (by exact ⟨rfl, trivial⟩) ?_
  rintro _ _ _ L4 ⟨i, v, F, rs, rfl, hi, hLF, hrs, hgr, hrk, rfl, rfl⟩ again
  have hF4 := hgr.1
  refine W.go 99 rfl ?_
  refine W.split rfl rfl rfl (fun e4 => W.go 99 rfl ?_) (fun e4 => W.go 99 rfl ?_)
  ·have hio : i < o.length := by simpa using e4
   obtain ⟨a, hai⟩ : ∃ a, o[i]? = some a := ⟨_, List.getElem?_eq_getElem hio⟩
   obtain ⟨la', rfl⟩ := ho3.addr hio
   have hrl : rs.length ≤ 13 * 2197 := by
    have h1 := congrArg List.length hrs
    rw [List.length_map] at h1
    have h2 := flatMap_le (f := fun a => plansG s hs each (b ++ [a])) (k := 2197) (o.take i) fun x _ => plansG_len hok
    rw [List.length_take] at h2
    have h3 : min i o.length * 2197 ≤ 13 * 2197 := Nat.mul_le_mul_right _ (by omega)
    omega
   have hLF0 : Le L0 F := hg3.1.trans hLF
   refine W.drawn (by kernel_rfl) F hF4 ?_
   refine DD.run' [0, 1, 2, 3, 4, 5, 7, 8] rfl ?_
   refine DD.vf 9 rfl rfl rfl rfl rfl (Vf.idx rfl rfl rfl rfl rfl rfl (hio)) ?_
   refine DD.vf 10 rfl rfl rfl rfl rfl (Vf.loadN rfl rfl rfl ((ho3.le hLF).whole hai rfl)) ?_
   refine DD.run' [11] rfl ?_
   refine DD.act 6 rfl rfl rfl rfl rfl (Ef.pub 48 (.inr ⟨_, _, _, rfl⟩) rfl rfl (fun b1 hb1 _ => Ef.grow rfl rfl rfl rfl rfl rfl rfl rfl rfl encSt_len encSt_sg (Grow.new (Le.put hb1 _) (put_same _ _ _) hb1) (ls := b) (.sl ((hb.le (hLF0.trans hF4)).le (Le.put hb1 _)) encSt_len rfl) (by simp; omega))) ((by rintro _ _ _ ⟨b1, hb1, _, _, rfl, rfl, hg, _⟩; exact ⟨hF4.trans hg.1, rfl, .inl rfl⟩)) ?_
   rintro _ _ _ ⟨b1, hb1, _, v1, rfl, rfl, hg1, -⟩
   rw [List.nil_append] at hg1
   refine DD.act 12 rfl rfl rfl rfl rfl (Ef.grow rfl rfl rfl rfl rfl rfl rfl rfl rfl encSt_len encSt_sg hg1 (ls := [a]) (.own rfl rfl rfl rfl) (by simp; omega)) ((by rintro _ _ _ ⟨_, rfl, rfl, hg, _⟩; exact ⟨hF4.trans hg.1, rfl, .inl rfl⟩)) ?_
   rintro _ _ _ ⟨v2, rfl, rfl, hg2, -⟩
   rename_i L5
   have hg2 : Grow L4 2 30 encSt L5 v2 (b ++ [a]) := hg2
   obtain ⟨xa, xc, rfl, -⟩ := hg2.slice
   obtain ⟨F5, hFF5, hF5L, hx5, hf5⟩ := hg2.foot encSt_len hF4
   have hrec := (ih (n - 1) (by omega) xa xc (b ++ [a]) F5 (by simp; omega) (h.le (hLF0.trans hFF5)) hx5 (ho1 a (List.mem_of_getElem? hai))).frame hF5L
   rw [← hX] at hrec
   refine DD.act 13 rfl rfl rfl rfl rfl (Ef.call rfl hrec) ((by rintro _ _ _ ⟨_, _, rfl, L1', hq, hp⟩; exact ⟨(hFF5.trans hq.hle).trans hp.le, rfl, .inl rfl⟩)) ?_
   rintro _ _ _ ⟨_, rfl, rfl, F6, ⟨J, rs2, hJ, hrs2, hgr2, hrk2⟩, hp⟩
   rename_i L6 _
   have hgr6 : Grow F6 1 41 encRw L6 v rs := (hgr.rebase hg2.1 hF5L hf5).call hp
   obtain ⟨ra, rc, rfl, -⟩ := hgr2.slice
   have hFF6 : Le F F6 := hFF5.trans (hJ.trans hgr2.1)
   have hrl2 : rs2.length ≤ 2197 := by
    have h1 := congrArg List.length hrs2
    rw [List.length_map] at h1
    have h2 := plansG_len (hs := hs) hok (each := each) (b := b ++ [a])
    omega
   refine DD.act 14 rfl rfl rfl rfl rfl (Ef.grow rfl rfl rfl rfl rfl rfl rfl rfl rfl encRw_len encRw_sg hgr6 (ls := rs2) (.sl ((hgr2.at encRw_len).2.le hp.le) encRw_len rfl) (by omega)) ((by rintro _ _ _ ⟨_, rfl, rfl, hg, _⟩; exact ⟨hFF6.trans hg.1, rfl, .inl rfl⟩)) ?_
   rintro _ _ _ ⟨v3, rfl, rfl, hgr7, -⟩
   refine DD.run' [15] rfl ?_
   refine .fin rfl ?_
   refine W.go 99 rfl ?_
   refine W.again (again _ _ _ _ (by omega) ⟨i + 1, v3, F6, rs ++ rs2, rfl, by omega, hLF.trans hFF6, ?_, hgr7, ?_, rfl, rfl⟩) ⟨rfl, rfl, rfl, rfl, rfl, rfl, congrArg some (inc64 (by omega)), trivial⟩ ⟨rfl, trivial⟩
   ·obtain ⟨_, rfl⟩ := List.getElem?_eq_some_iff.1 hai
    rw [List.map_append, hrs, hrs2, List.take_succ_eq_append_getElem hio, List.flatMap_append, List.flatMap_singleton]
   ·intro x hx
    rcases List.mem_append.1 hx with hx | hx
    ·exact (hrk x hx).le hFF6
    ·exact (hrk2 x hx).le hgr2.1
  ·have hie : i = o.length := by simp at e4; omega
   rw [hie, List.take_length] at hrs
   refine W.ret r rfl rfl ?_
   exact ⟨F, rs, hl0.trans (hg3.1.trans hLF), hrs, hgr, hrk⟩
 ·intro rest
  refine W.split rfl rfl rfl (fun e3 => ?_) (fun e3 => ?_)
  ·refine W.go 99 rfl ?_
   refine W.eff rfl rfl rfl (Ef.grow rfl rfl rfl rfl rfl rfl rfl rfl rfl encSt_len encSt_sg (Grow.nil (Le.refl L0)) (ls := [none1]) (.own rfl rfl rfl rfl) (by simp)) ?_
   rintro _ _ _ ⟨v', rfl, rfl, hg', -⟩
   refine W.go 2 rfl ?_
   exact rest _ _ _ ⟨v', by rw [if_pos (by simpa using e3)]; exact hg', ⟨rfl, rfl, rfl, rfl, rfl, trivial⟩, ⟨rfl, trivial⟩⟩
  ·refine W.go 2 rfl ?_
   exact rest _ _ _ ⟨_, by rw [if_neg (by simpa using e3)]; exact Grow.nil (Le.refl _), ⟨rfl, rfl, rfl, rfl, rfl, trivial⟩, ⟨rfl, trivial⟩⟩
end
end Go.Mz


set_option maxRecDepth 100000
namespace Go.Mz
open Go.Conc Go.Proofs
variable {X : Logic Tryz.prog}
def Got {α : Type} (L : LH) (k : Nat) (enc : α → List Value) (l : List α) (v : Value) (L' : LH) : Prop := ∃ ad cap, v = .slice ad l.length cap ∧ Le L L' ∧ SlAt L' ad k enc l
theorem Got.nil {α : Type} {L L' : LH} {k : Nat} {enc : α → List Value} (h : Le L L') : Got L k enc ([] : List α) (.slice none 0 0) L' := ⟨none, 0, rfl, h, SlAt.empty⟩
theorem planV_nil {s : St} : PlanV s [] := ⟨by simp, fun a ha => by cases ha⟩
theorem open_ask0 (s : St) (hs : List Int) : openE s hs [] [] = askE s hs := by
 rw [open_ask]
 split
 ·rfl
 ·rename_i h; simp at h; simp [h]
theorem rMost_sp (s : St) (p : Pt) (ha : Option Addr) (hc : Nat) (hs : List Int) (L : LH) (h : AskAt L s p ha hs) :
  Sp X 44 [stA s p, .slice ha hs.length hc] L (fun v L' => ∃ u, v = .tuple #[u, .int .i64 (MostE s hs).2.1, .int .i64 (MostE s hs).2.2] ∧ Got L 2 encSt (MostE s hs).1 u L') := by
 unfold MostE
 rw [open_ask0]
 refine Sp.enter (n := 47) Tryz.func44 rfl rfl rfl rfl fun C hX _ hL0 r => ?_
 refine W.go 99 rfl ?_
 refine W.eff rfl rfl rfl (Ef.call rfl (asked_sp s p ha hc hs L h)) ?_
 rintro _ _ _ ⟨_, rfl, rfl, rfl, rfl⟩
 refine W.go 99 rfl ?_
 refine W.split rfl rfl rfl (fun e1 => W.go 99 rfl ?_) (fun e1 => W.go 99 rfl ?_)
 ·refine W.ret r rfl rfl ?_
  have h1 : askE s hs ≠ 0 := by simpa using e1
  rw [if_pos h1]
  exact ⟨_, rfl, Got.nil (Le.refl _)⟩
 have h1 : askE s hs = 0 := by simpa using e1
 rw [if_neg (by rw [h1]; simp)] at r
 obtain ⟨hok, hhk⟩ := ask_ok h1
 have hc3 := hok.c3
 refine W.eff rfl rfl rfl (Ef.call rfl (rPlans_sp s p ha hc hs false hok hhk _ none 0 [] L rfl h SlAt.empty planV_nil)) ?_
 rintro _ _ _ ⟨_, rfl, rfl, hg⟩
 refine W.go 99 rfl ?_
 rename_i L1 _
 rw [plansG_nil hok] at hg
 have hlen : ∀ x ∈ plansS s hs allC false, x.length ≤ 3 := fun x hx => by have := plan_len hx; omega
 have hll := plans_lenX (hs := hs) hok (each := false)
 have hne := plans_ne hok hs allC
 have hmost : ∀ y, firstMin negC (plansS s hs allC false) = some y → mostS s hs = y := fun y hy => by
  unfold mostS
  change (firstMin negC _).getD [] = _
  rw [hy]; rfl
 generalize plansS s hs allC false = l at hg hlen hll hne hmost
 obtain ⟨ad, cap, rfl⟩ := hg.slice
 have hrows := hg.at.2
 have hl0 : 0 < l.length := List.length_pos_iff.2 hne
 obtain ⟨a, rfl⟩ := hrows.addr hl0
 refine W.loop (fun m E B L' => ∃ (i b : Nat), m = l.length - i ∧ i ≤ l.length ∧ b < l.length ∧ (∀ y, l[b]? = some y → (i = 0 ∧ b = 0) ∨ firstMin negC (l.take i) = some y) ∧ L1 = L' ∧
   E = [(8, .v (.slice (some a) l.length cap)), (9, .v (.int .i64 b)), (10, .v (.int .i64 i))] ∧ B = [])
  ⟨0, 0, rfl, by omega, hl0, fun y hy => .inl ⟨rfl, rfl⟩, rfl, rfl, rfl⟩ (by exact ⟨rfl, rfl, rfl, trivial⟩) trivial ?_
 rintro _ _ _ _ ⟨i, b, rfl, hi, hb, hinv, rfl, rfl, rfl⟩ again
 obtain ⟨y, hy⟩ : ∃ y, l[b]? = some y := ⟨_, List.getElem?_eq_getElem hb⟩
 obtain ⟨ya, yc, hyc, hys⟩ := hrows.row hy
 have hyl := hlen y (List.mem_of_getElem? hy)
 have hyn := cnt_le y
 refine W.go 99 rfl ?_
 refine W.split rfl rfl rfl (fun e2 => W.go 99 rfl ?_) (fun e2 => W.go 99 rfl ?_)
 ·have hil : i < l.length := by simpa using e2
  obtain ⟨x, hx⟩ : ∃ x, l[i]? = some x := ⟨_, List.getElem?_eq_getElem hil⟩
  obtain ⟨xa, xc, hxc, hxs⟩ := hrows.row hx
  have hxl := hlen x (List.mem_of_getElem? hx)
  have hnext := best_next (f := negC) hx hy (hinv y hy)
  refine W.drawn (by kernel_rfl) _ (Le.refl _) ?_
  refine DD.run' [0, 1, 5, 6] rfl ?_
  refine DD.vf 2 rfl rfl rfl rfl rfl (Vf.idx1 rfl rfl rfl rfl rfl rfl rfl (hil)) ?_
  refine DD.vf 3 rfl rfl rfl rfl rfl (Vf.load rfl rfl rfl (hxc)) ?_
  refine DD.vf 7 rfl rfl rfl rfl rfl (Vf.idx1 rfl rfl rfl rfl rfl rfl rfl (hb)) ?_
  refine DD.vf 8 rfl rfl rfl rfl rfl (Vf.load rfl rfl rfl (hyc)) ?_
  refine DD.act 4 rfl rfl rfl rfl rfl (Ef.call rfl (rCount_sp xa xc x L1 hxs (by omega))) (by rintro _ _ _ ⟨_, rfl, rfl, rfl, rfl⟩; exact ⟨Le.refl _, rfl, .inl rfl⟩) ?_
  rintro _ _ _ ⟨_, rfl, rfl, rfl, rfl⟩
  refine DD.act 9 rfl rfl rfl rfl rfl (Ef.call rfl (rCount_sp ya yc y L1 hys (by omega))) (by rintro _ _ _ ⟨_, rfl, rfl, rfl, rfl⟩; exact ⟨Le.refl _, rfl, .inl rfl⟩) ?_
  rintro _ _ _ ⟨_, rfl, rfl, rfl, rfl⟩
  refine DD.run' [10] rfl ?_
  refine .fin rfl ?_
  refine W.go 99 rfl ?_
  refine W.split rfl rfl rfl (fun e3 => W.go 99 rfl ?_) (fun e3 => W.go 99 rfl ?_)
  ·have hlt : negC x < negC y := by unfold negC; simp at e3; omega
   rw [if_pos hlt] at hnext
   exact W.again (again _ _ _ _ (by omega) ⟨i + 1, i, rfl, by omega, hil, fun z hz => .inr (by rw [hx] at hz; cases hz; exact hnext), rfl, rfl, rfl⟩) ⟨rfl, rfl, congrArg some (inc64 (by omega)), trivial⟩ trivial
  ·have hlt : ¬ negC x < negC y := by unfold negC; simp at e3; omega
   rw [if_neg hlt] at hnext
   exact W.again (again _ _ _ _ (by omega) ⟨i + 1, b, rfl, by omega, hb, fun z hz => .inr (by rw [hy] at hz; cases hz; exact hnext), rfl, rfl, rfl⟩) ⟨rfl, rfl, congrArg some (inc64 (by omega)), trivial⟩ trivial
 ·have hie : i = l.length := by simp at e2; omega
  have hfin : firstMin negC l = some y := by
   rcases hinv y hy with ⟨h0, _⟩ | h0
   ·omega
   ·rw [hie, List.take_length] at h0; exact h0
  refine W.drawn (by kernel_rfl) _ (Le.refl _) ?_
  refine DD.run' [0, 1, 4, 5] rfl ?_
  refine DD.vf 2 rfl rfl rfl rfl rfl (Vf.idx1 rfl rfl rfl rfl rfl rfl rfl (hb)) ?_
  refine DD.vf 3 rfl rfl rfl rfl rfl (Vf.load rfl rfl rfl (hyc)) ?_
  refine DD.vf 6 rfl rfl rfl rfl rfl (Vf.idx1 rfl rfl rfl rfl rfl rfl rfl (hb)) ?_
  refine DD.vf 7 rfl rfl rfl rfl rfl (Vf.load rfl rfl rfl (hyc)) ?_
  refine DD.act 8 rfl rfl rfl rfl rfl (Ef.call rfl (rCount_sp ya yc y L1 hys (by omega))) (by rintro _ _ _ ⟨_, rfl, rfl, rfl, rfl⟩; exact ⟨Le.refl _, rfl, .inl rfl⟩) ?_
  rintro _ _ _ ⟨_, rfl, rfl, rfl, rfl⟩
  refine DD.run' [9, 10, 11] rfl ?_
  refine .fin rfl ?_
  refine W.go 99 rfl ?_
  refine W.ret r rfl rfl ?_
  rw [hmost y hfin]
  exact ⟨_, rfl, ya, yc, rfl, hg.hle, hys⟩
theorem rAll_sp (s : St) (p : Pt) (ha : Option Addr) (hc : Nat) (hs : List Int) (L : LH) (h : AskAt L s p ha hs) :
  Sp X 46 [stA s p, .slice ha hs.length hc] L (fun v L' => ∃ u, v = .tuple #[u, .int .i64 (AllE s hs).2] ∧ Got L 2 encSt (AllE s hs).1 u L') := by
 unfold AllE
 rw [open_ask0]
 refine Sp.enter (n := 23) Tryz.func46 rfl rfl rfl rfl fun C hX _ hL0 r => ?_
 refine W.go 99 rfl ?_
 refine W.eff rfl rfl rfl (Ef.call rfl (asked_sp s p ha hc hs L h)) ?_
 rintro _ _ _ ⟨_, rfl, rfl, rfl, rfl⟩
 refine W.go 99 rfl ?_
 refine W.split rfl rfl rfl (fun e1 => W.go 99 rfl ?_) (fun e1 => W.go 99 rfl ?_)
 ·refine W.ret r rfl rfl ?_
  have h1 : askE s hs ≠ 0 := by simpa using e1
  rw [if_pos h1]
  exact ⟨_, rfl, Got.nil (Le.refl _)⟩
 have h1 : askE s hs = 0 := by simpa using e1
 rw [if_neg (by rw [h1]; simp)] at r
 obtain ⟨hok, hhk⟩ := ask_ok h1
 refine W.eff rfl rfl rfl (Ef.call rfl (rPlans_sp s p ha hc hs true hok hhk _ none 0 [] L rfl h SlAt.empty planV_nil)) ?_
 rintro _ _ _ ⟨_, rfl, rfl, hg⟩
 rename_i L1 _
 rw [plansG_nil hok] at hg
 unfold allS at r
 obtain ⟨ad, cap, rfl⟩ := hg.slice
 have hrows := hg.at.2
 have hle := hg.hle
 clear hg
 generalize plansS s hs allC true = l at hrows r
 refine W.go 99 rfl ?_
 refine W.split rfl rfl rfl (fun e2 => W.go 99 rfl ?_) (fun e2 => W.go 99 rfl ?_)
 ·obtain rfl : l = [] := by cases l with | nil => rfl | cons x l => simp at e2; omega
  refine W.ret r rfl rfl ?_
  exact ⟨_, rfl, Got.nil hle⟩
 ·cases l with
  | nil => exact absurd e2 (by simp)
  | cons x l =>
   obtain ⟨a, rfl⟩ := hrows.addr (i := 0) (by simp)
   obtain ⟨xa, xc, hxc, hxs⟩ := hrows.row (i := 0) (l := x) rfl
   refine W.vf rfl rfl rfl rfl (Vf.idx1 rfl rfl rfl rfl rfl rfl rfl ((show 0 < (x :: l).length by simp))) ?_
   refine W.vf rfl rfl rfl rfl (Vf.load rfl rfl rfl (hxc)) ?_
   refine W.go 99 rfl ?_
   refine W.ret r rfl rfl ?_
   exact ⟨_, rfl, xa, xc, rfl, hle, hxs⟩
theorem each_stands {s : St} {hs : List Int} (h : Ok s) {x : List Stand} (hx : x ∈ plansS s hs allC true) : ∀ a ∈ x, isStand s a = true := fun a ha => by
 obtain ⟨h1, h2, _⟩ := (mem_plans h).1 hx
 obtain ⟨i, hi⟩ := List.mem_iff_getElem?.1 ha
 have hil : i < s.cones.length := by have := (List.getElem?_eq_some_iff.1 hi).1; omega
 have := h2 i _ a (List.getElem?_eq_getElem hil) hi
 unfold optS at this
 simp [allC] at this
 obtain ⟨k, d, hk, hd, rfl⟩ := mem_grid.1 (List.mem_filter.1 this).1
 unfold isStand inB
 simp
 omega
theorem rSoon_sp (s : St) (p : Pt) (ha : Option Addr) (hc : Nat) (hs : List Int) (L : LH) (h : AskAt L s p ha hs) :
  Sp X 49 [stA s p, .slice ha hs.length hc] L (fun v L' => ∃ u, v = .tuple #[u, .int .i64 (SoonE s hs).2.1, .int .i64 (SoonE s hs).2.2] ∧ Got L 2 encSt (SoonE s hs).1 u L') := by
 unfold SoonE
 rw [open_ask0]
 refine Sp.enter (n := 56) Tryz.func49 rfl rfl rfl rfl fun C hX _ hL0 r => ?_
 refine W.go 99 rfl ?_
 refine W.eff rfl rfl rfl (Ef.call rfl (asked_sp s p ha hc hs L h)) ?_
 rintro _ _ _ ⟨_, rfl, rfl, rfl, rfl⟩
 refine W.go 99 rfl ?_
 refine W.split rfl rfl rfl (fun e1 => W.go 99 rfl ?_) (fun e1 => W.go 99 rfl ?_)
 ·refine W.ret r rfl rfl ?_
  have h1 : askE s hs ≠ 0 := by simpa using e1
  rw [if_pos h1]
  exact ⟨_, rfl, Got.nil (Le.refl _)⟩
 have h1 : askE s hs = 0 := by simpa using e1
 rw [if_neg (by rw [h1]; simp)] at r
 obtain ⟨hok, hhk⟩ := ask_ok h1
 have hc3 := hok.c3
 refine W.eff rfl rfl rfl (Ef.call rfl (rPlans_sp s p ha hc hs true hok hhk _ none 0 [] L rfl h SlAt.empty planV_nil)) ?_
 rintro _ _ _ ⟨_, rfl, rfl, hg⟩
 rename_i L1 _
 rw [plansG_nil hok] at hg
 have hlen : ∀ x ∈ plansS s hs allC true, x.length = s.cones.length ∧ ∀ a ∈ x, isStand s a = true := fun x hx => ⟨plan_len hx, each_stands hok hx⟩
 have hll := plans_lenX (hs := hs) hok (each := true)
 unfold soonS at r
 generalize plansS s hs allC true = l at hg hlen hll r
 obtain ⟨ad, cap, rfl⟩ := hg.slice
 have hrows := hg.at.2
 have h2 := h.le hg.hle
 refine W.go 99 rfl ?_
 refine W.split rfl rfl rfl (fun e9 => W.go 99 rfl ?_) (fun e9 => W.go 99 rfl ?_)
 ·obtain rfl : l = [] := by cases l with | nil => rfl | cons x l => simp at e9; omega
  refine W.ret r rfl rfl ?_
  exact ⟨_, rfl, Got.nil hg.hle⟩
 ·have hne : l ≠ [] := by rintro rfl; simp at e9
  have hl0 : 0 < l.length := List.length_pos_iff.2 hne
  obtain ⟨y0, hy0⟩ := firstMin_some (f := lastS s hs) hne
  rw [hy0] at r
  obtain ⟨a, rfl⟩ := hrows.addr hl0
  refine W.loop (fun m E B L' => ∃ (i b : Nat), m = l.length - i ∧ i ≤ l.length ∧ b < l.length ∧ (∀ y, l[b]? = some y → (i = 0 ∧ b = 0) ∨ firstMin (lastS s hs) (l.take i) = some y) ∧ L1 = L' ∧
    E = [(1, .v (.slice ha hs.length hc)), (2, .p 0 0), (8, .v (.slice (some a) l.length cap)), (9, .v (.int .i64 b)), (10, .v (.int .i64 i))] ∧ B = [some ⟨cellsS (.v (stA s p)), 25⟩])
   ⟨0, 0, rfl, by omega, hl0, fun y hy => .inl ⟨rfl, rfl⟩, rfl, rfl, rfl⟩ (by exact ⟨rfl, rfl, rfl, rfl, rfl, trivial⟩) (by exact ⟨rfl, trivial⟩) ?_
  rintro _ _ _ _ ⟨i, b, rfl, hi, hb, hinv, rfl, rfl, rfl⟩ again
  obtain ⟨y, hy⟩ : ∃ y, l[b]? = some y := ⟨_, List.getElem?_eq_getElem hb⟩
  obtain ⟨ya, yc, hyc, hys⟩ := hrows.row hy
  have hyl := hlen y (List.mem_of_getElem? hy)
  refine W.go 99 rfl ?_
  refine W.split rfl rfl rfl (fun e2 => W.go 99 rfl ?_) (fun e2 => W.go 99 rfl ?_)
  ·have hil : i < l.length := by simpa using e2
   obtain ⟨x, hx⟩ : ∃ x, l[i]? = some x := ⟨_, List.getElem?_eq_getElem hil⟩
   obtain ⟨xa, xc, hxc, hxs⟩ := hrows.row hx
   have hxl := hlen x (List.mem_of_getElem? hx)
   have hnext := best_next (f := lastS s hs) hx hy (hinv y hy)
   refine W.drawn (by kernel_rfl) _ (Le.refl _) ?_
   refine DD.run' [0, 1, 2, 3, 7, 8, 9, 10] rfl ?_
   refine DD.vf 4 rfl rfl rfl rfl rfl (Vf.idx1 rfl rfl rfl rfl rfl rfl rfl (hil)) ?_
   refine DD.vf 5 rfl rfl rfl rfl rfl (Vf.load rfl rfl rfl (hxc)) ?_
   refine DD.vf 11 rfl rfl rfl rfl rfl (Vf.idx1 rfl rfl rfl rfl rfl rfl rfl (hb)) ?_
   refine DD.vf 12 rfl rfl rfl rfl rfl (Vf.load rfl rfl rfl (hyc)) ?_
   refine DD.act 6 rfl rfl rfl rfl rfl (Ef.call rfl (rLast_sp s p ha xa hc xc hs x L1 h2 hok hhk hxs hxl.1 hxl.2)) (by rintro _ _ _ ⟨_, rfl, rfl, rfl, rfl⟩; exact ⟨Le.refl _, rfl, .inl rfl⟩) ?_
   rintro _ _ _ ⟨_, rfl, rfl, rfl, rfl⟩
   refine DD.act 13 rfl rfl rfl rfl rfl (Ef.call rfl (rLast_sp s p ha ya hc yc hs y L1 h2 hok hhk hys hyl.1 hyl.2)) (by rintro _ _ _ ⟨_, rfl, rfl, rfl, rfl⟩; exact ⟨Le.refl _, rfl, .inl rfl⟩) ?_
   rintro _ _ _ ⟨_, rfl, rfl, rfl, rfl⟩
   refine DD.run' [14] rfl ?_
   refine .fin rfl ?_
   refine W.go 99 rfl ?_
   refine W.split rfl rfl rfl (fun e3 => W.go 99 rfl ?_) (fun e3 => W.go 99 rfl ?_)
   ·have hlt : lastS s hs x < lastS s hs y := by simpa using e3
    rw [if_pos hlt] at hnext
    exact W.again (again _ _ _ _ (by omega) ⟨i + 1, i, rfl, by omega, hil, fun z hz => .inr (by rw [hx] at hz; cases hz; exact hnext), rfl, rfl, rfl⟩) ⟨rfl, rfl, rfl, rfl, congrArg some (inc64 (by omega)), trivial⟩ ⟨rfl, trivial⟩
   ·have hlt : ¬ lastS s hs x < lastS s hs y := by simpa using e3
    rw [if_neg hlt] at hnext
    exact W.again (again _ _ _ _ (by omega) ⟨i + 1, b, rfl, by omega, hb, fun z hz => .inr (by rw [hy] at hz; cases hz; exact hnext), rfl, rfl, rfl⟩) ⟨rfl, rfl, rfl, rfl, congrArg some (inc64 (by omega)), trivial⟩ ⟨rfl, trivial⟩
  ·have hie : i = l.length := by simp at e2; omega
   have hfin : firstMin (lastS s hs) l = some y := by
    rcases hinv y hy with ⟨h0, _⟩ | h0
    ·omega
    ·rw [hie, List.take_length] at h0; exact h0
   obtain rfl : y0 = y := Option.some.inj (hy0.symm.trans hfin)
   refine W.drawn (by kernel_rfl) _ (Le.refl _) ?_
   refine DD.run' [0, 1, 4, 5, 6, 7] rfl ?_
   refine DD.vf 2 rfl rfl rfl rfl rfl (Vf.idx1 rfl rfl rfl rfl rfl rfl rfl (hb)) ?_
   refine DD.vf 3 rfl rfl rfl rfl rfl (Vf.load rfl rfl rfl (hyc)) ?_
   refine DD.vf 8 rfl rfl rfl rfl rfl (Vf.idx1 rfl rfl rfl rfl rfl rfl rfl (hb)) ?_
   refine DD.vf 9 rfl rfl rfl rfl rfl (Vf.load rfl rfl rfl (hyc)) ?_
   refine DD.act 10 rfl rfl rfl rfl rfl (Ef.call rfl (rLast_sp s p ha ya hc yc hs y0 L1 h2 hok hhk hys hyl.1 hyl.2)) (by rintro _ _ _ ⟨_, rfl, rfl, rfl, rfl⟩; exact ⟨Le.refl _, rfl, .inl rfl⟩) ?_
   rintro _ _ _ ⟨_, rfl, rfl, rfl, rfl⟩
   refine DD.run' [11, 12, 13] rfl ?_
   refine .fin rfl ?_
   refine W.go 99 rfl ?_
   refine W.ret r rfl rfl ?_
   exact ⟨_, rfl, ya, yc, rfl, hg.hle, hys⟩
end Go.Mz


set_option maxRecDepth 100000
namespace Go.Mz
open Go.Conc Go.Proofs
theorem plan3 {s : St} {hs : List Int} {so : Nat → Bool} {each : Bool} {x : List Stand} (h : askE s hs = 0) (hx : x ∈ plansS s hs so each) : x.length ≤ 3 := by
 have := plan_len hx
 have := (ask_ok h).1.c3
 omega
theorem mostE_len (s : St) (hs : List Int) : (MostE s hs).1.length ≤ 3 := by
 unfold MostE
 rw [open_ask0]
 split
 ·simp
 ·rename_i h; exact plan3 (by simpa using h) (most_mem (ask_ok (by simpa using h)).1 hs)
theorem allE_len (s : St) (hs : List Int) : (AllE s hs).1.length ≤ 3 := by
 unfold AllE
 rw [open_ask0]
 split
 ·simp
 ·rename_i h
  cases ha : allS s hs with
  | none => simp
  | some x => exact plan3 (by simpa using h) (List.mem_of_mem_head? (show x ∈ (plansS s hs allC true).head? from ha))
theorem soonE_len (s : St) (hs : List Int) : (SoonE s hs).1.length ≤ 3 := by
 unfold SoonE
 rw [open_ask0]
 split
 ·simp
 ·rename_i h
  cases ha : soonS s hs with
  | none => simp
  | some x => exact plan3 (by simpa using h) (firstMin_mem ha)
variable {Post : Value → World → Prop} {W0 : World}
theorem SmM_run (s : St) (p : Pt) (c : Cone) (ha : Option Addr) (hc : Nat) (hs : List Int) (na : Option Addr) (nc : Nat) (nums : List Int) (L : LH) (hst : StAt L s p) (hh : IntsAt L ha hs) (hn : IntsAt L na nums) (hgl : GlOk L) (hl2 : nums.length ≤ 140737488355328)
    (hQ : ∀ v L' w, (v = .bool true ∧ Dim L L') → Sub L' w → Same W0 w → Post v w) :
    FGo Tryz.prog Post W0 (G (Frame.enter Tryz.prog 8 [stA s p, .agg (encCo c).toArray, .slice ha hs.length hc, .slice na nums.length nc].toArray .normal) []) L := by
  refine root_enter (n := 173) (s := 8) Tryz.func8 rfl rfl (by kernel_rfl) rfl rfl hQ fun C hX _ hL0 r => ?_
  refine W.go 99 rfl ?_
  refine W.eff rfl rfl rfl (Ef.call rfl (vast_sp s p L)) ?_
  rintro _ _ _ ⟨_, rfl, rfl, rfl, rfl⟩
  refine W.go 99 rfl ?_
  have drd : ∀ L2, GlOk L2 → Sp C.X 21 [] L2 (fun v L' => v = .bool true ∧ Dim L2 L') := fun L2 h => by rw [hX]; exact dried_sp L2 h
  refine W.split rfl rfl rfl (fun e1 => W.go 99 rfl ?_) (fun e1 => W.go 99 rfl ?_)
  · refine W.eff rfl rfl rfl (Ef.call rfl (drd L hgl)) ?_
    rintro _ _ _ ⟨_, rfl, rfl, rfl, hdm⟩
    refine W.go 99 rfl ?_
    refine W.retO r rfl ⟨rfl, hdm⟩
  refine W.split rfl rfl rfl (fun e2 => W.go 99 rfl ?_) (fun e2 => W.go 99 rfl ?_)
  · refine W.eff rfl rfl rfl (Ef.call rfl (drd L hgl)) ?_
    rintro _ _ _ ⟨_, rfl, rfl, rfl, hdm⟩
    refine W.go 99 rfl ?_
    refine W.retO r rfl ⟨rfl, hdm⟩
  have h20 : hs.length ≤ 20 := by simp at e2; omega
  obtain ⟨v1, v2⟩ := vast_no e1
  refine W.drawn (by kernel_rfl) _ (Le.refl _) ?_
  refine DD.run' [0, 1, 2, 3] rfl ?_
  refine DD.act 4 rfl rfl rfl rfl rfl (Ef.call rfl ((NewHat_sp na nc nums L hn))) ((by rintro _ _ _ ⟨_, rfl, rfl, b, rfl, _, hle, _⟩; exact ⟨hle, rfl, .inl rfl⟩)) ?_
  rintro _ _ _ ⟨_, rfl, rfl, b, rfl, hb, hle1, hh1⟩
  rename_i L1
  have hb1 := le_but hb hle1
  refine DD.act 5 rfl rfl rfl rfl rfl (Ef.call rfl ((sev_sp s p c ha hc hs b na nc nums 0 L1 (hst.le hb1) (hh.le hb1) hh1 (by omega) hl2 v1 v2 h20))) ((by rintro _ _ _ ⟨_, rfl, rfl, own, p1, t, ta, tc, cs2, p2, ba, bb, m, rfl, ho, ht, hc2, hm, hh2, hle2, hsev⟩; exact ⟨hb1.trans hle2, rfl, .inl rfl⟩)) ?_
  rintro _ _ _ ⟨_, rfl, rfl, own, p1, t, ta, tc, cs2, p2, ba, bb, m, rfl, ho, ht, hc2, hm, hh2, hle2, hsev⟩
  rename_i L2
  have hgl2 := hgl.le (hb1.trans (but_but hle2))
  refine DD.run' [6, 7, 8, 9, 10] rfl ?_
  refine .fin rfl ?_
  refine W.go 99 rfl ?_
  have hL2 : Le L (L2.but b) := hb1.trans (but_but hle2)
  generalize hSs : [(s, p), (own, p1), ({ own with cones := cs2 }, p2), (own, p1)] = Ss at hsev
  generalize hHs : [((ha, hs.length, hc), hs), ((ta, t.length, tc), t), ((ta, t.length, tc), t), ((ha, hs.length, hc), hs)] = Hs at hsev
  have nS : Ss.length = 4 := by rw [← hSs]; rfl
  have nH : Hs.length = 4 := by rw [← hHs]; rfl
  refine W.loop (fun w E B L' => ∃ k : Nat, w = 4 - k ∧ k ≤ 4 ∧ Le (L2.but b) L' ∧ E = [(9, .v (.slice (some ⟨ba, 0, none⟩) 4 4)), (10, .v (.slice (some ⟨bb, 0, none⟩) 4 4)), (11, .v (.int .i64 k))] ∧ B = [])
    ⟨0, rfl, by omega, but_le _ _, rfl, rfl⟩ (by exact ⟨rfl, rfl, rfl, trivial⟩) (by exact trivial) ?_
  rintro _ _ _ L9 ⟨k, rfl, hk, hl9, rfl, rfl⟩ again
  refine W.go 99 rfl ?_
  refine W.split rfl rfl rfl (fun e3 => W.go 99 rfl ?_) (fun e3 => W.go 99 rfl ?_)
  · have hk4 : k < 4 := by have : (k : Int) < 4 := by simpa using e3
                           omega
    obtain ⟨⟨sk, pk⟩, hx⟩ : ∃ x, Ss[k]? = some x := ⟨_, List.getElem?_eq_getElem (by omega)⟩
    obtain ⟨⟨⟨hk1, hk2, hk3⟩, hks⟩, hy⟩ : ∃ x, Hs[k]? = some x := ⟨_, List.getElem?_eq_getElem (by omega)⟩
    have hsv := hsev.le hl9
    obtain ⟨hsk, sk1, sk2⟩ := hsv.so _ (List.mem_of_getElem? hx)
    obtain ⟨hhk, hkl, hk20⟩ := hsv.ho _ (List.mem_of_getElem? hy)
    dsimp only at hsk sk1 sk2 hhk hkl hk20
    subst hkl
    have hcl : L9.cell? ((Addr.mk bb 0 none).add (k * 1)) = some (.slice hk1 hks.length hk3) := by
      have := hsv.hs.get hy (j := 0) (v := slV (hk1, hks.length, hk3)) rfl
      simpa using this
    have m1 := mostE_len sk hks
    have m2 := allE_len sk hks
    have m3 := soonE_len sk hks
    refine W.drawn (by kernel_rfl) _ (Le.refl _) ?_
    refine DD.run' [0, 1, 5, 6, 10] rfl ?_
    refine DD.vf 2 rfl rfl rfl rfl rfl (Vf.idx rfl rfl rfl rfl rfl rfl (hk4)) ?_
    refine DD.vf 3 rfl rfl rfl rfl rfl (Vf.loadN rfl rfl rfl (hsv.ss.whole hx rfl)) ?_
    refine DD.vf 7 rfl rfl rfl rfl rfl (Vf.idx rfl rfl rfl rfl rfl rfl (hk4)) ?_
    refine DD.vf 8 rfl rfl rfl rfl rfl (Vf.load rfl rfl rfl (hcl)) ?_
    refine DD.act 4 rfl rfl rfl rfl rfl (Ef.call rfl ((DupStove_sp sk pk L9 hsk (by omega) (by omega)))) ((by rintro _ _ _ ⟨_, rfl, rfl, _, _, _, _, _, rfl, g1, g2⟩; exact ⟨g1.1.trans g2.1, rfl, .inl rfl⟩)) ?_
    rintro _ _ _ ⟨_, rfl, rfl, xa, ya, z1, z2, I1, rfl, hg1, hg2⟩
    rename_i L10
    have hl10 := hg1.1.trans hg2.1
    have hst10 : StAt L10 sk ⟨xa, ya, z1, z2⟩ := ⟨(hg1.at encSh_len).2.le hg2.1, (hg2.at encCo_len).2, by omega, by omega⟩
    refine DD.act 9 rfl rfl rfl rfl rfl (Ef.call rfl ((DupInts_sp hk1 hk3 hks L10 (hhk.le hl10) (by omega)))) ((by rintro _ _ _ ⟨_, rfl, rfl, g3⟩; exact ⟨hl10.trans g3.1, rfl, .inl rfl⟩)) ?_
    rintro _ _ _ ⟨vx, rfl, rfl, hg3⟩
    obtain ⟨wa, wc, rfl, _⟩ := hg3.slice
    have hi11 := (hg3.at encI_len).2
    have hl11 := hl10.trans hg3.1
    refine DD.act 11 rfl rfl rfl rfl rfl (Ef.sto rfl) (by rintro _ _ _ ⟨rfl, rfl, rfl⟩; exact ⟨hl11, rfl, .inr rfl⟩) ?_
    rintro _ _ L11 ⟨rfl, rfl, rfl⟩
    refine DD.run' [12] rfl ?_
    refine .fin rfl ?_
    refine W.go 99 rfl ?_
    have hst11 := hst10.le hg3.1
    have hask : ∀ {L'}, Le L11 L' → AskAt L' sk ⟨xa, ya, z1, z2⟩ wa hks := fun hl => ⟨hst11.le hl, hi11.le hl, hgl2.le (hl9.trans (hl11.trans hl)), by omega⟩
    have hask2 : ∀ {L'}, Le L11 L' → AskAt L' sk pk hk1 hks := fun hl => ⟨hsk.le (hl11.trans hl), hhk.le (hl11.trans hl), hgl2.le (hl9.trans (hl11.trans hl)), by omega⟩
    have hss : ∀ {L'}, Le L11 L' → _ := fun {L'} hl => (hsv.ss.le (hl11.trans hl)).whole (L := L') hx rfl
    have hcc : ∀ {L'}, Le L11 L' → _ := fun {L'} hl => (hl11.trans hl).cell (L' := L') hcl
    refine W.eff rfl rfl rfl (Ef.call rfl (Most_sp sk ⟨xa, ya, z1, z2⟩ wa wc hks L11 (hask (Le.refl _)))) ?_
    rintro _ _ _ ⟨_, rfl, rfl, _, rfl, a1, c1, rfl, f12, s12, -⟩
    refine W.go 99 rfl ?_
    rename_i L12
    refine W.drawn (by kernel_rfl) _ (Le.refl _) ?_
    refine DD.run' [0, 1, 4, 5] rfl ?_
    refine DD.vf 2 rfl rfl rfl rfl rfl (Vf.idx rfl rfl rfl rfl rfl rfl (hk4)) ?_
    refine DD.vf 3 rfl rfl rfl rfl rfl (Vf.loadN rfl rfl rfl (hss f12)) ?_
    refine DD.vf 6 rfl rfl rfl rfl rfl (Vf.idx rfl rfl rfl rfl rfl rfl (hk4)) ?_
    refine DD.vf 7 rfl rfl rfl rfl rfl (Vf.load rfl rfl rfl (hcc f12)) ?_
    refine DD.act 8 rfl rfl rfl rfl rfl (Ef.call rfl ((rMost_sp sk pk hk1 hk3 hks L12 (hask2 f12)))) ((by rintro _ _ _ ⟨_, rfl, rfl, _, rfl, _, _, rfl, hl, _⟩; exact ⟨hl, rfl, .inl rfl⟩)) ?_
    rintro _ _ _ ⟨_, rfl, rfl, _, rfl, a2, c2, rfl, f13, s13⟩
    rename_i L13
    have h1213 := f13
    have f13 := f12.trans f13
    refine DD.run' [9, 10, 11, 12, 13, 14, 15] rfl ?_
    refine .fin rfl ?_
    refine W.go 99 rfl ?_
    refine W.eff rfl rfl rfl (Ef.call rfl (All_sp sk ⟨xa, ya, z1, z2⟩ wa wc hks L13 (hask f13))) ?_
    rintro _ _ _ ⟨_, rfl, rfl, _, rfl, a3, c3, rfl, f14, s14, -⟩
    refine W.go 99 rfl ?_
    rename_i L14
    have s12 := s12.le (h1213.trans f14)
    have s13 := s13.le f14
    have f14 := f13.trans f14
    refine W.weak (E' := [(9, .v (.slice (some ⟨ba, 0, none⟩) 4 4)), (10, .v (.slice (some ⟨bb, 0, none⟩) 4 4)), (11, .v (.int .i64 k)), (12, .p 0 0), (13, .v (.slice wa hks.length wc)), (14, .v (.slice a1 (MostE sk hks).1.length c1)), (15, .v (.int .i64 (MostE sk hks).2.1)), (16, .v (.int .i64 (MostE sk hks).2.2)), (17, .v (.slice a2 (MostE sk hks).1.length c2)), (18, .v (.int .i64 (MostE sk hks).2.1)), (19, .v (.int .i64 (MostE sk hks).2.2)), (20, .v (.slice a3 (AllE sk hks).1.length c3)), (21, .v (.int .i64 (AllE sk hks).2))]) (B' := [some ⟨cellsS (.v (stA sk ⟨xa, ya, z1, z2⟩)), 25⟩]) (by exact ⟨rfl, rfl, rfl, rfl, rfl, rfl, rfl, rfl, rfl, rfl, rfl, rfl, rfl, trivial⟩) (by exact ⟨rfl, trivial⟩) ?_
    refine W.drawn (by kernel_rfl) _ (Le.refl _) ?_
    refine DD.run' [0, 1, 4, 5] rfl ?_
    refine DD.vf 2 rfl rfl rfl rfl rfl (Vf.idx rfl rfl rfl rfl rfl rfl (hk4)) ?_
    refine DD.vf 3 rfl rfl rfl rfl rfl (Vf.loadN rfl rfl rfl (hss f14)) ?_
    refine DD.vf 6 rfl rfl rfl rfl rfl (Vf.idx rfl rfl rfl rfl rfl rfl (hk4)) ?_
    refine DD.vf 7 rfl rfl rfl rfl rfl (Vf.load rfl rfl rfl (hcc f14)) ?_
    refine DD.act 8 rfl rfl rfl rfl rfl (Ef.call rfl ((rAll_sp sk pk hk1 hk3 hks L14 (hask2 f14)))) ((by rintro _ _ _ ⟨_, rfl, rfl, _, rfl, _, _, rfl, hl, _⟩; exact ⟨hl, rfl, .inl rfl⟩)) ?_
    rintro _ _ _ ⟨_, rfl, rfl, _, rfl, a4, c4, rfl, g15, s15⟩
    rename_i L15
    refine DD.run' [9, 10, 11, 12, 13] rfl ?_
    refine .fin rfl ?_
    refine W.go 99 rfl ?_
    rw [bne_self_eq_false]
    refine W.split rfl rfl rfl (fun c => absurd c (by decide)) (fun c => ?_)
    refine W.go 99 rfl ?_
    rw [bne_self_eq_false]
    refine W.split rfl rfl rfl (fun c => absurd c (by decide)) (fun c => ?_)
    refine W.go 99 rfl ?_
    rw [bne_self_eq_false]
    refine W.split rfl rfl rfl (fun c => absurd c (by decide)) (fun c => ?_)
    refine W.go 99 rfl ?_
    have e12 := (s12.le g15)
    have e13 := (s13.le g15)
    have f15 := f14.trans g15
    refine W.eff rfl rfl rfl (Ef.call rfl (EqStands_sp a1 a2 c1 c2 (MostE sk hks).1 (MostE sk hks).1 L15 e12 e13 (by omega) (by omega))) ?_
    rintro _ _ _ ⟨_, rfl, rfl, rfl, rfl⟩
    rw [show decide ((MostE sk hks).1 = (MostE sk hks).1) = true from decide_eq_true rfl]
    refine W.go 99 rfl ?_
    refine W.split rfl rfl rfl (fun c => absurd c (by decide)) (fun c => ?_)
    refine W.go 99 rfl ?_
    refine W.eff rfl rfl rfl (Ef.call rfl (EqStands_sp a3 a4 c3 c4 (AllE sk hks).1 (AllE sk hks).1 L15 (s14.le g15) s15 (by omega) (by omega))) ?_
    rintro _ _ _ ⟨_, rfl, rfl, rfl, rfl⟩
    rw [show decide ((AllE sk hks).1 = (AllE sk hks).1) = true from decide_eq_true rfl]
    refine W.go 99 rfl ?_
    refine W.split rfl rfl rfl (fun c => absurd c (by decide)) (fun c => ?_)
    refine W.go 99 rfl ?_
    refine W.eff rfl rfl rfl (Ef.call rfl (Soonest_sp sk ⟨xa, ya, z1, z2⟩ wa wc hks L15 (hask f15))) ?_
    rintro _ _ _ ⟨_, rfl, rfl, _, rfl, a5, c5, rfl, g16, s16, -⟩
    refine W.go 99 rfl ?_
    rename_i L16
    have f16 := f15.trans g16
    refine W.weak (E' := [(9, .v (.slice (some ⟨ba, 0, none⟩) 4 4)), (10, .v (.slice (some ⟨bb, 0, none⟩) 4 4)), (11, .v (.int .i64 k)), (12, .p 0 0), (13, .v (.slice wa hks.length wc)), (14, .v (.slice a5 (SoonE sk hks).1.length c5)), (15, .v (.int .i64 (SoonE sk hks).2.1)), (16, .v (.int .i64 (SoonE sk hks).2.2))]) (B' := [some ⟨cellsS (.v (stA sk ⟨xa, ya, z1, z2⟩)), 25⟩]) (by exact ⟨rfl, rfl, rfl, rfl, rfl, rfl, rfl, rfl, trivial⟩) (by exact ⟨rfl, trivial⟩) ?_
    refine W.drawn (by kernel_rfl) _ (Le.refl _) ?_
    refine DD.run' [0, 1, 4, 5] rfl ?_
    refine DD.vf 2 rfl rfl rfl rfl rfl (Vf.idx rfl rfl rfl rfl rfl rfl (hk4)) ?_
    refine DD.vf 3 rfl rfl rfl rfl rfl (Vf.loadN rfl rfl rfl (hss f16)) ?_
    refine DD.vf 6 rfl rfl rfl rfl rfl (Vf.idx rfl rfl rfl rfl rfl rfl (hk4)) ?_
    refine DD.vf 7 rfl rfl rfl rfl rfl (Vf.load rfl rfl rfl (hcc f16)) ?_
    refine DD.act 8 rfl rfl rfl rfl rfl (Ef.call rfl ((rSoon_sp sk pk hk1 hk3 hks L16 (hask2 f16)))) ((by rintro _ _ _ ⟨_, rfl, rfl, _, rfl, _, _, rfl, hl, _⟩; exact ⟨hl, rfl, .inl rfl⟩)) ?_
    rintro _ _ _ ⟨_, rfl, rfl, _, rfl, a6, c6, rfl, g17, s17⟩
    rename_i L17
    have f17 := f16.trans g17
    refine DD.run' [9, 10, 11, 12, 13, 14, 15] rfl ?_
    refine .fin rfl ?_
    refine W.go 99 rfl ?_
    refine W.drawn (by kernel_rfl) _ (Le.refl _) ?_
    refine DD.run' [0, 1, 2, 3] rfl ?_
    rw [bne_self_eq_false]
    refine DD.split 143 rfl (fun c => absurd c (by decide)) (fun _ => ?_)
    refine DD.run' [4, 5, 6, 7, 8] rfl ?_
    rw [bne_self_eq_false]
    refine DD.split 148 rfl (fun c => absurd c (by decide)) (fun _ => ?_)
    refine DD.run' [9, 10] rfl ?_
    refine DD.act 11 rfl rfl rfl rfl rfl (Ef.call rfl (EqStands_sp a5 a6 c5 c6 (SoonE sk hks).1 (SoonE sk hks).1 L17 (s16.le g17) s17 (by omega) (by omega))) (by rintro _ _ _ ⟨_, rfl, rfl, rfl, rfl⟩; exact ⟨Le.refl _, rfl, .inl rfl⟩) ?_
    rintro _ _ _ ⟨_, rfl, rfl, rfl, rfl⟩
    rw [show decide ((SoonE sk hks).1 = (SoonE sk hks).1) = true from decide_eq_true rfl]
    refine DD.run' [12, 13, 14] rfl ?_
    refine DD.split 154 rfl (fun c => absurd c (by decide)) (fun _ => ?_)
    refine DD.run' [15, 16, 17] rfl ?_
    refine DD.vf 18 rfl rfl rfl rfl rfl (Vf.idx rfl rfl rfl rfl rfl rfl (hk4)) ?_
    refine DD.vf 19 rfl rfl rfl rfl rfl (Vf.loadN rfl rfl rfl (hss f17)) ?_
    refine DD.act 20 rfl rfl rfl rfl rfl (Ef.call rfl (EqStoves_sp sk ⟨xa, ya, z1, z2⟩ pk L17 (hask f17).st (hask2 f17).st)) (by rintro _ _ _ ⟨_, rfl, rfl, rfl, rfl⟩; exact ⟨Le.refl _, rfl, .inl rfl⟩) ?_
    rintro _ _ _ ⟨_, rfl, rfl, rfl, rfl⟩
    refine DD.run' [21, 22, 23] rfl ?_
    refine DD.split 163 rfl (fun c => absurd c (by decide)) (fun _ => ?_)
    refine DD.run' [24, 25, 26] rfl ?_
    refine DD.vf 27 rfl rfl rfl rfl rfl (Vf.idx rfl rfl rfl rfl rfl rfl (hk4)) ?_
    refine DD.vf 28 rfl rfl rfl rfl rfl (Vf.load rfl rfl rfl (hcc f17)) ?_
    refine DD.act 29 rfl rfl rfl rfl rfl (Ef.call rfl (EqInts_sp wa hk1 wc hk3 hks hks L17 (hask f17).he (hask2 f17).he (by omega) (by omega))) (by rintro _ _ _ ⟨_, rfl, rfl, rfl, rfl⟩; exact ⟨Le.refl _, rfl, .inl rfl⟩) ?_
    rintro _ _ _ ⟨_, rfl, rfl, rfl, rfl⟩
    rw [show decide (hks = hks) = true from decide_eq_true rfl]
    refine DD.run' [30, 31] rfl ?_
    refine .fin rfl ?_
    refine W.go 99 rfl ?_
    refine W.split rfl rfl rfl (fun c => absurd c (by decide)) (fun c => ?_)
    refine W.go 99 rfl ?_
    exact W.again (again _ _ _ _ (by omega) ⟨k + 1, rfl, by omega, hl9.trans (hl11.trans f17), rfl, rfl⟩) (by exact ⟨rfl, rfl, congrArg some (inc64 (by omega)), trivial⟩) (by exact trivial)
  · refine W.eff rfl rfl rfl (Ef.call rfl (drd L9 (hgl2.le hl9))) ?_
    rintro _ _ _ ⟨_, rfl, rfl, rfl, hdm⟩
    refine W.go 99 rfl ?_
    exact W.retO r rfl ⟨rfl, (Dim.of_le (hL2.trans hl9)).trans hdm⟩
end Go.Mz

