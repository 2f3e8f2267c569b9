/- Lemmas on which the claim leans. -/
import Derived.Test.YtnhckcgdmolgcaaGreatDoorMzAv
set_option maxRecDepth 100000
namespace Go.Mz
open Go Go.Conc Go.Proofs
def plansG (s : St) (hs : List Int) (each : Bool) (b : List Stand) : List (List Stand) := if fitsS s hs b then grow (fitsS s hs) ((optsS s hs allC each).drop b.length) b else []
section
variable {s : St} {hs : List Int} {each : Bool} {b : List Stand}
end
def heatsG (s : St) (b : List Int) : List (List Int) := (heatsAll s.top s.rise (s.days.toNat - b.length) (b.getLast?.getD s.now)).map (b ++ ·)
section
variable {s : St} {b : List Int}
end
def fireStep (s : St) (b : Option (List Int)) (x : List Int) : Option (List Int) := if canS s x then takeLess sumL b x else b
theorem heatsAll_mem {top rise : Int} : ∀ {n : Nat} {b : Int} {l : List Int}, l ∈ heatsAll top rise n b → l.length = n ∧ ∀ x ∈ l, 0 ≤ x ∧ x ≤ top
 | 0, b, l, h => by
  simp only [heatsAll, List.mem_singleton] at h
  subst h
  exact ⟨rfl, fun x hx => by cases hx⟩
 | n + 1, b, l, h => by
  simp only [heatsAll, List.mem_flatMap, List.mem_map, List.mem_range] at h
  obtain ⟨y, hy, t, ht, rfl⟩ := h
  obtain ⟨h1, h2⟩ := heatsAll_mem ht
  refine ⟨by simp [h1], fun x hx => ?_⟩
  rcases List.mem_cons.1 hx with rfl | hx
  ·omega
  ·exact h2 x hx
end Go.Mz


set_option maxRecDepth 100000
namespace Go.Mz
open Go
theorem fireE_len (s : St) : (FireE s).1.length ≤ 4 := by
 unfold FireE
 split
 ·simp
 ·rename_i h0
  have hok := ok_iff.1 (by simpa using h0)
  cases hf : fireS s with
  | none => simp
  | some l =>
   have hm := firstMin_mem hf
   obtain ⟨h1, _⟩ := heatsAll_mem (List.mem_filter.1 hm).1
   have := hok.d4
   simp only; omega
theorem fireE_none {s : St} (h : Ok s) (hf : fireS s = none) : FireE s = ([], 0, 11) := by unfold FireE; rw [if_neg (by rw [ok_iff.2 h]; simp), hf]
theorem fireE_some {s : St} {l : List Int} (h : Ok s) (hf : fireS s = some l) : FireE s = (l, sumL l, 0) := by unfold FireE; rw [if_neg (by rw [ok_iff.2 h]; simp), hf]
end Go.Mz


namespace Go.Mz
open Go
theorem mem_grow {fit : List Stand → Bool} : ∀ {os : List (List Stand)} {b x : List Stand}, x ∈ grow fit os b ↔ ∃ t, x = b ++ t ∧ t.length = os.length ∧ (∀ (i : Nat) (o : List Stand) (a : Stand), os[i]? = some o → t[i]? = some a → a ∈ o) ∧ ∀ i, i < t.length → fit (b ++ t.take (i + 1)) = true
 | [], b, x => by
  simp only [grow, List.mem_singleton]
  constructor
  ·rintro rfl; exact ⟨[], by simp, rfl, fun i o a h => by simp at h, fun i h => by simp at h⟩
  ·rintro ⟨t, rfl, h, _⟩
   obtain rfl := List.length_eq_zero_iff.1 h
   simp
 | o :: os, b, x => by
  simp only [grow, List.mem_flatMap]
  constructor
  ·rintro ⟨a, ha, hx⟩
   by_cases hf : fit (b ++ [a]) = true
   ·rw [if_pos hf] at hx
    obtain ⟨t, rfl, h1, h2, h3⟩ := mem_grow.1 hx
    refine ⟨a :: t, by simp, by simp [h1], fun i o' a' ho ha' => ?_, fun i hi => ?_⟩
    ·cases i with
     | zero => simp at ho ha'; subst ho; subst ha'; exact ha
     | succ i => exact h2 i o' a' (by simpa using ho) (by simpa using ha')
    ·cases i with
     | zero => simpa using hf
     | succ i => have := h3 i (by simpa using hi); simpa using this
   ·rw [if_neg hf] at hx; cases hx
  ·rintro ⟨t, rfl, h1, h2, h3⟩
   cases t with
   | nil => simp at h1
   | cons a t =>
    have hf : fit (b ++ [a]) = true := by have := h3 0 (by simp); simpa using this
    refine ⟨a, h2 0 o a rfl rfl, ?_⟩
    rw [if_pos hf]
    refine mem_grow.2 ⟨t, by simp, by simpa using h1, fun i o' a' ho ha' => h2 (i + 1) o' a' (by simpa using ho) (by simpa using ha'), fun i hi => ?_⟩
    have := h3 (i + 1) (by simpa using hi)
    simpa using this
theorem filter_le {α : Type} {p q : α → Bool} {l : List α} (h : ∀ x ∈ l, p x = true → q x = true) : (l.filter p).length ≤ (l.filter q).length := by
 rw [← List.countP_eq_length_filter, ← List.countP_eq_length_filter]
 exact List.countP_mono_left h
theorem fits_iff {s : St} {hs : List Int} {l : List Stand} : fitsS s hs l = true ↔ ∀ k, k < s.shelves.length → ∀ d, d < s.days.toNat → ((onS s hs l k d).length : Int) ≤ roomOf s k := by
 unfold fitsS
 simp only [List.all_eq_true, List.mem_range, decide_eq_true_eq]
theorem on_mono {s : St} {hs : List Int} {l m : List Stand} {k d : Nat} : (onS s hs l k d).length ≤ (onS s hs (l ++ m) k d).length := by
 unfold onS
 refine filter_le fun i _ h => ?_
 unfold onB at h ⊢
 cases hl : l[i]? with
 | none => rw [hl] at h; cases h
 | some a =>
  have : (l ++ m)[i]? = some a := by rw [List.getElem?_append_left (List.getElem?_eq_some_iff.1 hl).1]; exact hl
  rw [hl] at h
  rw [this]
  exact h
theorem fits_pre {s : St} {hs : List Int} {l m : List Stand} (h : fitsS s hs (l ++ m) = true) : fitsS s hs l = true := by
 rw [fits_iff] at h ⊢
 intro k hk d hd
 have h1 := h k hk d hd
 have h2 := on_mono (s := s) (hs := hs) (l := l) (m := m) (k := k) (d := d)
 omega
theorem mem_plans {s : St} (h : Ok s) {hs : List Int} {so : Nat → Bool} {each : Bool} {x : List Stand} :
  x ∈ plansS s hs so each ↔ x.length = s.cones.length ∧ (∀ (i : Nat) (c : Cone) (a : Stand), s.cones[i]? = some c → x[i]? = some a → a ∈ optS s hs (so i) each c) ∧ fitsS s hs x = true := by
 unfold plansS
 rw [mem_grow]
 constructor
 ·rintro ⟨t, ht, h1, h2, h3⟩
  have ht : x = t := by simpa using ht
  subst ht
  rw [opts_len] at h1
  refine ⟨h1, fun i c a hc ha => h2 i _ a (opts_get hc) ha, ?_⟩
  cases ht : x.length with
  | zero =>
   obtain rfl := List.length_eq_zero_iff.1 ht
   exact fits_nil h hs
  | succ m =>
   have := h3 m (by omega)
   rw [List.take_of_length_le (by omega)] at this
   exact this
 ·rintro ⟨h1, h2, h3⟩
  refine ⟨x, rfl, by rw [opts_len]; exact h1, fun i o a ho ha => ?_, fun i hi => ?_⟩
  ·have hi : i < s.cones.length := by
    have := (List.getElem?_eq_some_iff.1 ho).1
    rw [opts_len] at this; exact this
   have hc : s.cones[i]? = some s.cones[i] := List.getElem?_eq_getElem hi
   rw [opts_get hc] at ho
   cases ho
   exact h2 i _ a hc ha
  ·refine fits_pre (m := x.drop (i + 1)) ?_
   rw [List.nil_append, List.take_append_drop]
   exact h3
theorem most_mem {s : St} (h : Ok s) (hs : List Int) : mostS s hs ∈ plansS s hs allC false := by
 obtain ⟨y, hy⟩ := firstMin_some (f := fun p => - cnt p) (plans_ne h hs allC)
 unfold mostS
 rw [hy]
 exact firstMin_mem hy
theorem most_max {s : St} (h : Ok s) {hs : List Int} {x : List Stand} (hx : x ∈ plansS s hs allC false) : cnt x ≤ cnt (mostS s hs) := by
 obtain ⟨y, hy⟩ := firstMin_some (f := fun p => - cnt p) (plans_ne h hs allC)
 have := firstMin_le hy x hx
 unfold mostS
 rw [hy]
 simp only [Option.getD_some]
 omega
end Go.Mz


namespace Go.Mz
open Go
structure Harder (c c' : Cone) : Prop where
 cold : c.cold ≤ c'.cold
 jump : c.jump ≤ c'.jump
 most : c.most ≤ c'.most
 wet : c'.wet ≤ c.wet
theorem Harder.refl (c : Cone) : Harder c c := ⟨Int.le_refl _, Int.le_refl _, Int.le_refl _, Int.le_refl _⟩
structure Wider (s s' : St) : Prop where
 sh : s'.shelves.length = s.shelves.length
 lift : ∀ k, liftOf s' k = liftOf s k
 room : ∀ k, k < s.shelves.length → roomOf s k ≤ roomOf s' k
 days : s'.days = s.days
 len : s'.cones.length = s.cones.length
 co : ∀ (i : Nat) c c', s.cones[i]? = some c → s'.cones[i]? = some c' → Harder c c'
theorem opt_dry {s : St} {hs : List Int} {so each : Bool} {c : Cone} {a : Stand} (h : a ∈ optS s hs so each c) : a = none1 ∨ (a ∈ grid s ∧ (fateS s hs c a).1 = 0) := by
 unfold optS at h
 rcases List.mem_append.1 h with h | h
 ·left
  split at h
  ·exact List.mem_singleton.1 h
  ·cases h
 ·right
  split at h
  ·have := List.mem_filter.1 h; exact ⟨this.1, by simpa using this.2⟩
  ·cases h
end Go.Mz


namespace Go.Mz
open Go
structure Renum (s s' : St) (σ : Nat → Nat) : Prop where
 sh : s'.shelves.length = s.shelves.length
 rng : ∀ k, k < s.shelves.length → σ k < s.shelves.length
 inj : ∀ j k, j < s.shelves.length → k < s.shelves.length → σ j = σ k → j = k
 sur : ∀ k, k < s.shelves.length → ∃ j, j < s.shelves.length ∧ σ j = k
 get : ∀ k, k < s.shelves.length → s'.shelves[σ k]? = s.shelves[k]?
 days : s'.days = s.days
 cones : s'.cones = s.cones
def mapSt (σ : Nat → Nat) (a : Stand) : Stand := if a.shelf < 0 then a else ⟨(σ a.shelf.toNat : Nat), a.day⟩
theorem map_none (σ : Nat → Nat) : mapSt σ none1 = none1 := rfl
theorem mem_grid {s : St} {a : Stand} : a ∈ grid s ↔ ∃ k d : Nat, k < s.shelves.length ∧ d < s.days.toNat ∧ a = ⟨k, d⟩ := by
 unfold grid
 simp only [List.mem_flatMap, List.mem_map, List.mem_range]
 constructor
 ·rintro ⟨k, hk, d, hd, rfl⟩; exact ⟨k, d, hk, hd, rfl⟩
 ·rintro ⟨k, d, hk, hd, rfl⟩; exact ⟨k, hk, d, hd, rfl⟩
theorem map_grid (σ : Nat → Nat) (k d : Nat) : mapSt σ ⟨k, d⟩ = ⟨(σ k : Nat), d⟩ := by
 unfold mapSt
 rw [if_neg (by simp only; omega)]
 simp
theorem Renum.lift {s s' : St} {σ : Nat → Nat} (r : Renum s s' σ) {k : Nat} (hk : k < s.shelves.length) : liftOf s' (σ k : Nat) = liftOf s (k : Nat) := by
 unfold liftOf
 simp only [Int.toNat_natCast]
 rw [r.get k hk]
theorem Renum.fate {s s' : St} {σ : Nat → Nat} (r : Renum s s' σ) {k : Nat} (hk : k < s.shelves.length) (hs : List Int) (c : Cone) (d : Nat) : fateS s' hs c ⟨(σ k : Nat), d⟩ = fateS s hs c ⟨k, d⟩ := by
 unfold fateS
 simp only
 rw [r.lift hk]
theorem Renum.plans {s s' : St} {σ : Nat → Nat} (r : Renum s s' σ) (h : Ok s) (h' : Ok s') {hs : List Int} {so : Nat → Bool} {each : Bool} {x : List Stand} (hx : x ∈ plansS s hs so each) : x.map (mapSt σ) ∈ plansS s' hs so each := by
 obtain ⟨h1, h2, h3⟩ := (mem_plans h).1 hx
 refine (mem_plans h').2 ⟨by rw [r.cones]; simpa using h1, fun i c a hc ha => ?_, ?_⟩
 ·rw [r.cones] at hc
  rw [List.getElem?_map] at ha
  obtain ⟨a0, ha0, rfl⟩ := Option.map_eq_some_iff.1 ha
  have := h2 i c a0 hc ha0
  unfold optS at this ⊢
  rcases List.mem_append.1 this with this | this
  ·refine List.mem_append_left _ ?_
   split at this
   ·rename_i hh
    rw [if_pos hh]
    rw [List.mem_singleton.1 this]
    exact List.mem_singleton.2 rfl
   ·cases this
  ·refine List.mem_append_right _ ?_
   split at this
   ·rename_i hso
    rw [if_pos hso]
    obtain ⟨g1, g2⟩ := List.mem_filter.1 this
    obtain ⟨k, d, hk, hd, rfl⟩ := mem_grid.1 g1
    rw [map_grid]
    refine List.mem_filter.2 ⟨mem_grid.2 ⟨σ k, d, by rw [r.sh]; exact r.rng k hk, by rw [r.days]; exact hd, rfl⟩, ?_⟩
    rw [r.fate hk]
    exact g2
   ·cases this
 ·rw [fits_iff] at h3 ⊢
  intro k' hk' d hd
  rw [r.sh] at hk'
  rw [r.days] at hd
  obtain ⟨k, hk, rfl⟩ := r.sur k' hk'
  have hon : onS s' hs (x.map (mapSt σ)) (σ k) d = onS s hs x k d := by
   unfold onS
   rw [r.cones]
   refine List.filter_congr fun i hi => ?_
   have hi := List.mem_range.1 hi
   have hc : s.cones[i]? = some s.cones[i] := List.getElem?_eq_getElem hi
   unfold onB
   rw [r.cones, hc, List.getElem?_map]
   cases ha : x[i]? with
   | none => rfl
   | some a =>
    simp only [Option.map_some]
    rcases opt_dry (h2 i _ a hc ha) with rfl | ⟨hg, _⟩
    ·have e1 : ((mapSt σ none1).shelf == ((σ k : Nat) : Int)) = false := by rw [map_none]; simp [none1]
     have e2 : (none1.shelf == ((k : Nat) : Int)) = false := by simp [none1]
     rw [e1, e2]; simp
    ·obtain ⟨j, e, hj, he, rfl⟩ := mem_grid.1 hg
     rw [map_grid, r.fate hj]
     have e1 : (((σ j : Nat) : Int) == ((σ k : Nat) : Int)) = ((j : Int) == (k : Int)) := by
      by_cases e : j = k
      ·subst e; simp
      ·have : σ j ≠ σ k := fun g => e (r.inj j k hj hk g)
       rw [beq_eq_false_iff_ne.2 (by omega), beq_eq_false_iff_ne.2 (by omega)]
     rw [e1]
  have hr : roomOf s' (σ k) = roomOf s k := by unfold roomOf; rw [r.get k hk]
  rw [hon, hr]
  exact h3 k hk d hd
theorem cnt_map {s : St} (h : Ok s) {hs : List Int} {so : Nat → Bool} {each : Bool} {x : List Stand} (hx : x ∈ plansS s hs so each) (σ : Nat → Nat) : cnt (x.map (mapSt σ)) = cnt x := by
 unfold cnt
 rw [List.countP_map]
 congr 1
 refine List.countP_congr fun a ha => ?_
 simp only [Function.comp, decide_eq_true_eq]
 unfold mapSt
 split
 ·rfl
 ·rename_i hh
  constructor
  ·intro _; omega
  ·intro _; simp only; omega
theorem Renum.inv {s s' : St} {σ : Nat → Nat} (r : Renum s s' σ) : ∃ τ, Renum s' s τ := by
 classical
 have hc : ∀ k, ∃ j, k < s.shelves.length → j < s.shelves.length ∧ σ j = k := fun k => by
  by_cases hk : k < s.shelves.length
  ·obtain ⟨j, hj⟩ := r.sur k hk; exact ⟨j, fun _ => hj⟩
  ·exact ⟨0, fun h => absurd h hk⟩
 obtain ⟨τ, hτ⟩ := Classical.axiomOfChoice hc
 refine ⟨τ, r.sh.symm, fun k hk => ?_, fun j k hj hk e => ?_, fun k hk => ?_, fun k hk => ?_, r.days.symm, r.cones.symm⟩
 ·rw [r.sh] at hk ⊢; exact (hτ k hk).1
 ·rw [r.sh] at hj hk; rw [← (hτ j hj).2, ← (hτ k hk).2, e]
 ·rw [r.sh] at hk ⊢
  exact ⟨σ k, r.rng k hk, r.inj _ _ (hτ _ (r.rng k hk)).1 hk (hτ _ (r.rng k hk)).2⟩
 ·rw [r.sh] at hk
  have := r.get (τ k) (hτ k hk).1
  rw [(hτ k hk).2] at this
  exact this.symm
theorem Renum.most {s s' : St} {σ : Nat → Nat} (r : Renum s s' σ) (h : Ok s) (h' : Ok s') (hs : List Int) : cnt (mostS s hs) = cnt (mostS s' hs) := by
 have key : ∀ {s s' : St} {σ : Nat → Nat}, Renum s s' σ → Ok s → Ok s' → cnt (mostS s hs) ≤ cnt (mostS s' hs) := fun {s s' σ} r h h' => by
  have h1 := most_mem h hs
  rw [← cnt_map h h1 σ]
  exact most_max h' (r.plans h h' h1)
 obtain ⟨τ, rτ⟩ := r.inv
 have h1 := key r h h'
 have h2 := key rτ h' h
 omega
theorem Renum.can {s s' : St} {σ : Nat → Nat} (r : Renum s s' σ) (h : Ok s) (h' : Ok s') (hs : List Int) : canS s hs = canS s' hs := by
 have key : ∀ {s s' : St} {σ : Nat → Nat}, Renum s s' σ → Ok s → Ok s' → canS s hs = true → canS s' hs = true := fun {s s' σ} r h h' hc => by
  unfold canS at hc ⊢
  cases hp : plansS s hs allC true with
  | nil => rw [hp] at hc; simp at hc
  | cons x l =>
   have hx : x ∈ plansS s hs allC true := by rw [hp]; exact List.mem_cons_self ..
   have := r.plans h h' hx
   cases hp' : plansS s' hs allC true with
   | nil => rw [hp'] at this; cases this
   | cons _ _ => rfl
 obtain ⟨τ, rτ⟩ := r.inv
 cases h1 : canS s hs with
 | true => exact (key r h h' h1).symm
 | false =>
  cases h2 : canS s' hs with
  | false => rfl
  | true => rw [key rτ h' h h2] at h1; cases h1
theorem Renum.fire {s s' : St} {σ : Nat → Nat} (r : Renum s s' σ) (h : Ok s) (h' : Ok s') (e : s'.top = s.top ∧ s'.rise = s.rise ∧ s'.now = s.now) : fireS s' = fireS s := by
 unfold fireS heatsS
 rw [e.1, e.2.1, e.2.2, r.days]
 congr 1
 exact List.filter_congr fun x _ => (r.can h h' x).symm
end Go.Mz


set_option maxRecDepth 100000
namespace Go.Mz
open Go
section
variable {s : St}
def setSh (s : St) (k : Nat) (x : Shelf) : St := { s with shelves := s.shelves.set k x }
def setCo (s : St) (k : Nat) (x : Cone) : St := { s with cones := s.cones.set k x }
def layS (s : St) (o : List Nat) (n : Nat) : List Shelf := (List.range n).foldl (fun l i => match s.shelves[i]?, o[i]? with
 | some x, some j => l.set j x
 | _, _ => l) s.shelves
theorem layS_succ (s : St) (o : List Nat) {n j : Nat} {x : Shelf} (hx : s.shelves[n]? = some x) (hj : o[n]? = some j) : layS s o (n + 1) = (layS s o n).set j x := by
 unfold layS
 rw [List.range_succ, List.foldl_append, List.foldl_cons, List.foldl_nil, hx, hj]
theorem layS_len (s : St) (o : List Nat) : ∀ n, (layS s o n).length = s.shelves.length
 | 0 => rfl
 | n + 1 => by
  have ih := layS_len s o n
  unfold layS at ih ⊢
  rw [List.range_succ, List.foldl_append, List.foldl_cons, List.foldl_nil]
  split
  ·rw [List.length_set]; exact ih
  ·exact ih
structure Perm (n : Nat) (o : List Nat) : Prop where
 p : o.Perm (List.range n)
theorem Perm.len {n : Nat} {o : List Nat} (h : Perm n o) : o.length = n := by rw [h.p.length_eq, List.length_range]
theorem Perm.lt {n : Nat} {o : List Nat} (h : Perm n o) : ∀ j ∈ o, j < n := fun j hj => List.mem_range.1 (h.p.mem_iff.1 hj)
theorem Perm.nd {n : Nat} {o : List Nat} (h : Perm n o) : o.Nodup := h.p.nodup_iff.2 List.nodup_range
theorem Perm.sur {n : Nat} {o : List Nat} (h : Perm n o) {k : Nat} (hk : k < n) : ∃ i, i < n ∧ o[i]? = some k := by
 have hm : k ∈ o := h.p.mem_iff.2 (List.mem_range.2 hk)
 obtain ⟨i, hi⟩ := List.mem_iff_getElem?.1 hm
 exact ⟨i, by have := (List.getElem?_eq_some_iff.1 hi).1; rw [h.len] at this; exact this, hi⟩
theorem Perm.inj {n : Nat} {o : List Nat} (h : Perm n o) {i j k : Nat} (hi : o[i]? = some k) (hj : o[j]? = some k) : i = j := by
 obtain ⟨h1, e1⟩ := List.getElem?_eq_some_iff.1 hi
 obtain ⟨h2, e2⟩ := List.getElem?_eq_some_iff.1 hj
 exact (List.getElem_inj h.nd).1 (e1.trans e2.symm)
theorem layS_get {o : List Nat} (h : Perm s.shelves.length o) : ∀ {n : Nat}, n ≤ s.shelves.length → ∀ {i j : Nat}, i < n → o[i]? = some j → (layS s o n)[j]? = s.shelves[i]?
 | 0, _, i, j, hi, _ => absurd hi (by omega)
 | n + 1, hn, i, j, hi, hj => by
  have hx : s.shelves[n]? = some s.shelves[n] := List.getElem?_eq_getElem (by omega)
  have hon : o[n]? = some (o[n]'(by rw [h.len]; omega)) := List.getElem?_eq_getElem _
  rw [layS_succ s o hx hon]
  by_cases e : i = n
  ·subst e
   rw [hon] at hj
   cases hj
   rw [List.getElem?_set_self (by rw [layS_len]; exact h.lt _ (List.getElem_mem _)), hx]
  ·rw [List.getElem?_set_ne (fun e2 => e (h.inj hj (by rw [← e2]; exact hon)))]
   exact layS_get h (by omega) (by omega) hj
theorem lay_renum (h : Ok s) {o : List Nat} (hp : Perm s.shelves.length o) : Ok { s with shelves := layS s o s.shelves.length } ∧ Renum s { s with shelves := layS s o s.shelves.length } (fun i => o[i]?.getD 0) := by
 have hg : ∀ i, i < s.shelves.length → o[i]? = some (o[i]?.getD 0) := fun i hi => by
  rw [List.getElem?_eq_getElem (by rw [hp.len]; exact hi)]; rfl
 refine ⟨{ h with s1 := by have := h.s1; rw [layS_len]; exact this, s3 := by have := h.s3; rw [layS_len]; exact this, sh := fun x hx => ?_ }, ?_⟩
 ·obtain ⟨j, hj⟩ := List.mem_iff_getElem?.1 hx
  have hjl := (List.getElem?_eq_some_iff.1 hj).1
  rw [layS_len] at hjl
  obtain ⟨i, hi, ho⟩ := hp.sur hjl
  rw [layS_get hp (Nat.le_refl _) hi ho] at hj
  exact h.sh x (List.mem_of_getElem? hj)
 ·refine ⟨layS_len s o _, fun k hk => hp.lt _ (List.mem_of_getElem? (hg k hk)), fun j k hj hk e => ?_, fun k hk => ?_, fun k hk => layS_get hp (Nat.le_refl _) hk (hg k hk), rfl, rfl⟩
  ·have h1 := hg j hj
   have h2 := hg k hk
   rw [← e] at h2
   exact hp.inj h1 h2
  ·obtain ⟨i, hi, ho⟩ := hp.sur hk
   exact ⟨i, hi, by rw [ho]; rfl⟩
theorem perm_range (n : Nat) : Perm n (List.range n) := ⟨.rfl⟩
theorem Perm.swap {n : Nat} {o : List Nat} (h : Perm n o) {i k x y : Nat} (hi : o[i]? = some x) (hk : o[k]? = some y) : Perm n ((o.set i y).set k x) := by
 obtain ⟨h1, rfl⟩ := List.getElem?_eq_some_iff.1 hi
 obtain ⟨h2, rfl⟩ := List.getElem?_eq_some_iff.1 hk
 exact ⟨(List.set_set_perm h1 h2).trans h.p⟩
end
end Go.Mz


set_option maxRecDepth 100000
namespace Go.Mz
open Go.Conc Go.Proofs
variable {X : Logic Tryz.prog}
theorem natI_set (o : List Nat) (i y : Nat) : (natI o).set i (y : Int) = natI (o.set i y) := by unfold natI; rw [List.map_set]
theorem natI_len (o : List Nat) : (natI o).length = o.length := by simp [natI]
theorem Shuffle_sp (b : Nat) (ad : Option Addr) (cap : Nat) (l : List Int) (n0 k : Nat) (L : LH) (h : HatAt L b ad cap l n0) (hn : n0 ≤ 900000) (hl : l.length ≤ 140737488355328) (hk : k ≤ 100) :
  Sp X 43 [pt b, .int .i64 k] L (fun v L' => ∃ o a c m, v = .slice a (natI o).length c ∧ Perm k o ∧ m ≤ n0 + k ∧ Le (L.but b) L' ∧ HatAt L' b ad cap l m ∧ IntsAt (L'.but b) a (natI o)) := by
 refine Sp.enter (n := 42) Tryz.func43 rfl rfl rfl rfl fun C hX _ hL0 r => ?_
 refine W.go 99 rfl ?_
 refine W.loop (fun w E B L' => ∃ (i : Nat) (v : Value), w = k - i ∧ i ≤ k ∧ Grow L 1 3 encI L' v (natI (List.range i)) ∧ E = [(0, .v (pt b)), (1, .v (.int .i64 k)), (5, .v v), (6, .v (.int .i64 i))] ∧ B = [])
  ⟨0, _, rfl, by omega, Grow.nil (Le.refl _), rfl, rfl⟩ (by exact ⟨rfl, rfl, rfl, rfl, trivial⟩) trivial ?_
 rintro _ _ _ L1 ⟨i, v, rfl, hi, hg, rfl, rfl⟩ again
 refine W.go 99 rfl ?_
 refine W.split rfl rfl rfl (fun e1 => W.go 99 rfl ?_) (fun e1 => W.go 99 rfl ?_)
 ·have hik : i < k := by simpa using e1
  refine W.eff rfl rfl rfl (Ef.grow rfl rfl rfl rfl rfl rfl rfl rfl rfl encI_len encI_sg hg (ls := [(i : Int)]) (.own rfl rfl rfl rfl) (by simp [natI]; omega)) ?_
  rintro _ _ _ ⟨v', rfl, rfl, hg2, -⟩
  refine W.go 99 rfl ?_
  exact W.again (again _ _ _ _ (by omega) ⟨i + 1, v', rfl, by omega, by rw [List.range_succ, natI_snoc]; exact hg2, rfl, rfl⟩) ⟨rfl, rfl, rfl, congrArg some (inc64 (by omega)), trivial⟩ trivial
 have hik : i = k := by simp at e1; omega
 subst hik
 clear again
 obtain ⟨hL1, ob, hown, hfr⟩ := hg
 have hh1 := h.le hL1
 refine W.loop (fun w E B L' => ∃ (q m : Nat) (o : List Nat), w = q ∧ q ≤ i ∧ m + q = n0 + i ∧ Perm i o ∧ Le (L.but b) L' ∧ HatAt L' b ad cap l m ∧ Own L' 1 3 v (natI o).length ((natI o).flatMap encI) ob ∧
   E = [(0, .v (pt b)), (5, .v v), (7, .v (.int .i64 ((q : Int) - 1)))] ∧ B = [])
  ⟨i, n0, List.range i, rfl, Nat.le_refl _, rfl, perm_range i, (but_le _ _).trans hL1, hh1, hown, rfl, rfl⟩ (by exact ⟨rfl, rfl, congrArg some (w64 rfl (by omega) (by omega)), trivial⟩) trivial ?_
 clear hown
 rintro q _ _ L2 ⟨_, m, o, rfl, hq, hm, hp, hl2, hh2, hown, rfl, rfl⟩ again
 have hol : (natI o).length = i := by rw [natI_len, hp.len]
 refine W.go 99 rfl ?_
 refine W.split rfl rfl rfl (fun e2 => W.go 99 rfl ?_) (fun e2 => W.go 99 rfl ?_)
 ·obtain ⟨q, rfl⟩ : ∃ r, q = r + 1 := ⟨q - 1, by simp at e2; omega⟩
  have hq1 : 0 < q := by simp at e2; omega
  rw [show ((q + 1 : Nat) : Int) - 1 = (q : Int) by omega]
  cases ob with
  | none => obtain ⟨_, h0, _⟩ := hown; omega
  | some bo =>
   have hbo := hfr bo rfl
   have hbb : bo ≠ b := h.off hbo
   obtain ⟨cp, ca, rfl, hL2b, hsz, hlc, hcl, hget⟩ := id hown
   refine W.eff rfl rfl rfl (Ef.call rfl (To_sp b ad cap l m q L2 hh2 (by omega) hl (by omega))) ?_
   rintro _ _ _ ⟨_, rfl, rfl, ⟨y, rfl, hy⟩, hk3, hs3⟩
   rename_i L3
   have hh3 := hh2.next hk3 hs3
   have hown3 : Own L3 1 3 (.slice (some ⟨bo, 0, none⟩) (natI o).length cp) (natI o).length ((natI o).flatMap encI) (some bo) := hown.keep fun b' hb' => by cases hb'; exact hk3 _ hbb
   have hL3b : L3 bo = some (.cells ca 3 (0, 0), true) := (hk3 _ hbb).trans hL2b
   have hiL := hown3.at encI_len
   obtain ⟨xq, hxq⟩ : ∃ x, o[q]? = some x := ⟨_, List.getElem?_eq_getElem (by rw [hp.len]; omega)⟩
   obtain ⟨xy, hxy⟩ : ∃ x, o[y]? = some x := ⟨_, List.getElem?_eq_getElem (by rw [hp.len]; omega)⟩
   have cq : L3.cell? (Addr.add ⟨bo, 0, none⟩ q) = some (.int .i64 xq) := hiL.int (by rw [natI, List.getElem?_map, hxq]; rfl)
   have cy : L3.cell? (Addr.add ⟨bo, 0, none⟩ y) = some (.int .i64 xy) := hiL.int (by rw [natI, List.getElem?_map, hxy]; rfl)
   have hqn : q < (natI o).length := by omega
   have hyn : y < (natI o).length := by omega
   refine W.go 99 rfl ?_
   refine W.drawn (by kernel_rfl) noL (noL_le _) ?_
   refine DD.run' [0, 1, 2, 3, 4, 5, 8, 9] rfl ?_
   refine DD.vf 6 rfl rfl rfl rfl rfl (Vf.idx1 rfl rfl rfl rfl rfl rfl rfl (hyn)) ?_
   refine DD.vf 10 rfl rfl rfl rfl rfl (Vf.idx1 rfl rfl rfl rfl rfl rfl rfl (hqn)) ?_
   have hx1 : Addr.add ⟨bo, 0, none⟩ q = ⟨bo, q, none⟩ := by rw [add_of, Nat.zero_add]
   have hx2 : Addr.add ⟨bo, 0, none⟩ y = ⟨bo, y, none⟩ := by rw [add_of, Nat.zero_add]
   obtain ⟨c4, hc4, hcd, hown4⟩ := hown3.set (d := q) (x := (xy : Int)) hqn
   rw [natI_set] at hown4
   obtain ⟨c5, hc5, hce, hown5⟩ := hown4.set (d := y) (x := (xq : Int)) (by rw [natI_len, List.length_set]; rw [natI_len] at hyn; exact hyn)
   rw [natI_set] at hown5
   have hp5 := hp.swap (i := q) (k := y) hxq hxy
   have hkeep : ∀ (L4 : LH) (x y : Obj), L4 = (L3.put bo x).put bo y → ∀ b', b' ≠ bo → L4 b' = L3 b' := fun L4 x y e b' hb' => by rw [e, put_ne _ _ hb', put_ne _ _ hb']
   have hkeep := hkeep _ (.cells (putRow c4 q [.int .i64 xy]) 3) (.cells (putRow c5 y [.int .i64 xq]) 3) rfl
   have fin : ∃ (q' m' : Nat) (o' : List Nat), q = q' ∧ q' ≤ i ∧ m' + q' = n0 + i ∧ Perm i o' ∧ Le (L.but b) ((L3.put bo (.cells (putRow c4 q [.int .i64 xy]) 3)).put bo (.cells (putRow c5 y [.int .i64 xq]) 3)) ∧ HatAt ((L3.put bo (.cells (putRow c4 q [.int .i64 xy]) 3)).put bo (.cells (putRow c5 y [.int .i64 xq]) 3)) b ad cap l m' ∧ Own ((L3.put bo (.cells (putRow c4 q [.int .i64 xy]) 3)).put bo (.cells (putRow c5 y [.int .i64 xq]) 3)) 1 3 (.slice (some ⟨bo, 0, none⟩) (natI o).length cp) (natI o').length ((natI o').flatMap encI) (some bo) ∧
     [(0, SV.v (pt b)), (5, SV.v (.slice (some ⟨bo, 0, none⟩) (natI o).length cp)), (7, SV.v (.int .i64 ((q : Int) - 1)))] = [(0, .v (pt b)), (5, .v (.slice (some ⟨bo, 0, none⟩) (natI o).length cp)), (7, .v (.int .i64 ((q' : Int) - 1)))] ∧ ([] : List (Option Bx)) = [] := by
    refine ⟨q, m + 1, _, rfl, by omega, by omega, hp5, fun b' x hx => ?_, ⟨?_, ?_⟩, hown5, rfl, rfl⟩
    ·have hb' : b' ≠ bo := fun e => by subst e; rw [but_get hbb, hbo] at hx; cases hx
     rw [hkeep _ hb']
     exact (but_trans hl2 (but_same hk3)) _ _ hx
    ·obtain ⟨sd, g⟩ := hh3.blk
     exact ⟨sd, by rw [hkeep _ (Ne.symm hbb)]; exact g⟩
    ·refine h.ints.le fun b' x hx => ?_
     have hb1 : b' ≠ b := fun e => by subst e; unfold LH.but at hx; rw [if_pos rfl] at hx; cases hx
     have hb' : b' ≠ bo := fun e => by subst e; rw [but_get hbb, hbo] at hx; cases hx
     rw [but_get hb1, hkeep _ hb']
     exact (but_trans hl2 (but_same hk3)) _ _ hx
   refine DD.act2 7 11 rfl rfl rfl rfl rfl rfl rfl rfl (Ef.val rfl (Vf.load rfl rfl rfl (by exact cy))) (Ef.val rfl (Vf.load rfl rfl rfl (by exact cq))) (by rintro _ _ _ ⟨rfl, rfl, rfl⟩; exact ⟨noL_le _, rfl, .inl rfl⟩) (by rintro _ _ _ ⟨rfl, rfl, rfl⟩; exact ⟨noL_le _, rfl, .inl rfl⟩) ?_ ?_
   ·rintro _ _ _ ⟨rfl, rfl, hq'⟩
    obtain rfl := hq'.symm
    refine DD.act 11 rfl rfl rfl rfl rfl (Ef.val rfl (Vf.load rfl rfl rfl (cq))) (by rintro _ _ _ ⟨rfl, rfl, rfl⟩; exact ⟨noL_le _, rfl, .inl rfl⟩) ?_
    rintro _ _ _ ⟨rfl, rfl, rfl⟩
    refine DD.vf 12 rfl rfl rfl rfl rfl (Vf.idx1 rfl rfl rfl rfl rfl rfl rfl (hqn)) ?_
    refine DD.act 13 rfl rfl rfl rfl rfl (Ef.stoF (congrArg (fun a => some (SV.v (.pointer (some a)))) hx1) ⟨_, rfl, rfl⟩ rfl hc4 rfl hcd (singles rfl)) ((by rintro _ _ _ ⟨rfl, rfl, rfl⟩; exact ⟨noL_le _, rfl, .inl rfl⟩)) ?_
    rintro _ _ _ ⟨rfl, rfl, rfl⟩
    refine DD.vf 14 rfl rfl rfl rfl rfl (Vf.idx1 rfl rfl rfl rfl rfl rfl rfl (hyn)) ?_
    refine DD.act 15 rfl rfl rfl rfl rfl (Ef.stoF (congrArg (fun a => some (SV.v (.pointer (some a)))) hx2) ⟨_, rfl, rfl⟩ rfl hc5 rfl hce (singles rfl)) ((by rintro _ _ _ ⟨rfl, rfl, rfl⟩; exact ⟨noL_le _, rfl, .inl rfl⟩)) ?_
    rintro _ _ _ ⟨rfl, rfl, rfl⟩
    refine .fin rfl ?_
    refine W.go 99 rfl ?_
    exact W.again (again _ _ _ _ (by omega) fin) (by exact ⟨rfl, rfl, congrArg some (w64 rfl (by omega) (by omega)), trivial⟩) trivial
   ·rintro _ _ _ ⟨rfl, rfl, hq'⟩
    obtain rfl := hq'.symm
    refine DD.act 7 rfl rfl rfl rfl rfl (Ef.val rfl (Vf.load rfl rfl rfl (cy))) (by rintro _ _ _ ⟨rfl, rfl, rfl⟩; exact ⟨noL_le _, rfl, .inl rfl⟩) ?_
    rintro _ _ _ ⟨rfl, rfl, rfl⟩
    refine DD.vf 12 rfl rfl rfl rfl rfl (Vf.idx1 rfl rfl rfl rfl rfl rfl rfl (hqn)) ?_
    refine DD.act 13 rfl rfl rfl rfl rfl (Ef.stoF (congrArg (fun a => some (SV.v (.pointer (some a)))) hx1) ⟨_, rfl, rfl⟩ rfl hc4 rfl hcd (singles rfl)) ((by rintro _ _ _ ⟨rfl, rfl, rfl⟩; exact ⟨noL_le _, rfl, .inl rfl⟩)) ?_
    rintro _ _ _ ⟨rfl, rfl, rfl⟩
    refine DD.vf 14 rfl rfl rfl rfl rfl (Vf.idx1 rfl rfl rfl rfl rfl rfl rfl (hyn)) ?_
    refine DD.act 15 rfl rfl rfl rfl rfl (Ef.stoF (congrArg (fun a => some (SV.v (.pointer (some a)))) hx2) ⟨_, rfl, rfl⟩ rfl hc5 rfl hce (singles rfl)) ((by rintro _ _ _ ⟨rfl, rfl, rfl⟩; exact ⟨noL_le _, rfl, .inl rfl⟩)) ?_
    rintro _ _ _ ⟨rfl, rfl, rfl⟩
    refine .fin rfl ?_
    refine W.go 99 rfl ?_
    exact W.again (again _ _ _ _ (by omega) fin) (by exact ⟨rfl, rfl, congrArg some (w64 rfl (by omega) (by omega)), trivial⟩) trivial
 ·have hq1 : q ≤ 1 := by simp at e2; omega
  obtain ⟨a, c, rfl, _⟩ := hown.slice
  refine W.ret r rfl rfl ?_
  refine ⟨o, a, c, m, rfl, hp, by omega, hl2, hh2, ?_⟩
  cases ob with
  | none => obtain ⟨_, h0, _⟩ := hown; rw [List.length_eq_zero_iff.1 h0]; exact SlAt.empty
  | some bo =>
   have hbb : bo ≠ b := h.off (hfr bo rfl)
   exact (hown.keep (L' := L2.but b) fun b' hb' => by cases hb'; exact but_get hbb).at encI_len
end Go.Mz


namespace Go.Mz
open Go
def onlyS (s : St) (l : List Nat) : St := { s with cones := l.filterMap fun i => s.cones[i]? }
section
variable {s : St} {hs : List Int}
end
end Go.Mz


set_option maxRecDepth 100000
namespace Go.Mz
open Go
section
variable {s : St} {hs : List Int}
theorem openE_e (h : Ok s) : openE s hs [] [] = heatsE s hs := by
 unfold openE
 rw [ok_iff.2 h]
 by_cases hh : heatsE s hs = 0
 ·rw [hh]; simp [firstE]
 ·simp [firstE, hh]
theorem openE_0 (h : Ok s) (hh : heatsE s hs = 0) : openE s hs [] [] = 0 := by rw [openE_e h, hh]
end
end Go.Mz


set_option maxRecDepth 100000
namespace Go.Mz
open Go.Conc Go.Proofs
theorem mostE_ok {s : St} {hs : List Int} (h : Ok s) (hh : heatsE s hs = 0) : MostE s hs = (mostS s hs, cnt (mostS s hs), 0) := by unfold MostE; rw [if_neg (by rw [openE_0 h hh]; simp)]
theorem Grow.over {α : Type} {I L L' : LH} {k : Nat} {e : TypeId} {enc : α → List Value} {v : Value} {l : List α} (h : Grow I k e enc L v l) (hL : Le L L') (hl : 0 < l.length) : ∃ bs, I bs = none ∧ L bs ≠ none ∧ Grow (L'.but bs) k e enc L' v l := by
 obtain ⟨_, ob, ho, hn⟩ := h
 cases ob with
 | none => obtain ⟨_, h, _⟩ := ho; omega
 | some bs => exact ⟨bs, hn bs rfl, ho.blk, but_le _ _, some bs, ho.le hL, fun b' hb' => by cases hb'; unfold LH.but; rw [if_pos rfl]⟩
theorem Grow.off {α : Type} {I L : LH} {k : Nat} {e : TypeId} {enc : α → List Value} {ad : Option Addr} {len cap : Nat} {l : List α} {bs : Nat} (h : Grow I k e enc L (.slice ad len cap) l) (hk : ∀ x, (enc x).length = k) (hb : I bs ≠ none) : SlAt (L.but bs) ad k enc l := by
 obtain ⟨_, ob, ho, hn⟩ := h
 obtain ⟨ad', cap', e1, _⟩ := ho.slice
 cases e1
 exact (ho.keep (L' := L.but bs) fun b' hb' => but_get (fun e => hb (by rw [← e]; exact hn b' hb'))).at hk
variable {Post : Value → World → Prop} {W0 : World}
theorem SnN_run (na : Option Addr) (nc : Nat) (nums : List Int) (L : LH) (hn : IntsAt L na nums) (hgl : GlOk L) (hl2 : nums.length ≤ 140737488355328)
  (hQ : ∀ v L' w, (v = .bool true ∧ Dim L L') → Sub L' w → Same W0 w → Post v w) :
  FGo Tryz.prog Post W0 (G (Frame.enter Tryz.prog 7 [.slice na nums.length nc].toArray .normal) []) L := by
 refine root_enter (n := 116) (s := 2) Tryz.func7 rfl rfl (by kernel_rfl) rfl rfl hQ fun C hX _ hL0 r => ?_
 have drd : ∀ L2, GlOk L2 → Sp C.X 21 [] L2 (fun v L' => v = .bool true ∧ Dim L2 L') := fun L2 h => by rw [hX]; exact dried_sp L2 h
 refine W.go 99 rfl ?_
 refine W.eff rfl rfl rfl (Ef.call rfl (NewHat_sp na nc nums L hn)) ?_
 rintro _ _ _ ⟨_, rfl, rfl, b, rfl, hb, hle1, hh1⟩
 refine W.go 99 rfl ?_
 rename_i L1
 have hb1 := le_but hb hle1
 refine W.eff rfl rfl rfl (Ef.call rfl (StoveOf_sp b na nc nums 0 2 3 L1 hh1 (by omega) hl2 (by omega) (by omega) (by omega))) ?_
 rintro _ _ _ ⟨_, rfl, rfl, s, p, m, rfl, hs, hm, hle2, hh2, hst2⟩
 refine W.go 99 rfl ?_
 rename_i L2
 have hok := hs.ok
 have o1 := hok.s1
 have o3 := hok.s3
 have hc3 := hok.c3
 have o4 := hok.d4
 have o5 := hok.d1
 refine W.eff rfl rfl rfl (Ef.call rfl (HeatsOf_sp s p b na nc nums m L2 hh2 (by omega) hl2 hok)) ?_
 rintro _ _ _ ⟨_, rfl, rfl, t, I3, m2, ht, hm2, hg3⟩
 rename_i L3 _
 have hhk := hok_of ht
 have htl := hhk.len
 obtain ⟨ta, tc, rfl, _⟩ := hg3.g.slice
 obtain ⟨sd3, hb3⟩ := hg3.hat.blk
 have ht3 := (hg3.g.sl_but encI_len hb3 (by decide)).2
 have hst3 : StAt (L3.but b) s p := hst2.le (but_but hg3.le)
 have hL3 : Le L (L3.but b) := hb1.trans (but_but (but_trans hle2 hg3.le))
 refine W.go 99 rfl ?_
 refine W.eff rfl rfl rfl (Ef.call rfl (Shuffle_sp b na nc nums m2 s.shelves.length L3 hg3.hat (by omega) hl2 (by omega))) ?_
 rintro _ _ _ ⟨_, rfl, rfl, o, oa, oc, m3, rfl, hp, hm3, hl4, hh4, ho4⟩
 rename_i L4
 have hst4 := hst3.le hl4
 have ht4 := ht3.le hl4
 have ho4 := ho4.le (but_le _ _)
 have hgl4 := hgl.le (hL3.trans hl4)
 have hol := hp.len
 have hon := natI_len o
 refine W.go 99 rfl ?_
 refine W.eff rfl rfl rfl (Ef.call rfl (DupStove_sp s p L4 hst4 (by omega) (by omega))) ?_
 rintro _ _ _ ⟨_, rfl, rfl, sa, ca, c1, c2, I5, rfl, hg1, hg2⟩
 rename_i L5
 obtain ⟨bs', hbs4, hbs5, hg5⟩ := hg1.over hg2.1 o1
 have hco5 : SlAt (L5.but bs') ca 4 encCo s.cones := hg2.off encCo_len hbs5
 have h45 : Le L4 (L5.but bs') := le_but hbs4 (hg1.1.trans hg2.1)
 have hL5 := (hL3.trans hl4).trans h45
 generalize L5.but bs' = J at hco5 hg5 h45 hL5
 refine W.go 99 rfl ?_
 refine W.loop (fun w E B L' => ∃ i : Nat, w = s.shelves.length - i ∧ i ≤ s.shelves.length ∧ Grow J 2 59 encSh L' (.slice sa s.shelves.length c1) (layS s o i) ∧
   E = [(4, .p 0 0), (5, .v (.slice ta t.length tc)), (6, .v (.slice oa (natI o).length oc)), (7, .p 1 0), (8, .v (.int .i64 i))] ∧ B = [some ⟨cellsS (.v (stA s p)), 25⟩, some ⟨cellsS (.v (stA s ⟨sa, ca, c1, c2⟩)), 25⟩])
  ⟨0, rfl, by omega, hg5, rfl, rfl⟩ (by exact ⟨rfl, rfl, rfl, rfl, rfl, trivial⟩) (by exact ⟨rfl, rfl, trivial⟩) ?_
 rintro _ _ _ L6 ⟨i, rfl, hi, hg6, rfl, rfl⟩ again
 refine W.go 99 rfl ?_
 refine W.split rfl rfl rfl (fun e1 => W.go 99 rfl ?_) (fun e1 => W.go 99 rfl ?_)
 ·have hin : i < s.shelves.length := by simp at e1; omega
  obtain ⟨x, hx⟩ : ∃ x, s.shelves[i]? = some x := ⟨_, List.getElem?_eq_getElem hin⟩
  obtain ⟨j, hj⟩ : ∃ j, o[i]? = some j := ⟨_, List.getElem?_eq_getElem (by omega)⟩
  have hjn := hp.lt j (List.mem_of_getElem? hj)
  have hll := layS_len s o i
  obtain ⟨b2, cap2, c4, hv4, hbI4, hb4, hsz4, hset4⟩ := hg6.setN (d := j) encSh_len (by omega) x
  rw [← layS_succ s o hx hj] at hset4
  obtain ⟨pa, hpa⟩ := hst4.sh.addr hin
  obtain ⟨p1, p2, n1, n2⟩ := p
  obtain rfl : p1 = some pa := hpa
  obtain ⟨oa', rfl⟩ := ho4.addr (i := i) (by omega)
  obtain rfl : sa = some ⟨b2, 0, none⟩ := by injection hv4
  have hio : i < (natI o).length := by omega
  refine W.drawn (by kernel_rfl) J hg6.1 ?_
  refine DD.run' [0, 1, 2, 3, 6, 7, 8] rfl ?_
  refine DD.vf 4 rfl rfl rfl rfl rfl (Vf.idx1 rfl rfl rfl rfl rfl rfl rfl (hio)) ?_
  refine DD.vf 5 rfl rfl rfl rfl rfl (Vf.load rfl rfl rfl ((ho4.le h45).int (x := (j : Int)) (by rw [natI, List.getElem?_map, hj]; rfl))) ?_
  refine DD.vf 9 rfl rfl rfl rfl rfl (Vf.idx rfl rfl rfl rfl rfl rfl (hin)) ?_
  refine DD.vf 10 rfl rfl rfl rfl rfl (Vf.loadN rfl rfl rfl ((hst4.sh.le h45).whole hx rfl)) ?_
  refine DD.vf 11 rfl rfl rfl rfl rfl (Vf.idx rfl rfl rfl rfl rfl rfl (hjn)) ?_
  have hx7 : (Addr.add ⟨b2, 0, none⟩ (j * 2)) = ⟨b2, j * 2, none⟩ := by rw [add_of, Nat.zero_add]
  refine DD.act 12 rfl rfl rfl rfl rfl (Ef.stoF (congrArg (fun a => some (SV.v (.pointer (some a)))) hx7) ⟨_, rfl, rfl⟩ rfl hb4 rfl hsz4 (singles rfl)) ((by rintro _ _ _ ⟨rfl, rfl, rfl⟩; exact ⟨hset4.1, rfl, .inl rfl⟩)) ?_
  rintro _ _ _ ⟨rfl, rfl, rfl⟩
  refine .fin rfl ?_
  refine W.go 99 rfl ?_
  exact W.again (again _ _ _ _ (by omega) ⟨i + 1, rfl, by omega, hset4, rfl, rfl⟩) (by exact ⟨rfl, rfl, rfl, rfl, congrArg some (inc64 (by omega)), trivial⟩) (by exact ⟨rfl, rfl, trivial⟩)
 ·have hie : i = s.shelves.length := by simp at e1; omega
  subst hie
  obtain ⟨hokx, hren⟩ := lay_renum hok hp
  have hll := layS_len s o s.shelves.length
  generalize hxe : { s with shelves := layS s o s.shelves.length } = x at hokx hren
  have htx : heatsE x t = 0 := by rw [← hxe]; exact ht
  have hmost : cnt (mostS s t) = cnt (mostS x t) := hren.most hok hokx t
  have hfire : fireS x = fireS s := hren.fire hok hokx ⟨by rw [← hxe], by rw [← hxe], by rw [← hxe]⟩
  have hval : stA s ⟨sa, ca, c1, c2⟩ = stA x ⟨sa, ca, c1, c2⟩ := by rw [← hxe]; unfold stA; rw [hll]
  have hst6 : StAt L6 s p := (hst4.le h45).le hg6.1
  have hstx : StAt L6 x ⟨sa, ca, c1, c2⟩ := by rw [← hxe]; exact ⟨(hg6.at encSh_len).2, hco5.le hg6.1, by show (layS s o s.shelves.length).length ≤ _; omega, by show s.cones.length ≤ _; omega⟩
  have hgl6 : GlOk L6 := hgl.le (hL5.trans hg6.1)
  have ht6 : IntsAt L6 ta t := (ht4.le h45).le hg6.1
  have hM1 := Most_sp (X := C.X) s p ta tc t L6 ⟨hst6, ht6, hgl6, by omega⟩
  rw [mostE_ok hok ht] at hM1
  refine W.eff rfl rfl rfl (Ef.call rfl (hM1)) ?_
  rintro _ _ _ ⟨_, rfl, rfl, _, rfl, a1, b1, rfl, f7, -, -⟩
  refine W.go 99 rfl ?_
  rename_i L7
  have hM2 := Most_sp (X := C.X) x ⟨sa, ca, c1, c2⟩ ta tc t L7 ⟨hstx.le f7, ht6.le f7, hgl6.le f7, by omega⟩
  rw [mostE_ok hokx htx, ← hval, ← hmost] at hM2
  refine W.eff rfl rfl rfl (Ef.call rfl (hM2)) ?_
  rintro _ _ _ ⟨_, rfl, rfl, _, rfl, a2, b2, rfl, f8, -, -⟩
  refine W.go 99 rfl ?_
  rename_i L8
  have f8 := f7.trans f8
  have hF1 := Fire_sp (Post := Post) (W0 := W0) s p L8 (hst6.le f8) (hgl6.le f8)
  rw [← hX] at hF1
  refine W.eff rfl rfl rfl (Ef.call rfl (hF1)) ?_
  rintro _ _ _ ⟨_, rfl, rfl, a3, b3, rfl, hi9, d9⟩
  refine W.go 99 rfl ?_
  rename_i L9
  have d9' := (Dim.of_le f8).trans d9
  have hFE : FireE x = FireE s := by
   cases hf : fireS s with
   | none => rw [fireE_none hok hf, fireE_none hokx (hfire.trans hf)]
   | some l => rw [fireE_some hok hf, fireE_some hokx (hfire.trans hf)]
  have hF2 := Fire_sp (Post := Post) (W0 := W0) x ⟨sa, ca, c1, c2⟩ L9 (d9'.st hstx) (d9'.cell hgl6)
  rw [← hX, hFE, ← hval] at hF2
  refine W.eff rfl rfl rfl (Ef.call rfl (hF2)) ?_
  rintro _ _ _ ⟨_, rfl, rfl, a4, b4, rfl, hi10, d10⟩
  refine W.go 99 rfl ?_
  rename_i L10
  have d10' := d9'.trans d10
  have hd0 : Dim L L10 := (Dim.of_le (hL5.trans hg6.1)).trans d10'
  have hfl := fireE_len s
  refine W.split rfl rfl rfl (fun _ => W.go 99 rfl ?_) (fun h => absurd h (by simp))
  refine W.split rfl rfl rfl (fun _ => W.go 99 rfl ?_) (fun h => absurd h (by simp))
  refine W.split rfl rfl rfl (fun _ => W.go 99 rfl ?_) (fun h => absurd h (by simp))
  refine W.split rfl rfl rfl (fun _ => W.go 99 rfl ?_) (fun h => absurd h (by simp))
  refine W.split rfl rfl rfl (fun _ => W.go 99 rfl ?_) (fun h => absurd h (by simp))
  have hcase : (FireE s).2.2 = 0 ∨ (FireE s).2.2 = 11 := by
   cases hf : fireS s with
   | none => rw [fireE_none hok hf]; exact .inr rfl
   | some l => rw [fireE_some hok hf]; exact .inl rfl
  rcases hcase with e | e
  ·refine W.split rfl rfl rfl (fun _ => W.go 99 rfl ?_) (fun h => absurd h (by simp [e]))
   refine W.eff rfl rfl rfl (Ef.call rfl (EqInts_sp a3 a4 b3 b4 (FireE s).1 (FireE s).1 L10 (d10.sl hi9) hi10 (by omega) (by omega))) ?_
   rintro _ _ _ ⟨_, rfl, rfl, rfl, rfl⟩
   rw [show decide ((FireE s).1 = (FireE s).1) = true from decide_eq_true rfl]
   refine W.go 99 rfl ?_
   refine W.split rfl rfl rfl (fun c => ?_) (fun c => absurd c (by decide))
   refine W.go 99 rfl ?_
   refine W.eff rfl rfl rfl (Ef.call rfl (drd L10 (d10'.cell hgl6))) ?_
   rintro _ _ _ ⟨_, rfl, rfl, rfl, hdm⟩
   refine W.go 99 rfl ?_
   exact W.retO r rfl ⟨rfl, hd0.trans hdm⟩
  ·refine W.split rfl rfl rfl (fun h => absurd h (by simp [e])) (fun _ => W.go 99 rfl ?_)
   refine W.split rfl rfl rfl (fun _ => W.go 99 rfl ?_) (fun h => absurd h (by simp [e]))
   refine W.eff rfl rfl rfl (Ef.call rfl (EqInts_sp a3 a4 b3 b4 (FireE s).1 (FireE s).1 L10 (d10.sl hi9) hi10 (by omega) (by omega))) ?_
   rintro _ _ _ ⟨_, rfl, rfl, rfl, rfl⟩
   rw [show decide ((FireE s).1 = (FireE s).1) = true from decide_eq_true rfl]
   refine W.go 99 rfl ?_
   refine W.split rfl rfl rfl (fun c => ?_) (fun c => absurd c (by decide))
   refine W.go 99 rfl ?_
   refine W.eff rfl rfl rfl (Ef.call rfl (drd L10 (d10'.cell hgl6))) ?_
   rintro _ _ _ ⟨_, rfl, rfl, rfl, hdm⟩
   refine W.go 99 rfl ?_
   exact W.retO r rfl ⟨rfl, hd0.trans hdm⟩
end Go.Mz

