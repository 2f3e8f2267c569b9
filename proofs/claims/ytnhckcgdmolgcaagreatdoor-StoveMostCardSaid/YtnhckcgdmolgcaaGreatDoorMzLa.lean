/- Lemmas on which the claim leans. -/
import Derived.Test.YtnhckcgdmolgcaaGreatDoorMzAv
set_option maxRecDepth 100000
namespace Go.Mz
open Go Go.Conc Go.Proofs
def plansG (s : St) (hs : List Int) (each : Bool) (b : List Stand) : List (List Stand) := if fitsS s hs b then grow (fitsS s hs) ((optsS s hs allC each).drop b.length) b else []
section
variable {s : St} {hs : List Int} {each : Bool} {b : List Stand}
end
def heatsG (s : St) (b : List Int) : List (List Int) := (heatsAll s.top s.rise (s.days.toNat - b.length) (b.getLast?.getD s.now)).map (b ++ ·)
section
variable {s : St} {b : List Int}
end
def fireStep (s : St) (b : Option (List Int)) (x : List Int) : Option (List Int) := if canS s x then takeLess sumL b x else b
end Go.Mz


set_option maxRecDepth 100000
namespace Go.Mz
open Go
end Go.Mz


namespace Go.Mz
open Go
theorem mem_grow {fit : List Stand → Bool} : ∀ {os : List (List Stand)} {b x : List Stand}, x ∈ grow fit os b ↔ ∃ t, x = b ++ t ∧ t.length = os.length ∧ (∀ (i : Nat) (o : List Stand) (a : Stand), os[i]? = some o → t[i]? = some a → a ∈ o) ∧ ∀ i, i < t.length → fit (b ++ t.take (i + 1)) = true
 | [], b, x => by
  simp only [grow, List.mem_singleton]
  constructor
  ·rintro rfl; exact ⟨[], by simp, rfl, fun i o a h => by simp at h, fun i h => by simp at h⟩
  ·rintro ⟨t, rfl, h, _⟩
   obtain rfl := List.length_eq_zero_iff.1 h
   simp
 | o :: os, b, x => by
  simp only [grow, List.mem_flatMap]
  constructor
  ·rintro ⟨a, ha, hx⟩
   by_cases hf : fit (b ++ [a]) = true
   ·rw [if_pos hf] at hx
    obtain ⟨t, rfl, h1, h2, h3⟩ := mem_grow.1 hx
    refine ⟨a :: t, by simp, by simp [h1], fun i o' a' ho ha' => ?_, fun i hi => ?_⟩
    ·cases i with
     | zero => simp at ho ha'; subst ho; subst ha'; exact ha
     | succ i => exact h2 i o' a' (by simpa using ho) (by simpa using ha')
    ·cases i with
     | zero => simpa using hf
     | succ i => have := h3 i (by simpa using hi); simpa using this
   ·rw [if_neg hf] at hx; cases hx
  ·rintro ⟨t, rfl, h1, h2, h3⟩
   cases t with
   | nil => simp at h1
   | cons a t =>
    have hf : fit (b ++ [a]) = true := by have := h3 0 (by simp); simpa using this
    refine ⟨a, h2 0 o a rfl rfl, ?_⟩
    rw [if_pos hf]
    refine mem_grow.2 ⟨t, by simp, by simpa using h1, fun i o' a' ho ha' => h2 (i + 1) o' a' (by simpa using ho) (by simpa using ha'), fun i hi => ?_⟩
    have := h3 (i + 1) (by simpa using hi)
    simpa using this
theorem filter_le {α : Type} {p q : α → Bool} {l : List α} (h : ∀ x ∈ l, p x = true → q x = true) : (l.filter p).length ≤ (l.filter q).length := by
 rw [← List.countP_eq_length_filter, ← List.countP_eq_length_filter]
 exact List.countP_mono_left h
theorem fits_iff {s : St} {hs : List Int} {l : List Stand} : fitsS s hs l = true ↔ ∀ k, k < s.shelves.length → ∀ d, d < s.days.toNat → ((onS s hs l k d).length : Int) ≤ roomOf s k := by
 unfold fitsS
 simp only [List.all_eq_true, List.mem_range, decide_eq_true_eq]
theorem on_mono {s : St} {hs : List Int} {l m : List Stand} {k d : Nat} : (onS s hs l k d).length ≤ (onS s hs (l ++ m) k d).length := by
 unfold onS
 refine filter_le fun i _ h => ?_
 unfold onB at h ⊢
 cases hl : l[i]? with
 | none => rw [hl] at h; cases h
 | some a =>
  have : (l ++ m)[i]? = some a := by rw [List.getElem?_append_left (List.getElem?_eq_some_iff.1 hl).1]; exact hl
  rw [hl] at h
  rw [this]
  exact h
theorem fits_pre {s : St} {hs : List Int} {l m : List Stand} (h : fitsS s hs (l ++ m) = true) : fitsS s hs l = true := by
 rw [fits_iff] at h ⊢
 intro k hk d hd
 have h1 := h k hk d hd
 have h2 := on_mono (s := s) (hs := hs) (l := l) (m := m) (k := k) (d := d)
 omega
theorem mem_plans {s : St} (h : Ok s) {hs : List Int} {so : Nat → Bool} {each : Bool} {x : List Stand} :
  x ∈ plansS s hs so each ↔ x.length = s.cones.length ∧ (∀ (i : Nat) (c : Cone) (a : Stand), s.cones[i]? = some c → x[i]? = some a → a ∈ optS s hs (so i) each c) ∧ fitsS s hs x = true := by
 unfold plansS
 rw [mem_grow]
 constructor
 ·rintro ⟨t, ht, h1, h2, h3⟩
  have ht : x = t := by simpa using ht
  subst ht
  rw [opts_len] at h1
  refine ⟨h1, fun i c a hc ha => h2 i _ a (opts_get hc) ha, ?_⟩
  cases ht : x.length with
  | zero =>
   obtain rfl := List.length_eq_zero_iff.1 ht
   exact fits_nil h hs
  | succ m =>
   have := h3 m (by omega)
   rw [List.take_of_length_le (by omega)] at this
   exact this
 ·rintro ⟨h1, h2, h3⟩
  refine ⟨x, rfl, by rw [opts_len]; exact h1, fun i o a ho ha => ?_, fun i hi => ?_⟩
  ·have hi : i < s.cones.length := by
    have := (List.getElem?_eq_some_iff.1 ho).1
    rw [opts_len] at this; exact this
   have hc : s.cones[i]? = some s.cones[i] := List.getElem?_eq_getElem hi
   rw [opts_get hc] at ho
   cases ho
   exact h2 i _ a hc ha
  ·refine fits_pre (m := x.drop (i + 1)) ?_
   rw [List.nil_append, List.take_append_drop]
   exact h3
theorem most_mem {s : St} (h : Ok s) (hs : List Int) : mostS s hs ∈ plansS s hs allC false := by
 obtain ⟨y, hy⟩ := firstMin_some (f := fun p => - cnt p) (plans_ne h hs allC)
 unfold mostS
 rw [hy]
 exact firstMin_mem hy
theorem most_max {s : St} (h : Ok s) {hs : List Int} {x : List Stand} (hx : x ∈ plansS s hs allC false) : cnt x ≤ cnt (mostS s hs) := by
 obtain ⟨y, hy⟩ := firstMin_some (f := fun p => - cnt p) (plans_ne h hs allC)
 have := firstMin_le hy x hx
 unfold mostS
 rw [hy]
 simp only [Option.getD_some]
 omega
end Go.Mz


namespace Go.Mz
open Go
structure Harder (c c' : Cone) : Prop where
 cold : c.cold ≤ c'.cold
 jump : c.jump ≤ c'.jump
 most : c.most ≤ c'.most
 wet : c'.wet ≤ c.wet
theorem Harder.refl (c : Cone) : Harder c c := ⟨Int.le_refl _, Int.le_refl _, Int.le_refl _, Int.le_refl _⟩
structure Wider (s s' : St) : Prop where
 sh : s'.shelves.length = s.shelves.length
 lift : ∀ k, liftOf s' k = liftOf s k
 room : ∀ k, k < s.shelves.length → roomOf s k ≤ roomOf s' k
 days : s'.days = s.days
 len : s'.cones.length = s.cones.length
 co : ∀ (i : Nat) c c', s.cones[i]? = some c → s'.cones[i]? = some c' → Harder c c'
theorem opt_dry {s : St} {hs : List Int} {so each : Bool} {c : Cone} {a : Stand} (h : a ∈ optS s hs so each c) : a = none1 ∨ (a ∈ grid s ∧ (fateS s hs c a).1 = 0) := by
 unfold optS at h
 rcases List.mem_append.1 h with h | h
 ·left
  split at h
  ·exact List.mem_singleton.1 h
  ·cases h
 ·right
  split at h
  ·have := List.mem_filter.1 h; exact ⟨this.1, by simpa using this.2⟩
  ·cases h
end Go.Mz


namespace Go.Mz
open Go
structure Renum (s s' : St) (σ : Nat → Nat) : Prop where
 sh : s'.shelves.length = s.shelves.length
 rng : ∀ k, k < s.shelves.length → σ k < s.shelves.length
 inj : ∀ j k, j < s.shelves.length → k < s.shelves.length → σ j = σ k → j = k
 sur : ∀ k, k < s.shelves.length → ∃ j, j < s.shelves.length ∧ σ j = k
 get : ∀ k, k < s.shelves.length → s'.shelves[σ k]? = s.shelves[k]?
 days : s'.days = s.days
 cones : s'.cones = s.cones
def mapSt (σ : Nat → Nat) (a : Stand) : Stand := if a.shelf < 0 then a else ⟨(σ a.shelf.toNat : Nat), a.day⟩
theorem map_none (σ : Nat → Nat) : mapSt σ none1 = none1 := rfl
theorem mem_grid {s : St} {a : Stand} : a ∈ grid s ↔ ∃ k d : Nat, k < s.shelves.length ∧ d < s.days.toNat ∧ a = ⟨k, d⟩ := by
 unfold grid
 simp only [List.mem_flatMap, List.mem_map, List.mem_range]
 constructor
 ·rintro ⟨k, hk, d, hd, rfl⟩; exact ⟨k, d, hk, hd, rfl⟩
 ·rintro ⟨k, d, hk, hd, rfl⟩; exact ⟨k, hk, d, hd, rfl⟩
theorem map_grid (σ : Nat → Nat) (k d : Nat) : mapSt σ ⟨k, d⟩ = ⟨(σ k : Nat), d⟩ := by
 unfold mapSt
 rw [if_neg (by simp only; omega)]
 simp
theorem Renum.lift {s s' : St} {σ : Nat → Nat} (r : Renum s s' σ) {k : Nat} (hk : k < s.shelves.length) : liftOf s' (σ k : Nat) = liftOf s (k : Nat) := by
 unfold liftOf
 simp only [Int.toNat_natCast]
 rw [r.get k hk]
theorem Renum.fate {s s' : St} {σ : Nat → Nat} (r : Renum s s' σ) {k : Nat} (hk : k < s.shelves.length) (hs : List Int) (c : Cone) (d : Nat) : fateS s' hs c ⟨(σ k : Nat), d⟩ = fateS s hs c ⟨k, d⟩ := by
 unfold fateS
 simp only
 rw [r.lift hk]
theorem Renum.plans {s s' : St} {σ : Nat → Nat} (r : Renum s s' σ) (h : Ok s) (h' : Ok s') {hs : List Int} {so : Nat → Bool} {each : Bool} {x : List Stand} (hx : x ∈ plansS s hs so each) : x.map (mapSt σ) ∈ plansS s' hs so each := by
 obtain ⟨h1, h2, h3⟩ := (mem_plans h).1 hx
 refine (mem_plans h').2 ⟨by rw [r.cones]; simpa using h1, fun i c a hc ha => ?_, ?_⟩
 ·rw [r.cones] at hc
  rw [List.getElem?_map] at ha
  obtain ⟨a0, ha0, rfl⟩ := Option.map_eq_some_iff.1 ha
  have := h2 i c a0 hc ha0
  unfold optS at this ⊢
  rcases List.mem_append.1 this with this | this
  ·refine List.mem_append_left _ ?_
   split at this
   ·rename_i hh
    rw [if_pos hh]
    rw [List.mem_singleton.1 this]
    exact List.mem_singleton.2 rfl
   ·cases this
  ·refine List.mem_append_right _ ?_
   split at this
   ·rename_i hso
    rw [if_pos hso]
    obtain ⟨g1, g2⟩ := List.mem_filter.1 this
    obtain ⟨k, d, hk, hd, rfl⟩ := mem_grid.1 g1
    rw [map_grid]
    refine List.mem_filter.2 ⟨mem_grid.2 ⟨σ k, d, by rw [r.sh]; exact r.rng k hk, by rw [r.days]; exact hd, rfl⟩, ?_⟩
    rw [r.fate hk]
    exact g2
   ·cases this
 ·rw [fits_iff] at h3 ⊢
  intro k' hk' d hd
  rw [r.sh] at hk'
  rw [r.days] at hd
  obtain ⟨k, hk, rfl⟩ := r.sur k' hk'
  have hon : onS s' hs (x.map (mapSt σ)) (σ k) d = onS s hs x k d := by
   unfold onS
   rw [r.cones]
   refine List.filter_congr fun i hi => ?_
   have hi := List.mem_range.1 hi
   have hc : s.cones[i]? = some s.cones[i] := List.getElem?_eq_getElem hi
   unfold onB
   rw [r.cones, hc, List.getElem?_map]
   cases ha : x[i]? with
   | none => rfl
   | some a =>
    simp only [Option.map_some]
    rcases opt_dry (h2 i _ a hc ha) with rfl | ⟨hg, _⟩
    ·have e1 : ((mapSt σ none1).shelf == ((σ k : Nat) : Int)) = false := by rw [map_none]; simp [none1]
     have e2 : (none1.shelf == ((k : Nat) : Int)) = false := by simp [none1]
     rw [e1, e2]; simp
    ·obtain ⟨j, e, hj, he, rfl⟩ := mem_grid.1 hg
     rw [map_grid, r.fate hj]
     have e1 : (((σ j : Nat) : Int) == ((σ k : Nat) : Int)) = ((j : Int) == (k : Int)) := by
      by_cases e : j = k
      ·subst e; simp
      ·have : σ j ≠ σ k := fun g => e (r.inj j k hj hk g)
       rw [beq_eq_false_iff_ne.2 (by omega), beq_eq_false_iff_ne.2 (by omega)]
     rw [e1]
  have hr : roomOf s' (σ k) = roomOf s k := by unfold roomOf; rw [r.get k hk]
  rw [hon, hr]
  exact h3 k hk d hd
theorem cnt_map {s : St} (h : Ok s) {hs : List Int} {so : Nat → Bool} {each : Bool} {x : List Stand} (hx : x ∈ plansS s hs so each) (σ : Nat → Nat) : cnt (x.map (mapSt σ)) = cnt x := by
 unfold cnt
 rw [List.countP_map]
 congr 1
 refine List.countP_congr fun a ha => ?_
 simp only [Function.comp, decide_eq_true_eq]
 unfold mapSt
 split
 ·rfl
 ·rename_i hh
  constructor
  ·intro _; omega
  ·intro _; simp only; omega
theorem Renum.inv {s s' : St} {σ : Nat → Nat} (r : Renum s s' σ) : ∃ τ, Renum s' s τ := by
 classical
 have hc : ∀ k, ∃ j, k < s.shelves.length → j < s.shelves.length ∧ σ j = k := fun k => by
  by_cases hk : k < s.shelves.length
  ·obtain ⟨j, hj⟩ := r.sur k hk; exact ⟨j, fun _ => hj⟩
  ·exact ⟨0, fun h => absurd h hk⟩
 obtain ⟨τ, hτ⟩ := Classical.axiomOfChoice hc
 refine ⟨τ, r.sh.symm, fun k hk => ?_, fun j k hj hk e => ?_, fun k hk => ?_, fun k hk => ?_, r.days.symm, r.cones.symm⟩
 ·rw [r.sh] at hk ⊢; exact (hτ k hk).1
 ·rw [r.sh] at hj hk; rw [← (hτ j hj).2, ← (hτ k hk).2, e]
 ·rw [r.sh] at hk ⊢
  exact ⟨σ k, r.rng k hk, r.inj _ _ (hτ _ (r.rng k hk)).1 hk (hτ _ (r.rng k hk)).2⟩
 ·rw [r.sh] at hk
  have := r.get (τ k) (hτ k hk).1
  rw [(hτ k hk).2] at this
  exact this.symm
theorem Renum.most {s s' : St} {σ : Nat → Nat} (r : Renum s s' σ) (h : Ok s) (h' : Ok s') (hs : List Int) : cnt (mostS s hs) = cnt (mostS s' hs) := by
 have key : ∀ {s s' : St} {σ : Nat → Nat}, Renum s s' σ → Ok s → Ok s' → cnt (mostS s hs) ≤ cnt (mostS s' hs) := fun {s s' σ} r h h' => by
  have h1 := most_mem h hs
  rw [← cnt_map h h1 σ]
  exact most_max h' (r.plans h h' h1)
 obtain ⟨τ, rτ⟩ := r.inv
 have h1 := key r h h'
 have h2 := key rτ h' h
 omega
theorem Renum.can {s s' : St} {σ : Nat → Nat} (r : Renum s s' σ) (h : Ok s) (h' : Ok s') (hs : List Int) : canS s hs = canS s' hs := by
 have key : ∀ {s s' : St} {σ : Nat → Nat}, Renum s s' σ → Ok s → Ok s' → canS s hs = true → canS s' hs = true := fun {s s' σ} r h h' hc => by
  unfold canS at hc ⊢
  cases hp : plansS s hs allC true with
  | nil => rw [hp] at hc; simp at hc
  | cons x l =>
   have hx : x ∈ plansS s hs allC true := by rw [hp]; exact List.mem_cons_self ..
   have := r.plans h h' hx
   cases hp' : plansS s' hs allC true with
   | nil => rw [hp'] at this; cases this
   | cons _ _ => rfl
 obtain ⟨τ, rτ⟩ := r.inv
 cases h1 : canS s hs with
 | true => exact (key r h h' h1).symm
 | false =>
  cases h2 : canS s' hs with
  | false => rfl
  | true => rw [key rτ h' h h2] at h1; cases h1
theorem Renum.fire {s s' : St} {σ : Nat → Nat} (r : Renum s s' σ) (h : Ok s) (h' : Ok s') (e : s'.top = s.top ∧ s'.rise = s.rise ∧ s'.now = s.now) : fireS s' = fireS s := by
 unfold fireS heatsS
 rw [e.1, e.2.1, e.2.2, r.days]
 congr 1
 exact List.filter_congr fun x _ => (r.can h h' x).symm
end Go.Mz


set_option maxRecDepth 100000
namespace Go.Mz
open Go
section
variable {s : St}
def setSh (s : St) (k : Nat) (x : Shelf) : St := { s with shelves := s.shelves.set k x }
def setCo (s : St) (k : Nat) (x : Cone) : St := { s with cones := s.cones.set k x }
def layS (s : St) (o : List Nat) (n : Nat) : List Shelf := (List.range n).foldl (fun l i => match s.shelves[i]?, o[i]? with
 | some x, some j => l.set j x
 | _, _ => l) s.shelves
structure Perm (n : Nat) (o : List Nat) : Prop where
 p : o.Perm (List.range n)
theorem Perm.len {n : Nat} {o : List Nat} (h : Perm n o) : o.length = n := by rw [h.p.length_eq, List.length_range]
theorem Perm.lt {n : Nat} {o : List Nat} (h : Perm n o) : ∀ j ∈ o, j < n := fun j hj => List.mem_range.1 (h.p.mem_iff.1 hj)
theorem Perm.nd {n : Nat} {o : List Nat} (h : Perm n o) : o.Nodup := h.p.nodup_iff.2 List.nodup_range
theorem Perm.sur {n : Nat} {o : List Nat} (h : Perm n o) {k : Nat} (hk : k < n) : ∃ i, i < n ∧ o[i]? = some k := by
 have hm : k ∈ o := h.p.mem_iff.2 (List.mem_range.2 hk)
 obtain ⟨i, hi⟩ := List.mem_iff_getElem?.1 hm
 exact ⟨i, by have := (List.getElem?_eq_some_iff.1 hi).1; rw [h.len] at this; exact this, hi⟩
theorem Perm.inj {n : Nat} {o : List Nat} (h : Perm n o) {i j k : Nat} (hi : o[i]? = some k) (hj : o[j]? = some k) : i = j := by
 obtain ⟨h1, e1⟩ := List.getElem?_eq_some_iff.1 hi
 obtain ⟨h2, e2⟩ := List.getElem?_eq_some_iff.1 hj
 exact (List.getElem_inj h.nd).1 (e1.trans e2.symm)
end
end Go.Mz


set_option maxRecDepth 100000
namespace Go.Mz
open Go.Conc Go.Proofs
variable {X : Logic Tryz.prog}
end Go.Mz


namespace Go.Mz
open Go
def onlyS (s : St) (l : List Nat) : St := { s with cones := l.filterMap fun i => s.cones[i]? }
section
variable {s : St} {hs : List Int}
end
end Go.Mz


set_option maxRecDepth 100000
namespace Go.Mz
open Go
section
variable {s : St} {hs : List Int}
theorem openE_e (h : Ok s) : openE s hs [] [] = heatsE s hs := by
 unfold openE
 rw [ok_iff.2 h]
 by_cases hh : heatsE s hs = 0
 ·rw [hh]; simp [firstE]
 ·simp [firstE, hh]
theorem openE_0 (h : Ok s) (hh : heatsE s hs = 0) : openE s hs [] [] = 0 := by rw [openE_e h, hh]
end
end Go.Mz


set_option maxRecDepth 100000
namespace Go.Mz
open Go.Conc Go.Proofs
theorem mostE_ok {s : St} {hs : List Int} (h : Ok s) (hh : heatsE s hs = 0) : MostE s hs = (mostS s hs, cnt (mostS s hs), 0) := by unfold MostE; rw [if_neg (by rw [openE_0 h hh]; simp)]
theorem Grow.over {α : Type} {I L L' : LH} {k : Nat} {e : TypeId} {enc : α → List Value} {v : Value} {l : List α} (h : Grow I k e enc L v l) (hL : Le L L') (hl : 0 < l.length) : ∃ bs, I bs = none ∧ L bs ≠ none ∧ Grow (L'.but bs) k e enc L' v l := by
 obtain ⟨_, ob, ho, hn⟩ := h
 cases ob with
 | none => obtain ⟨_, h, _⟩ := ho; omega
 | some bs => exact ⟨bs, hn bs rfl, ho.blk, but_le _ _, some bs, ho.le hL, fun b' hb' => by cases hb'; unfold LH.but; rw [if_pos rfl]⟩
theorem Grow.off {α : Type} {I L : LH} {k : Nat} {e : TypeId} {enc : α → List Value} {ad : Option Addr} {len cap : Nat} {l : List α} {bs : Nat} (h : Grow I k e enc L (.slice ad len cap) l) (hk : ∀ x, (enc x).length = k) (hb : I bs ≠ none) : SlAt (L.but bs) ad k enc l := by
 obtain ⟨_, ob, ho, hn⟩ := h
 obtain ⟨ad', cap', e1, _⟩ := ho.slice
 cases e1
 exact (ho.keep (L' := L.but bs) fun b' hb' => but_get (fun e => hb (by rw [← e]; exact hn b' hb'))).at hk
variable {Post : Value → World → Prop} {W0 : World}
end Go.Mz


namespace Go.Mz
open Go
end Go.Mz


namespace Go.Mz
open Go.Conc
theorem W.asLit {P : Program} {C : Cx P} {n : Nat} {ds : List Deferred} {k : List Item} {E : Env} {B : List (Option Bx)} {L : LH} (s : Nat) {sv : SV} {p : Bool} (hs : get E s = some sv) (hb : boolOf sv = some p) (w : W C n ds k ((s, .lit p) :: E) B L) : W C n ds k E B L :=
 W.bool s hs hb (fun e => by rw [e] at w; exact w) (fun e => by rw [e] at w; exact w)
end Go.Mz


set_option maxRecDepth 100000
namespace Go.Mz
open Go.Conc Go.Proofs
theorem fate_in {s : St} {hs : List Int} {i : Nat} {a : Stand} {c : Cone} (h : Ok s) (hh : heatsE s hs = 0) (hi : s.cones[i]? = some c) (ha : isStand s a = true) : FateE s hs i a = ((fateS s hs c a).1, (fateS s hs c a).2, 0) := by
 have hl := (List.getElem?_eq_some_iff.1 hi).1
 have h1 : openE s hs [(i : Int)] [] = 0 := by
  unfold openE
  rw [ok_iff.2 h, hh]
  have : inB (i : Int) 0 ((s.cones.length : Int) - 1) = true := by unfold inB; simp; omega
  simp [firstE, this]
 have hc : coneAt s i = c := by unfold coneAt; rw [Int.toNat_natCast, hi]; rfl
 unfold FateE
 rw [if_neg (by rw [h1]; simp), ha, hc]; rfl
variable {Post : Value → World → Prop} {W0 : World}
end Go.Mz


set_option maxRecDepth 100000
namespace Go.Mz
open Go.Conc Go.Proofs
theorem flat_at {α : Type} {enc : α → List Value} {k : Nat} (hk : ∀ x, (enc x).length = k) {l : List α} {d f : Nat} (hd : d < l.length) (hf : f < k) : (l.flatMap enc)[d * k + f]? = (enc l[d])[f]? := by
 have hv : (enc l[d])[f]? = some ((enc l[d])[f]'(by rw [hk]; exact hf)) := List.getElem?_eq_getElem _
 rw [flat_get hk (List.getElem?_eq_getElem hd) hv, hv]
theorem Grow.setF {α : Type} {I L : LH} {k : Nat} {e : TypeId} {enc : α → List Value} {v : Value} {l : List α} {d f : Nat} (h : Grow I k e enc L v l) (hk : ∀ x, (enc x).length = k) (hd : d < l.length) (hf : f < k) (x : α) {w : Value} (hw : (enc x)[f]? = some w) (hx : ∀ j, j ≠ f → (enc x)[j]? = (enc l[d])[j]?) :
  ∃ b cap c, v = .slice (some ⟨b, 0, none⟩) l.length cap ∧ I b = none ∧ L b = some (.cells c e (0, 0), true) ∧ d * k + f + 1 ≤ c.size ∧ Grow I k e enc (L.put b (.cells (putRow c (d * k + f) [w]) e)) v (l.set d x) := by
 obtain ⟨hI, ob, ho, hn⟩ := h
 cases ob with
 | none => obtain ⟨_, h, _⟩ := ho; omega
 | some b =>
  obtain ⟨cap, c, h1, h2, h3, h4, h5, h6⟩ := ho
  have hsz : d * k + k ≤ c.size := by
   rw [h3, ← Nat.succ_mul]
   exact Nat.mul_le_mul_right _ (by omega)
  have hb := hn b rfl
  refine ⟨b, cap, c, h1, hb, h2, by omega, fun b' y hy => ?_, some b, ⟨cap, putRow c (d * k + f) [w], ?_, put_same _ _ _, ?_, ?_, ?_, fun i y hy => ?_⟩, fun b' hb' => by cases hb'; exact hb⟩
  ·rw [put_ne _ _ (fun e => by subst e; rw [hb] at hy; cases hy)]; exact hI _ _ hy
  ·rw [List.length_set]; exact h1
  ·rw [putRow_size]; exact h3
  ·rw [List.length_set]; exact h4
  ·exact flat_len hk _
  ·rw [flat_set_get hk l d x i hd] at hy
   rw [putRow_get]
   by_cases he : i = d * k + f
   ·subst he
    rw [if_pos (by omega), show d * k + f - d * k = f by omega, hw] at hy
    cases hy
    rw [if_neg (by omega), dif_pos ⟨by simp, by omega⟩]
    simp
   ·have hold : (l.flatMap enc)[i]? = some y := by
     split at hy
     ·rename_i h7
      rw [hx _ (by omega)] at hy
      rw [show i = d * k + (i - d * k) by omega, flat_at hk hd (by omega)]
      exact hy
     ·exact hy
    have := h6 i y hold
    split
    ·exact this
    ·rw [dif_neg (by simp; omega)]; exact this
theorem SlAt.conv {α β : Type} {L : LH} {ad : Option Addr} {k : Nat} {enc : α → List Value} {enc2 : β → List Value} {l : List α} {l2 : List β} (h : SlAt L ad k enc l) (he : l2.map enc2 = l.map enc) : SlAt L ad k enc2 l2 := fun i x hx => by
 have h1 : (l2.map enc2)[i]? = some (enc2 x) := by rw [List.getElem?_map, hx]; rfl
 rw [he, List.getElem?_map] at h1
 obtain ⟨y, hy, e⟩ := Option.map_eq_some_iff.1 h1
 rw [← e]
 exact h i y hy
end Go.Mz


set_option maxRecDepth 100000
namespace Go.Mz
open Go.Conc Go.Proofs
variable {X : Logic Tryz.prog}
def q0 : Nat → Nat → Nat → Bool := fun _ _ _ => false
theorem putRow_all {c : Array Value} {vs : List Value} (h : c.size = vs.length) : putRow c 0 vs = vs.toArray := by
 apply Array.toList_inj.1
 apply List.ext_getElem?
 intro j
 rw [Array.getElem?_toList, putRow_get, if_neg (Nat.not_lt_zero _)]
 show _ = vs[j]?
 split
 ·rename_i h1
  exact (List.getElem?_eq_getElem (show j < vs.length by have := h1.1; omega)).symm
 ·rename_i h1
  rw [Array.getElem?_eq_none (by omega), List.getElem?_eq_none (by omega)]
theorem caught_sp (bq be : Nat) (q : Nat → Nat → Nat → Bool) (e e0 : Int) (hne : be ≠ bq) (L : LH) (hq : L bq = some (.cells (encQ q).toArray 148 (0, 0), true)) (he : L be = some (.cells #[.int .i64 e0] 44 (0, 0), true)) :
  SpD X 141 [.pointer (some ⟨bq, 0, none⟩), .pointer (some ⟨be, 0, none⟩)] (.panicking [pe1 (badV e)]) L (fun md L' => md = .returning ∧ L' = (L.put bq (.cells (encQ q0).toArray 148)).put be (.cells #[.int .i64 e] 44)) := by
 refine SpD.enter (n := 13) Tryz.func141 rfl rfl rfl rfl fun C hX _ hL0 r => ?_
 refine W.go 99 rfl ?_
 refine W.recoverP (sv := .v (badV e)) r rfl rfl rfl rfl fun C' hX' _ _ _ r => ?_
 refine W.go 99 rfl ?_
 refine W.split rfl rfl rfl (fun _ => W.go 99 rfl ?_) (fun h => absurd h (by simp))
 refine W.drawn (by kernel_rfl) noL (noL_le _) ?_
 refine DD.run' [0, 1, 2] rfl ?_
 refine DD.act 3 rfl rfl rfl rfl rfl (Ef.stoF rfl ⟨_, rfl, rfl⟩ rfl hq rfl (by rw [List.size_toArray, encQ_len]; exact Nat.le_refl _) (singles rfl)) (by rintro _ _ _ ⟨rfl, rfl, rfl⟩; exact ⟨noL_le _, rfl, .inl rfl⟩) ?_
 rintro _ _ _ ⟨rfl, rfl, rfl⟩
 refine DD.act 4 rfl rfl rfl rfl rfl (Ef.stoF rfl ⟨_, rfl, rfl⟩ rfl ((put_ne _ _ hne).trans he) rfl (Nat.le_refl _) (singles rfl)) (by rintro _ _ _ ⟨rfl, rfl, rfl⟩; exact ⟨noL_le _, rfl, .inl rfl⟩) ?_
 rintro _ _ _ ⟨rfl, rfl, rfl⟩
 refine .fin rfl ?_
 refine W.go 99 rfl ?_
 refine W.retD r rfl (.inl rfl) ⟨rfl, ?_⟩
 rw [putRow_all (c := (encQ q).toArray) (by rw [List.size_toArray, encQ_len]; rfl)]
 rfl
theorem calm_sp (bq be : Nat) (L : LH) :
  SpD X 141 [.pointer (some ⟨bq, 0, none⟩), .pointer (some ⟨be, 0, none⟩)] .returning L (fun md L' => md = .returning ∧ L' = L) := by
 refine SpD.enter (n := 13) Tryz.func141 rfl rfl rfl rfl fun C hX _ hL0 r => ?_
 refine W.go 99 rfl ?_
 refine W.recoverN r rfl rfl rfl ?_
 refine W.go 99 rfl ?_
 refine W.split rfl rfl rfl (fun h => absurd h (by simp)) (fun _ => W.go 99 rfl ?_)
 exact W.retD r rfl (.inl rfl) ⟨rfl, rfl⟩
theorem qOf_put {s : St} {hs : List Int} (hhk : HOk s hs) {l : List Stand} {c : Cone} {a : Stand} (hc : s.cones[l.length]? = some c) (h0 : putE s hs c a = 0) :
  (if a.shelf = -1 then qOf s hs l else qUp (qOf s hs l) a.shelf.toNat l.length a.day.toNat ((fateS s hs c a).2 + 1).toNat) = qOf s hs (l ++ [a]) := by
 by_cases e : a.shelf = -1
 ·rw [if_pos e]
  have : a.day = 0 := by
   unfold putE at h0
   rw [if_pos e] at h0
   split at h0
   ·assumption
   ·cases h0
  obtain ⟨a1, a2⟩ := a
  subst e; subst this
  exact (qOf_none s hs l).symm
 ·rw [if_neg e]
  have hst : isStand s a = true := by
   unfold putE at h0
   rw [if_neg e] at h0
   split at h0
   ·cases h0
   ·rename_i h; simpa using h
  obtain ⟨k, d0, rfl, hk, hd⟩ := stand_nat hhk hst
  have hfd := fate_day (s := s) (c := c) (k := k) (d := d0) (hs := hs) (by have := hhk.len; omega)
  simp only [Int.toNat_natCast]
  exact qOf_add s hs l hc (by omega)
theorem placed_sp (b : Nat) (s : St) (p : Pt) (ha la : Option Addr) (hc lc : Nat) (hs : List Int) (t0 t1 t2 mv : Value) (l : List Stand) (L : LH) (h : SvAt L b s p ha hc hs t0 t1 t2 mv) (hg : GlOk L) (hl : SlAt L la 2 encSt l) (hn : l.length ≤ 140737488355328) :
  Sp X 116 [.pointer (some ⟨b, 0, none⟩), .slice la l.length lc] L (fun v L' => v = .tuple #[.agg (encQ (if planE s hs l = 0 then qOf s hs l else q0)).toArray, .int .i64 (planE s hs l)] ∧ Le L L') := by
 have hc3 := h.ok.c3
 refine Sp.enter (n := 46) Tryz.func116 rfl rfl rfl rfl fun C hX _ hL0 r => ?_
 refine W.go 99 rfl ?_
 refine W.drawn (by kernel_rfl) _ (Le.refl _) ?_
 refine DD.run' [0, 1, 2, 3, 4, 5] rfl ?_
 refine DD.vf 6 rfl rfl rfl rfl rfl (Vf.load rfl rfl rfl (h.cell 1 rfl)) ?_
 refine DD.run' [7, 8, 9, 10, 11] rfl ?_
 refine DD.vf 12 rfl rfl rfl rfl rfl (Vf.load rfl rfl rfl (h.cell 1 rfl)) ?_
 refine DD.run' [13] rfl ?_
 refine DD.act 14 rfl rfl rfl rfl rfl (Ef.call rfl (sized_sp _ _ _ _)) (by rintro _ _ _ ⟨_, rfl, rfl, rfl, rfl⟩; exact ⟨Le.refl _, rfl, .inl rfl⟩) ?_
 rintro _ _ _ ⟨_, rfl, rfl, rfl, rfl⟩
 refine DD.run' [15] rfl ?_
 refine .fin rfl ?_
 refine W.go 99 rfl ?_
 refine W.split rfl rfl rfl (fun e1 => W.go 99 rfl ?_) (fun e1 => W.go 99 rfl ?_)
 ·refine W.ret r rfl rfl ?_
  have e2 : sizedE l.length s.cones.length s.cones.length ≠ 0 := by simpa using e1
  have e3 : planE s hs l = sizedE l.length s.cones.length s.cones.length := by unfold planE; rw [if_pos e2]
  rw [e3, if_neg e2]
  exact ⟨rfl, Le.refl _⟩
 have e2 : sizedE l.length s.cones.length s.cones.length = 0 := by simpa using e1
 have hln : l.length = s.cones.length := by rw [sizedE_0] at e2; omega
 have hpE : planE s hs l = if putsE s hs s.cones l ≠ 0 then putsE s hs s.cones l else if fitsS s hs l then 0 else 6 := by
  unfold planE
  rw [e2]; simp
 refine W.pub 4 (.inl ⟨_, rfl⟩) rfl rfl ?_
 intro bq hbq _
 refine W.pub 5 (.inl ⟨_, rfl⟩) rfl rfl ?_
 intro be hbe _
 have hbe' : be ≠ bq := fun e => by subst e; rw [put_same] at hbe; cases hbe
 have hbeL : L be = none := by rw [put_ne _ _ hbe'] at hbe; exact hbe
 refine W.go 99 rfl ?_
 refine W.deferV r.ro rfl rfl rfl rfl ?_
 change W C _ _ _ _ _ ((L.put bq (.cells (encQ q0).toArray 148)).put be (.cells #[.int .i64 0] 44))
 have hle1 : Le L ((L.put bq (.cells (encQ q0).toArray 148)).put be (.cells #[.int .i64 0] 44)) := le_put_none (Le.put hbq _) hbeL _
 have hq1 : ((L.put bq (.cells (encQ q0).toArray 148)).put be (.cells #[.int .i64 0] 44)) bq = some (.cells (encQ q0).toArray 148 (0, 0), true) := (put_ne _ _ hbe'.symm).trans (put_same _ _ _)
 have he1 : ((L.put bq (.cells (encQ q0).toArray 148)).put be (.cells #[.int .i64 0] 44)) be = some (.cells #[.int .i64 0] 44 (0, 0), true) := put_same _ _ _
 generalize (L.put bq (.cells (encQ q0).toArray 148)).put be (.cells #[.int .i64 0] 44) = L1 at hle1 hq1 he1 ⊢
 have bad : ∀ {E : Env} {B : List (Option Bx)} {L2 : LH} {q : Nat → Nat → Nat → Bool} (e : Int), get E 4 = some (.v (pt bq)) → get E 5 = some (.v (pt be)) → planE s hs l = e → e ≠ 0 → Le L L2 → L2 bq = some (.cells (encQ q).toArray 148 (0, 0), true) → L2 be = some (.cells #[.int .i64 0] 44 (0, 0), true) →
   WM C 46 [⟨.fn (.func 141) #[pt bq, pt be], #[]⟩] (.panicking [pe1 (badV e)]) E B L2 := by
  intro E B L2 q e h4 h5 hp h0 hl2 hq he
  refine WM.deferred rfl rfl (caught_sp bq be q e 0 hbe' L2 hq he) ?_
  rintro _ _ ⟨rfl, rfl⟩
  refine WM.ret2 r rfl h4 h5 (loadNF rfl rfl (cellsAt_n ((put_ne _ _ hbe'.symm).trans (put_same _ _ _)) (encQ_len _))) (load1F rfl (cell_of (put_same _ _ _) rfl)) ⟨?_, le_put_none (le_put_none hl2 hbq _) hbeL _⟩
  rw [hp, if_neg h0]; rfl
 refine W.go 99 rfl ?_
 refine W.loop (fun m E B L' => ∃ i : Nat, m = l.length - i ∧ i ≤ l.length ∧ Le L L' ∧ L' bq = some (.cells (encQ (qOf s hs (l.take i))).toArray 148 (0, 0), true) ∧ L' be = some (.cells #[.int .i64 0] 44 (0, 0), true) ∧ putsE s hs (s.cones.drop i) (l.drop i) = putsE s hs s.cones l ∧
   E = [(0, .v (pt b)), (4, .v (pt bq)), (5, .v (pt be)), (29, .v (.slice la l.length lc)), (30, .v (.int .i64 l.length)), (31, .v (.int .i64 i))] ∧ B = [])
  ⟨0, rfl, by omega, hle1, by rw [List.take_zero, qOf_nil]; exact hq1, he1, by simp, rfl, rfl⟩ (by exact ⟨rfl, rfl, rfl, rfl, rfl, rfl, trivial⟩) (by exact trivial) ?_
 rintro _ _ _ L2 ⟨i, rfl, h1, hle2, hq2, he2, hpp, rfl, rfl⟩ again
 refine W.go 99 rfl ?_
 refine W.split rfl rfl rfl (fun d1 => W.go 99 rfl ?_) (fun d1 => W.go 99 rfl ?_)
 ·have hi : i < l.length := by simpa using d1
  have hic : i < s.cones.length := by omega
  have hge := List.getElem?_eq_getElem hi
  have hcc : s.cones[(l.take i).length]? = some s.cones[i] := by rw [List.length_take, Nat.min_eq_left (by omega)]; exact List.getElem?_eq_getElem hic
  obtain ⟨lad, rfl⟩ := hl.addr hi
  rw [List.drop_eq_getElem_cons hi, List.drop_eq_getElem_cons hic, putsE] at hpp
  refine W.vf rfl rfl rfl rfl (Vf.idx rfl rfl rfl rfl rfl rfl (hi)) ?_
  refine W.go 99 rfl ?_
  refine W.vf rfl rfl rfl rfl (Vf.loadN rfl rfl rfl ((hl.le hle2).whole hge rfl)) ?_
  refine W.go 99 rfl ?_
  have hput := put_sp (X := C.X) b bq s p ha hc hs t0 t1 t2 mv s.cones[i] i l[i] (qOf s hs (l.take i)) (List.getElem?_eq_getElem hic) L2 (h.le hle2) (hg.le hle2) hq2
  refine W.callP rfl rfl rfl rfl (hput) ?_ ?_
  ·rintro _ L3 ⟨hp0, rfl, hq3, hk3⟩
   have hle3 : Le L L3 := fun b' x hx => hk3 b' x (fun e => by subst e; rw [hbq] at hx; cases hx) (hle2 _ _ hx)
   have hq4 := qOf_put h.hok hcc hp0
   rw [List.length_take, Nat.min_eq_left (by omega)] at hq4
   rw [hq4, show l.take i ++ [l[i]] = l.take (i + 1) by rw [List.take_add_one, hge]; rfl] at hq3
   refine W.go 99 rfl ?_
   exact W.again (again _ _ _ _ (by omega) ⟨i + 1, rfl, by omega, hle3, hq3, hk3 _ _ hbe' he2, by rw [← hpp, if_neg (by rw [hp0]; simp)], rfl, rfl⟩) (by exact ⟨rfl, rfl, rfl, rfl, rfl, congrArg some (inc64 (by omega)), trivial⟩) (by exact trivial)
  ·rintro ch L3 ⟨hp0, rfl, hle3⟩
   have hpu : putsE s hs s.cones l = putE s hs s.cones[i] l[i] := by rw [← hpp, if_pos hp0]
   exact bad _ rfl rfl (by rw [hpE, hpu, if_pos hp0]) hp0 (hle2.trans hle3) (hle3 _ _ hq2) (hle3 _ _ he2)
 ·have hie : i = l.length := by simp at d1; omega
  subst hie
  rw [List.take_length] at hq2
  have hp0 : putsE s hs s.cones l = 0 := by rw [← hpp, List.drop_length, hln, List.drop_length]; rfl
  rw [hp0] at hpE
  have hpE : planE s hs l = if fitsS s hs l then 0 else 6 := by simpa using hpE
  refine W.vf rfl rfl rfl rfl (Vf.loadN rfl rfl rfl (cellsAt_n hq2 (encQ_len _))) ?_
  refine W.go 99 rfl ?_
  have hr := room_sp (X := C.X) b s p ha hc hs t0 t1 t2 mv (qOf s hs l) L2 (h.le hle2)
  rw [roomB_fits hc3] at hr
  refine W.eff rfl rfl rfl (Ef.call rfl (hr)) ?_
  rintro _ _ _ ⟨_, rfl, rfl, rfl, hle3⟩
  rename_i L3
  cases hf : fitsS s hs l with
  | false =>
   rw [if_neg (by rw [hf]; simp)] at hpE
   refine W.go 99 rfl ?_
   refine W.callP rfl rfl rfl rfl (must_no _ _) ?_ ?_
   ·exact fun _ _ h => h.elim
   ·rintro _ _ ⟨rfl, rfl⟩
    exact bad 6 rfl rfl hpE (by decide) (hle2.trans hle3) (hle3 _ _ hq2) (hle3 _ _ he2)
  | true =>
   rw [if_pos hf] at hpE
   refine W.go 99 rfl ?_
   refine W.eff rfl rfl rfl (Ef.call rfl (must_ok _ _)) ?_
   rintro _ _ _ ⟨_, rfl, rfl, rfl, rfl⟩
   refine W.go 99 rfl ?_
   refine W.vf rfl rfl rfl rfl (Vf.loadN rfl rfl rfl (cellsAt_n (hle3 _ _ hq2) (encQ_len _))) ?_
   refine W.go 99 rfl ?_
   refine W.eff0 rfl rfl (Ef.stoF rfl ⟨_, rfl, rfl⟩ rfl (hle3 _ _ hq2) rfl (by rw [List.size_toArray, encQ_len]; exact Nat.le_refl _) (singles rfl)) ?_
   rintro _ _ _ ⟨rfl, rfl, rfl⟩
   refine W.go 99 rfl ?_
   refine W.eff0 rfl rfl (Ef.stoF rfl ⟨_, rfl, rfl⟩ rfl ((put_ne _ _ hbe').trans (hle3 _ _ he2)) rfl (Nat.le_refl _) (singles rfl)) ?_
   rintro _ _ _ ⟨rfl, rfl, rfl⟩
   refine W.go 99 rfl ?_
   have hrow : putRow (encQ (qOf s hs l)).toArray 0 (Value.agg (encQ (qOf s hs l)).toArray).cells.toList = (encQ (qOf s hs l)).toArray := by
    rw [putRow_all (by rw [List.size_toArray, encQ_len]; rfl)]
    rfl
   refine W.out r.ro (.inr .ret) ?_
   refine WM.deferred rfl rfl (calm_sp bq be _) ?_
   rintro _ _ ⟨rfl, rfl⟩
   refine WM.ret2 r rfl rfl rfl (loadNF rfl rfl (cellsAt_n (vs := encQ (qOf s hs l)) (e := 148) (fz := (0, 0)) (wr := true) ?_ (encQ_len _))) (load1F rfl (cell_of (put_same _ _ _) rfl)) ⟨?_, le_put_none (le_put_none (hle2.trans hle3) hbq _) hbeL _⟩
   ·rw [put_ne _ _ hbe'.symm, put_same, hrow]
   ·rw [hpE]; rfl
end Go.Mz


set_option maxRecDepth 100000
namespace Go.Mz
open Go
section
variable {s : St} {hs : List Int}
end
def pickL (n : Nat) : Nat → Nat → List (List Nat)
 | 0, _ => [[]]
 | m + 1, first => (List.range' first (n - first)).flatMap fun i => (pickL n m (i + 1)).map (i :: ·)
end Go.Mz


set_option maxRecDepth 100000
namespace Go.Mz
open Go.Conc Go.Proofs
abbrev Rw (α : Type) := Rf × List α
def encRw {α : Type} (x : Rw α) : List Value := [slV x.1]
theorem encRw_len {α : Type} (x : Rw α) : (encRw x).length = 1 := rfl
theorem encRw_sg {α : Type} (x : Rw α) : ∀ u ∈ encRw x, single u = true := fun u hu => by rw [List.mem_singleton.1 hu]; rfl
structure RwOk {α : Type} (L : LH) (k : Nat) (enc : α → List Value) (x : Rw α) : Prop where
 sl : SlAt L x.1.1 k enc x.2
 len : x.1.2.1 = x.2.length
theorem RwOk.le {α : Type} {L L' : LH} {k : Nat} {enc : α → List Value} {x : Rw α} (h : RwOk L k enc x) (hl : Le L L') : RwOk L' k enc x := ⟨h.sl.le hl, h.len⟩
def RowsAt {α : Type} (L : LH) (ad : Option Addr) (k : Nat) (enc : α → List Value) (ls : List (List α)) : Prop := ∃ rs : List (Rw α), rs.map Prod.snd = ls ∧ SlAt L ad 1 encRw rs ∧ ∀ x ∈ rs, RwOk L k enc x
def GrowL {α : Type} (I : LH) (e k : Nat) (enc : α → List Value) (L : LH) (v : Value) (ls : List (List α)) : Prop := ∃ J, ∃ rs : List (Rw α), Le I J ∧ rs.map Prod.snd = ls ∧ Grow J 1 e encRw L v rs ∧ ∀ x ∈ rs, RwOk J k enc x
section
variable {β : Type} {F F' I L L' L2 : LH} {e k : Nat} {enc : β → List Value} {v : Value} {l : List β}
theorem Grow.foot {ad : Option Addr} {len cap : Nat} (h : Grow I k e enc L (.slice ad len cap) l) (hk : ∀ x, (enc x).length = k) (hF : Le F I) : ∃ F', Le F F' ∧ Le F' L ∧ SlAt F' ad k enc l ∧ ∀ b, F' b ≠ none → F b ≠ none ∨ I b = none := by
 obtain ⟨hI, ob, ho, hn⟩ := h
 obtain ⟨ad', cap', e1, -⟩ := ho.slice
 cases e1
 classical
 refine ⟨fun b => if ob = some b then L b else F b, fun b x hx => ?_, fun b x hx => ?_, (ho.keep (L' := fun b => if ob = some b then L b else F b) fun b hb => ?_).at hk, fun b hb => ?_⟩
 ·simp only
  split
  ·rename_i e2; have := hF _ _ hx; rw [hn b e2] at this; cases this
  ·exact hx
 ·simp only at hx
  split at hx
  ·exact hx
  ·exact hI _ _ (hF _ _ hx)
 ·rw [if_pos hb]
 ·simp only at hb
  split at hb
  ·rename_i e2; exact .inr (hn b e2)
  ·exact .inl hb
theorem Own.some_blk {v : Value} {n : Nat} {cs : List Value} {ob : Option Nat} (h : Own L k e v n cs ob) {b : Nat} (hb : ob = some b) : L b ≠ none := by subst hb; exact h.blk
theorem Grow.rebase (h : Grow F k e enc L v l) (hl : Le L L') (hF : Le F' L') (hn : ∀ b, F' b ≠ none → F b ≠ none ∨ L b = none) : Grow F' k e enc L' v l := by
 obtain ⟨_, ob, ho, hf⟩ := h
 refine ⟨hF, ob, ho.le hl, fun b hb => ?_⟩
 cases hx : F' b with
 | none => rfl
 | some y =>
  rcases hn b (by rw [hx]; simp) with e1 | e1
  ·exact absurd (hf b hb) e1
  ·exact absurd e1 (ho.some_blk hb)
theorem Grow.call (h : Grow F k e enc L v l) (p : Post F L F' L2) : Grow F' k e enc L2 v l := by
 obtain ⟨_, ob, ho, hf⟩ := h
 refine ⟨p.le, ob, ho.keep fun b hb => ?_, fun b hb => ?_⟩
 ·cases hx : L b with
  | none => exact absurd hx (ho.some_blk hb)
  | some y => exact p.keep b y (hf b hb) hx
 ·cases hx : F' b with
  | none => rfl
  | some y =>
   rcases p.fresh b (by rw [hx]; simp) with e1 | e1
   ·exact absurd (hf b hb) e1
   ·exact absurd e1 (ho.some_blk hb)
end
section
variable {α : Type} {I L L' : LH} {e k : Nat} {enc : α → List Value} {v : Value} {ls : List (List α)}
theorem GrowL.hle (h : GrowL I e k enc L v ls) : Le I L := let ⟨_, _, h1, _, h, _⟩ := h; h1.trans h.1
theorem GrowL.le (h : GrowL I e k enc L v ls) (hl : Le L L') : GrowL I e k enc L' v ls := let ⟨J, rs, h0, h1, h2, h3⟩ := h; ⟨J, rs, h0, h1, h2.le hl, h3⟩
theorem GrowL.less {I' : LH} (h : GrowL I e k enc L v ls) (hl : Le I' I) : GrowL I' e k enc L v ls := let ⟨J, rs, h0, h1, h2, h3⟩ := h; ⟨J, rs, hl.trans h0, h1, h2, h3⟩
theorem GrowL.nil (h : Le I L) : GrowL I e k enc L (.slice none 0 0) ([] : List (List α)) := ⟨L, [], h, rfl, Grow.nil (Le.refl _), fun x hx => by cases hx⟩
theorem GrowL.slice (h : GrowL I e k enc L v ls) : ∃ ad cap, v = .slice ad ls.length cap := by
 obtain ⟨J, rs, _, rfl, h2, _⟩ := h
 obtain ⟨ad, cap, rfl, -⟩ := h2.slice
 exact ⟨ad, cap, by rw [List.length_map]⟩
theorem GrowL.at {ad : Option Addr} {len cap : Nat} (h : GrowL I e k enc L (.slice ad len cap) ls) : len = ls.length ∧ RowsAt L ad k enc ls := by
 obtain ⟨J, rs, _, rfl, h2, h3⟩ := h
 obtain ⟨rfl, h4⟩ := h2.at encRw_len
 exact ⟨(List.length_map ..).symm, rs, rfl, h4, fun x hx => (h3 x hx).le h2.1⟩
theorem RowsAt.le {ad : Option Addr} (h : RowsAt L ad k enc ls) (hl : Le L L') : RowsAt L' ad k enc ls := let ⟨rs, h1, h2, h3⟩ := h; ⟨rs, h1, h2.le hl, fun x hx => (h3 x hx).le hl⟩
theorem RowsAt.addr {ad : Option Addr} (h : RowsAt L ad k enc ls) {i : Nat} (hi : i < ls.length) : ∃ a, ad = some a := by
 obtain ⟨rs, rfl, h2, _⟩ := h
 exact h2.addr (by simpa using hi)
theorem RowsAt.row {ad : Addr} (h : RowsAt L (some ad) k enc ls) {i : Nat} {l : List α} (hl : ls[i]? = some l) : ∃ a c, L.cell? (ad.add i) = some (.slice a l.length c) ∧ SlAt L a k enc l := by
 obtain ⟨rs, rfl, h2, h3⟩ := h
 rw [List.getElem?_map] at hl
 obtain ⟨⟨⟨a, n, c⟩, l'⟩, hx, rfl⟩ := Option.map_eq_some_iff.1 hl
 have hk := h3 _ (List.mem_of_getElem? hx)
 have hn : n = l'.length := hk.len
 subst hn
 refine ⟨a, c, ?_, hk.sl⟩
 have := h2.get hx (j := 0) (v := slV (a, l'.length, c)) rfl
 simpa using this
theorem Grow.lit {β : Type} {encB : β → List Value} {l : List β} {b : Nat} (hk : ∀ x, (encB x).length = k) (h : Le I L) (hb : L b = some (.cells (l.flatMap encB).toArray e (0, 0), true)) (hn : I b = none) : Grow I k e encB L (.slice (some ⟨b, 0, none⟩) l.length l.length) l :=
 ⟨h, some b, ⟨l.length, (l.flatMap encB).toArray, rfl, hb, by simp [flat_len hk], Nat.le_refl _, flat_len hk l, fun i x hx => by simpa using hx⟩, fun b' hb' => by cases hb'; exact hn⟩
theorem GrowL.one {b : Nat} {a : Option Addr} {c : Nat} {l : List α} (hl : SlAt I a k enc l) (hI : Le I L) (hb : L b = some (.cells #[.slice a l.length c] e (0, 0), true)) (hn : I b = none) : GrowL I e k enc L (.slice (some ⟨b, 0, none⟩) 1 1) [l] :=
 ⟨I, [((a, l.length, c), l)], Le.refl _, rfl, Grow.lit (l := [((a, l.length, c), l)]) encRw_len hI hb hn, fun x hx => by rw [List.mem_singleton.1 hx]; exact ⟨hl, rfl⟩⟩
end
section
variable {X : Logic Tryz.prog}
end
end Go.Mz


set_option maxRecDepth 100000
namespace Go.Mz
open Go.Conc Go.Proofs
variable {X : Logic Tryz.prog}
def Got {α : Type} (L : LH) (k : Nat) (enc : α → List Value) (l : List α) (v : Value) (L' : LH) : Prop := ∃ ad cap, v = .slice ad l.length cap ∧ Le L L' ∧ SlAt L' ad k enc l
theorem Got.nil {α : Type} {L L' : LH} {k : Nat} {enc : α → List Value} (h : Le L L') : Got L k enc ([] : List α) (.slice none 0 0) L' := ⟨none, 0, rfl, h, SlAt.empty⟩
theorem open_ask0 (s : St) (hs : List Int) : openE s hs [] [] = askE s hs := by
 rw [open_ask]
 split
 ·rfl
 ·rename_i h; simp at h; simp [h]
end Go.Mz


set_option maxRecDepth 100000
namespace Go.Mz
open Go.Conc Go.Proofs
variable {X : Logic Tryz.prog}
theorem Right_sp (s : St) (p : Pt) (ha la : Option Addr) (hc lc : Nat) (hs : List Int) (l : List Stand) (L : LH) (h : AskAt L s p ha hs) (hl : SlAt L la 2 encSt l) (hn : l.length ≤ 140737488355328) :
  Sp X 66 [stA s p, .slice ha hs.length hc, .slice la l.length lc] L (fun v L' => v = .int .i64 (RightE s hs l) ∧ Le L L') := by
 refine Sp.enter (n := 25) Tryz.func66 rfl rfl rfl rfl fun C hX _ hL0 r => ?_
 refine W.go 99 rfl ?_
 have hr := open_sp (X := C.X) s p ha none none hc 0 0 hs [] [] L h ints0 ints0 (by simp) (by simp)
 rw [open_ask0] at hr
 refine W.eff rfl rfl rfl (Ef.call rfl (hr)) ?_
 rintro _ _ _ ⟨_, rfl, rfl, hq⟩
 rcases hq with ⟨h0, rfl, hle⟩ | ⟨h0, u, rfl, z, mr, F, rfl, rfl, rfl, hmv, hLF, hFL, hFm, hsv, hmr⟩
 ·refine W.go 99 rfl ?_
  refine W.split rfl rfl rfl (fun _ => W.go 99 rfl ?_) (fun h => absurd h (by simpa using h0))
  refine W.ret r rfl rfl ?_
  exact ⟨by unfold RightE; rw [if_pos h0]; rfl, hle⟩
 ·rename_i L2
  refine W.go 99 rfl ?_
  refine W.split rfl rfl rfl (fun h => absurd h (by simp)) (fun _ => W.go 99 rfl ?_)
  refine W.eff rfl rfl rfl (Ef.call rfl (placed_sp z.b z.s z.p z.ha la z.hc lc z.hs z.t0 z.t1 z.t2 z.mv l L2 (hsv.le hFL).sv (hsv.le hFL).gl (hl.le (hLF.trans hFL)) hn)) ?_
  rintro _ _ _ ⟨_, rfl, rfl, rfl, hle⟩
  refine W.go 99 rfl ?_
  refine W.ret r rfl rfl ?_
  refine ⟨?_, (hLF.trans hFL).trans hle⟩
  unfold RightE
  rw [if_neg (by rw [h0]; simp)]
  rfl
def rowsP (s : St) (hs : List Int) (l : List Stand) (d : Nat) (n : Nat) : List (List Int) := (List.range n).map fun k => natI (onS s hs l k d)
def PlacesE (s : St) (hs : List Int) (l : List Stand) (d : Int) : List (List Int) × Int := if RightE s hs l ≠ 0 then ([], RightE s hs l) else if inB d 0 (s.days - 1) then (rowsP s hs l d.toNat s.shelves.length, 0) else ([], 3)
def NewRows (L : LH) (ls : List (List Int)) (u : Value) (L' : LH) : Prop := ∃ a c, u = .slice a ls.length c ∧ Le L L' ∧ RowsAt L' a 1 encI ls
theorem NewRows.nil {L L' : LH} (h : Le L L') : NewRows L [] (.slice none 0 0) L' := ⟨none, 0, rfl, h, [], rfl, SlAt.empty, fun x hx => by cases hx⟩
end Go.Mz


set_option maxRecDepth 100000
namespace Go.Mz
open Go.Conc Go.Proofs
variable {X : Logic Tryz.prog}
theorem putsE_0 {s : St} {hs : List Int} : ∀ {cs : List Cone} {l : List Stand}, putsE s hs cs l = 0 → ∀ (i : Nat) c a, cs[i]? = some c → l[i]? = some a → putE s hs c a = 0
 | [], l, _, i, c, a, hc, _ => by simp at hc
 | c :: cs, [], _, i, c', a, _, ha => by simp at ha
 | c :: cs, a :: l, h, i, c', a', hc, ha => by
  unfold putsE at h
  split at h
  ·rename_i h1; exact absurd h h1
  ·rename_i h1
   cases i with
   | zero => simp at hc ha; subst hc; subst ha; simpa using h1
   | succ i => exact putsE_0 h i c' a' (by simpa using hc) (by simpa using ha)
theorem put_V {s : St} {hs : List Int} {c : Cone} {a : Stand} (h : putE s hs c a = 0) : a.shelf = -1 ∨ isStand s a = true := by
 by_cases e : a.shelf = -1
 ·exact .inl e
 ·right
  unfold putE at h
  rw [if_neg e] at h
  split at h
  ·cases h
  ·rename_i h1; simpa using h1
theorem planE_0 {s : St} {hs : List Int} {l : List Stand} (h : planE s hs l = 0) : l.length = s.cones.length ∧ putsE s hs s.cones l = 0 ∧ fitsS s hs l = true := by
 unfold planE at h
 split at h
 ·rename_i h1; exact absurd h h1
 ·rename_i h1
  simp only [ne_eq, Decidable.not_not, sizedE_0] at h1
  split at h
  ·rename_i h2; exact absurd h h2
  ·rename_i h2
   split at h
   ·rename_i h3; exact ⟨by omega, by simpa using h2, h3⟩
   ·cases h
end Go.Mz


set_option maxRecDepth 100000
namespace Go.Mz
open Go
def strL (n : Nat) : Nat → List (List Int)
 | 0 => [[]]
 | k + 1 => (strL n k).flatMap fun x => (List.range n).map fun (y : Nat) => x ++ [(y : Int)]
theorem flat_filter {α β : Type} (f : α → List β) (p : β → Bool) (l : List α) : (l.flatMap f).filter p = l.flatMap fun a => (f a).filter p := by
 induction l with
 | nil => rfl
 | cons a l ih => rw [List.flatMap_cons, List.flatMap_cons, List.filter_append, ih]
theorem flat_same {α β : Type} {f g : α → List β} {l : List α} (h : ∀ a ∈ l, f a = g a) : l.flatMap f = l.flatMap g := by
 induction l with
 | nil => rfl
 | cons a l ih => rw [List.flatMap_cons, List.flatMap_cons, h a (List.mem_cons_self ..), ih fun x hx => h x (List.mem_cons_of_mem _ hx)]
section
variable {s : St}
def okHB (s : St) (l : List Int) : Bool := heatsE s l == 0 && canS s l
end
end Go.Mz


set_option maxRecDepth 100000
namespace Go.Mz
open Go
def prodC {α : Type} : List (List α) → List (List α)
 | [] => [[]]
 | o :: os => o.flatMap fun a => (prodC os).map (a :: ·)
theorem prodC_mem {α : Type} : ∀ {os : List (List α)} {t : List α}, t ∈ prodC os → t.length = os.length ∧ ∀ (i : Nat) o a, os[i]? = some o → t[i]? = some a → a ∈ o
 | [], t, h => by
  simp only [prodC, List.mem_singleton] at h
  subst h
  exact ⟨rfl, fun i o a h => by simp at h⟩
 | o :: os, t, h => by
  simp only [prodC, List.mem_flatMap, List.mem_map] at h
  obtain ⟨a, ha, t, ht, rfl⟩ := h
  obtain ⟨h1, h2⟩ := prodC_mem ht
  refine ⟨by simp [h1], fun i o' a' ho ha' => ?_⟩
  cases i with
  | zero => simp at ho ha'; subst ho; subst ha'; exact ha
  | succ i => exact h2 i o' a' (by simpa using ho) (by simpa using ha')
theorem grow_prod {fit : List Stand → Bool} (hf : ∀ l m, fit (l ++ m) = true → fit l = true) : ∀ {os : List (List Stand)} {b : List Stand}, fit b = true → grow fit os b = ((prodC os).filter fun t => fit (b ++ t)).map (b ++ ·)
 | [], b, h => by simp [grow, prodC, h]
 | o :: os, b, h => by
  rw [grow, prodC, flat_filter, List.map_flatMap]
  refine flat_same fun a _ => ?_
  rw [List.filter_map, List.map_map]
  split
  ·rename_i h1
   rw [grow_prod hf h1]
   have e1 : ((b ++ [a]) ++ ·) = ((b ++ ·) ∘ (a :: ·)) := funext fun t => by simp
   have e2 : (fun t => fit ((b ++ [a]) ++ t)) = ((fun t => fit (b ++ t)) ∘ (a :: ·)) := funext fun t => by simp
   rw [e1, e2]
  ·rename_i h1
   rw [List.filter_eq_nil_iff.2, List.map_nil]
   intro t _ h2
   simp only [Function.comp] at h2
   refine h1 (hf (b ++ [a]) t ?_)
   rw [List.append_assoc]
   exact h2
theorem prodC_filter {α : Type} (q : Nat → α → Bool) : ∀ (os : List (List α)) (n : Nat), prodC ((os.zipIdx n).map fun x => x.1.filter (q x.2)) = (prodC os).filter fun t => (t.zipIdx n).all fun x => q x.2 x.1
 | [], n => rfl
 | o :: os, n => by
  have ih := prodC_filter q os (n + 1)
  rw [List.zipIdx_cons, List.map_cons, prodC, prodC, ih]
  generalize prodC os = P
  induction o with
  | nil => rfl
  | cons a o ih2 =>
   rw [List.flatMap_cons, List.filter_append, ← ih2, List.filter_map]
   by_cases h : q n a = true
   ·rw [List.filter_cons_of_pos h, List.flatMap_cons]
    congr 2
    refine List.filter_congr fun t _ => ?_
    simp [List.zipIdx_cons, h]
   ·have e : P.filter ((fun t => (t.zipIdx n).all fun x => q x.2 x.1) ∘ fun x => a :: x) = [] := List.filter_eq_nil_iff.2 fun t _ => by
     simp only [Function.comp, List.zipIdx_cons, List.all_cons]
     simp [h]
    rw [List.filter_cons_of_neg h, e, List.map_nil, List.nil_append]
def oneL (s : St) : List Stand := none1 :: grid s
def allP (s : St) : Nat → List (List Stand)
 | 0 => [[]]
 | n + 1 => (allP s n).flatMap fun x => (oneL s).map fun a => x ++ [a]
theorem allP_cons (s : St) : ∀ n, allP s (n + 1) = (oneL s).flatMap fun a => (allP s n).map (a :: ·)
 | 0 => by
  simp only [allP, List.flatMap_cons, List.flatMap_nil, List.append_nil, List.nil_append, List.map_cons, List.map_nil]
  induction oneL s with
  | nil => rfl
  | cons a l ih => simp only [List.map_cons, List.flatMap_cons, List.singleton_append, ih]
 | n + 1 => by
  show (allP s (n + 1)).flatMap (fun x => (oneL s).map fun a => x ++ [a]) = (oneL s).flatMap fun a => ((allP s n).flatMap fun x => (oneL s).map fun b => x ++ [b]).map (a :: ·)
  rw [allP_cons s n]
  simp only [List.flatMap_assoc, List.map_flatMap, List.flatMap_map, List.map_map, Function.comp_def, List.cons_append]
theorem allP_prod (s : St) : ∀ n, allP s n = prodC (List.replicate n (oneL s))
 | 0 => rfl
 | n + 1 => by rw [allP_cons, allP_prod s n, List.replicate_succ, prodC]
section
variable {s : St} {hs : List Int}
def okAt (s : St) (hs : List Int) (i : Nat) (a : Stand) : Bool := match s.cones[i]? with
 | some c => putE s hs c a == 0
 | none => true
theorem mem_gridX {a : Stand} (h : a ∈ grid s) : ∃ k d : Nat, k < s.shelves.length ∧ d < s.days.toNat ∧ a = ⟨k, d⟩ := by
 unfold grid at h
 simp only [List.mem_flatMap, List.mem_map, List.mem_range] at h
 obtain ⟨k, hk, d, hd, rfl⟩ := h
 exact ⟨k, d, hk, hd, rfl⟩
theorem isStand_grid {a : Stand} (h : a ∈ grid s) : isStand s a = true := by
 obtain ⟨k, d, hk, hd, rfl⟩ := mem_gridX h
 unfold isStand
 rw [Bool.and_eq_true, inB_iff, inB_iff]
 dsimp only
 omega
theorem opt_filter {i : Nat} {c : Cone} (hc : s.cones[i]? = some c) : optS s hs true false c = (oneL s).filter (okAt s hs i) := by
 unfold optS oneL okAt
 rw [hc]
 simp only [Bool.not_false, Bool.true_or, if_true]
 have h0 : (putE s hs c none1 == 0) = true := by simp [putE, none1]
 rw [List.filter_cons, if_pos h0]
 show [none1] ++ _ = _
 rw [List.singleton_append]
 congr 1
 unfold standsS
 refine List.filter_congr fun a ha => ?_
 have hst := isStand_grid ha
 obtain ⟨k, d, _, _, rfl⟩ := mem_gridX ha
 unfold putE
 rw [if_neg (by simp only; omega), hst]
 have f := fate_ends (s := s) (hs := hs) (c := c) (k := k) (d := d)
 simp only [Bool.not_true, Bool.false_eq_true, if_false]
 by_cases h1 : (fateS s hs c ⟨k, d⟩).1 = 1
 ·rw [if_pos h1, h1]; rfl
 ·rw [if_neg h1]
  by_cases h2 : (fateS s hs c ⟨k, d⟩).1 = 2
  ·rw [if_pos h2, h2]; rfl
  ·rw [if_neg h2]
   have : (fateS s hs c ⟨k, d⟩).1 = 0 := by omega
   rw [this]
theorem opts_prod : optsS s hs allC false = ((List.replicate s.cones.length (oneL s)).zipIdx 0).map fun x => x.1.filter (okAt s hs x.2) := by
 refine List.ext_getElem? fun i => ?_
 by_cases hi : i < s.cones.length
 ·have hc : s.cones[i]? = some s.cones[i] := List.getElem?_eq_getElem hi
  rw [show (optsS s hs allC false)[i]? = _ from opts_get hc, List.getElem?_map, List.getElem?_zipIdx, List.getElem?_replicate, if_pos hi]
  simp only [Option.map_some, Nat.zero_add]
  exact congrArg some (opt_filter hc)
 ·rw [List.getElem?_eq_none (by rw [opts_len]; omega), List.getElem?_eq_none (by simp; omega)]
theorem puts_all : ∀ (cs : List Cone) (l : List Stand), l.length = cs.length → (putsE s hs cs l = 0 ↔ ∀ (i : Nat) c a, cs[i]? = some c → l[i]? = some a → putE s hs c a = 0)
 | [], [], _ => by simp [putsE]
 | c :: cs, a :: l, h => by
  have ih := puts_all cs l (by simpa using h)
  unfold putsE
  by_cases h1 : putE s hs c a = 0
  ·rw [if_neg (by simpa using h1), ih]
   constructor
   ·intro h2 i c' a' hc ha
    cases i with
    | zero => simp at hc ha; subst hc; subst ha; exact h1
    | succ i => exact h2 i c' a' (by simpa using hc) (by simpa using ha)
   ·intro h2 i c' a' hc ha
    exact h2 (i + 1) c' a' (by simpa using hc) (by simpa using ha)
  ·rw [if_pos h1]
   constructor
   ·intro h2; exact absurd h2 h1
   ·intro h2; exact absurd (h2 0 c a rfl rfl) h1
theorem plan_right {l : List Stand} (hl : l.length = s.cones.length) : (planE s hs l == 0) = ((l.zipIdx 0).all (fun x => okAt s hs x.2 x.1) && fitsS s hs l) := by
 have hz : ((l.zipIdx 0).all fun x => okAt s hs x.2 x.1) = true ↔ putsE s hs s.cones l = 0 := by
  rw [puts_all _ _ hl, List.all_eq_true]
  constructor
  ·intro h i c a hc ha
   have := h (a, i) (by rw [List.mem_iff_getElem?]; exact ⟨i, by rw [List.getElem?_zipIdx, ha]; simp⟩)
   simp only [okAt, hc] at this
   simpa using this
  ·rintro h ⟨a, i⟩ hx
   obtain ⟨j, hj⟩ := List.mem_iff_getElem?.1 hx
   rw [List.getElem?_zipIdx] at hj
   obtain ⟨a', ha, e⟩ := Option.map_eq_some_iff.1 hj
   simp only [Prod.mk.injEq, Nat.zero_add] at e
   obtain ⟨rfl, rfl⟩ := e
   unfold okAt
   cases hc : s.cones[j]? with
   | none => rfl
   | some c => simpa using h j c _ hc ha
 unfold planE
 rw [if_neg (by simp only [ne_eq, Decidable.not_not, sizedE_0]; omega)]
 by_cases h1 : putsE s hs s.cones l = 0
 ·rw [hz.2 h1, if_neg (by simpa using h1)]
  cases fitsS s hs l <;> rfl
 ·rw [if_pos h1]
  have : ((l.zipIdx 0).all fun x => okAt s hs x.2 x.1) = false := by
   cases hh : ((l.zipIdx 0).all fun x => okAt s hs x.2 x.1) with
   | true => exact absurd (hz.1 hh) h1
   | false => rfl
  rw [this, Bool.false_and]
  simpa using h1
theorem plans_all (h : Ok s) : plansS s hs allC false = (allP s s.cones.length).filter fun l => planE s hs l == 0 := by
 unfold plansS
 rw [grow_prod (fit := fitsS s hs) (fun l m hm => fits_pre hm) (fits_nil h hs), opts_prod, prodC_filter, ← allP_prod, List.filter_filter]
 simp only [List.nil_append, List.map_id']
 refine List.filter_congr fun l hl => ?_
 rw [allP_prod] at hl
 have hln := (prodC_mem hl).1
 rw [List.length_replicate] at hln
 rw [plan_right hln, Bool.and_comm]
def inB1 (_ : Nat) (a : Stand) : Bool := decide (0 ≤ a.shelf)
theorem opts_each : optsS s hs allC true = ((optsS s hs allC false).zipIdx 0).map fun x => x.1.filter (inB1 x.2) := by
 refine List.ext_getElem? fun i => ?_
 by_cases hi : i < s.cones.length
 ·have hc : s.cones[i]? = some s.cones[i] := List.getElem?_eq_getElem hi
  have h1 : (optsS s hs allC true)[i]? = some (optS s hs true true s.cones[i]) := opts_get hc
  have h2 : (optsS s hs allC false)[i]? = some (optS s hs true false s.cones[i]) := opts_get hc
  rw [h1, List.getElem?_map, List.getElem?_zipIdx, h2]
  simp only [Option.map_some, Nat.zero_add, optS, Bool.not_true, Bool.or_self, Bool.false_eq_true, if_false, List.nil_append, if_true, Bool.not_false, Bool.true_or]
  congr 1
  rw [List.singleton_append, List.filter_cons, if_neg (by simp [inB1, none1])]
  refine (List.filter_eq_self.2 fun a ha => ?_).symm
  obtain ⟨k, d, _, _, rfl⟩ := mem_gridX (List.mem_filter.1 ha).1
  unfold inB1
  simp
 ·rw [List.getElem?_eq_none (by rw [opts_len]; omega), List.getElem?_eq_none (by simp [opts_len]; omega)]
theorem cnt_full {l : List Stand} : (l.zipIdx 0).all (fun x => inB1 x.2 x.1) = decide (cnt l = l.length) := by
 have h1 : (l.zipIdx 0).all (fun x => inB1 x.2 x.1) = l.all fun a => decide (0 ≤ a.shelf) := by
  have : ∀ (l : List Stand) n, (l.zipIdx n).all (fun x => inB1 x.2 x.1) = l.all fun a => decide (0 ≤ a.shelf) := fun l => by
   induction l with
   | nil => intro n; rfl
   | cons a l ih => intro n; rw [List.zipIdx_cons, List.all_cons, List.all_cons, ih]; rfl
  exact this l 0
 rw [h1]
 unfold cnt
 cases hh : l.all fun a => decide (0 ≤ a.shelf) with
 | true =>
  rw [List.countP_eq_length.2 (List.all_eq_true.1 hh)]
  simp
 | false =>
  have : l.countP (fun a => decide (0 ≤ a.shelf)) ≠ l.length := fun e => by
   rw [List.all_eq_true.2 (List.countP_eq_length.1 e)] at hh
   cases hh
  symm
  rw [decide_eq_false_iff_not]
  omega
theorem plans_each (h : Ok s) : plansS s hs allC true = (plansS s hs allC false).filter fun l => decide (cnt l = s.cones.length) := by
 unfold plansS
 rw [grow_prod (fit := fitsS s hs) (fun l m hm => fits_pre hm) (fits_nil h hs), grow_prod (fit := fitsS s hs) (fun l m hm => fits_pre hm) (fits_nil h hs), opts_each, prodC_filter]
 simp only [List.nil_append, List.map_id']
 rw [List.filter_filter, List.filter_filter]
 refine List.filter_congr fun l hl => ?_
 have hln := (prodC_mem hl).1
 rw [opts_len] at hln
 rw [cnt_full, hln, Bool.and_comm]
end
end Go.Mz


set_option maxRecDepth 100000
namespace Go.Mz
open Go.Conc Go.Proofs
theorem ask_0 {s : St} {t : List Int} (h : Ok s) (ht : heatsE s t = 0) : askE s t = 0 := by unfold askE; rw [if_neg (by simp [ok_iff.2 h]), ht]
theorem right_0 {s : St} {t : List Int} {l : List Stand} (h : Ok s) (ht : heatsE s t = 0) : RightE s t l = planE s t l := by unfold RightE; rw [if_neg (by rw [ask_0 h ht]; simp)]
theorem fate_right {s : St} {t : List Int} {l : List Stand} (h : Ok s) (ht : heatsE s t = 0) (hl : planE s t l = 0) {i k : Nat} {a : Stand} (ha : l[i]? = some a) (hk : a.shelf = (k : Int)) : ∃ c, s.cones[i]? = some c ∧ FateE s t i a = (0, (fateS s t c a).2, 0) := by
 obtain ⟨h1, h2, _⟩ := planE_0 hl
 have hil := (List.getElem?_eq_some_iff.1 ha).1
 have hc : s.cones[i]? = some s.cones[i] := List.getElem?_eq_getElem (by omega)
 have hp := putsE_0 h2 i _ _ hc ha
 have hst := (put_V hp).resolve_left (by omega)
 refine ⟨_, hc, ?_⟩
 rw [fate_in h ht hc hst]
 obtain ⟨k', d0, rfl, _, _⟩ := stand_nat (hok_of ht) hst
 have f := fate_ends (s := s) (hs := t) (c := s.cones[i]) (k := k') (d := d0)
 unfold putE at hp
 rw [if_neg (by dsimp only; omega), hst] at hp
 simp only [Bool.not_true, Bool.false_eq_true, if_false] at hp
 split at hp
 ·cases hp
 ·split at hp
  ·cases hp
  ·have : (fateS s t s.cones[i] ⟨k', d0⟩).1 = 0 := by omega
   rw [this]
variable {Post : Value → World → Prop} {W0 : World}
end Go.Mz


set_option maxRecDepth 100000
namespace Go.Mz
open Go.Conc Go.Proofs
variable {X : Logic Tryz.prog}
theorem GrowL.one_at {α : Type} {L : LH} {k b : Nat} {enc : α → List Value} {l : List α} {a : Option Addr} {c e : Nat} (hl : SlAt L a k enc l) (hb : L b = none) : RowsAt (L.put b (.cells #[.slice a l.length c] e)) (some ⟨b, 0, none⟩) k enc [l] :=
 ((GrowL.one (e := e) (c := c) hl (Le.put hb _) (put_same _ _ _) hb).at).2
end Go.Mz


set_option maxRecDepth 100000
namespace Go.Mz
open Go.Conc Go.Proofs
variable {X : Logic Tryz.prog}
theorem allP_len (s : St) : ∀ n, (allP s n).length = (oneL s).length ^ n
 | 0 => rfl
 | n + 1 => by
  rw [allP, flatMap_len (k := (oneL s).length) (fun x => by simp), allP_len s n, Nat.pow_succ]
theorem oneL_len {s : St} (h : Ok s) : (oneL s).length ≤ 13 := by
 have h1 : (grid s).length = s.shelves.length * s.days.toNat := by
  unfold grid
  rw [flatMap_len (k := s.days.toNat) (fun x => by simp), List.length_range]
 have h3 := h.s3
 have h4 := h.d4
 have : s.shelves.length * s.days.toNat ≤ 3 * 4 := Nat.mul_le_mul h3 (by omega)
 show (grid s).length + 1 ≤ 13
 omega
theorem allP_mem (s : St) : ∀ (n : Nat) (x : List Stand), x ∈ allP s n → x.length = n
 | 0, x, h => by simp [allP] at h; subst h; rfl
 | n + 1, x, h => by
  rw [allP] at h
  obtain ⟨y, hy, h⟩ := List.mem_flatMap.1 h
  obtain ⟨a, _, rfl⟩ := List.mem_map.1 h
  simp [allP_mem s n y hy]
theorem all_sp (s : St) (p : Pt) (n : Nat) (L : LH) (hok : Ok s) (hn : n ≤ 3) :
  Sp X 74 [stA s p, .int .i64 n] L (fun v L' => ∃ a c, v = .slice a (allP s n).length c ∧ Le L L' ∧ RowsAt L' a 2 encSt (allP s n)) := by
 have h3 := hok.s3
 have h4 := hok.d4
 have h1 := hok.d1
 refine Sp.enter (n := 68) Tryz.func74 rfl rfl rfl rfl fun C hX _ hL0 r => ?_
 refine W.go 99 rfl ?_
 refine W.pub 5 (.inr ⟨_, _, _, rfl⟩) rfl rfl ?_
 intro b5 hb5 _
 refine W.loop (fun w E B L' => ∃ (k : Nat) (v : Value), w = s.shelves.length - k ∧ k ≤ s.shelves.length ∧ Grow L 2 30 encSt L' v (none1 :: gridTo s k 0) ∧
   E = [(1, .v (.int .i64 n)), (2, .p 0 0), (5, .v v), (6, .v (.int .i64 k))] ∧ B = [some ⟨cellsS (.v (stA s p)), 25⟩])
  ⟨0, _, rfl, by omega, Grow.lit (l := [none1]) encSt_len (Le.put hb5 _) (put_same _ _ _) hb5, rfl, rfl⟩ (by exact ⟨rfl, rfl, rfl, rfl, trivial⟩) (by exact ⟨rfl, trivial⟩) ?_
 rintro _ _ _ L1 ⟨k, v, rfl, hk, hg, rfl, rfl⟩ again
 refine W.go 99 rfl ?_
 refine W.split rfl rfl rfl (fun e1 => W.go 99 rfl ?_) (fun e1 => W.go 99 rfl ?_)
 ·have hkl : k < s.shelves.length := by simpa using e1
  refine W.loop (fun w E B L' => ∃ (d : Nat) (v : Value), w = s.days.toNat - d ∧ d ≤ s.days.toNat ∧ Grow L 2 30 encSt L' v (none1 :: gridTo s k d) ∧
    E = [(1, .v (.int .i64 n)), (2, .p 0 0), (5, .v v), (6, .v (.int .i64 k)), (7, .v (.int .i64 d))] ∧ B = [some ⟨cellsS (.v (stA s p)), 25⟩])
   ⟨0, v, rfl, by omega, hg, rfl, rfl⟩ (by exact ⟨rfl, rfl, rfl, rfl, rfl, trivial⟩) (by exact ⟨rfl, trivial⟩) ?_
  clear hg
  rintro _ _ _ L2 ⟨d, v, rfl, hd, hg, rfl, rfl⟩ again2
  refine W.go 99 rfl ?_
  refine W.split rfl rfl rfl (fun e2 => W.go 99 rfl ?_) (fun e2 => W.go 99 rfl ?_)
  ·have hdl : d < s.days.toNat := by simp at e2; omega
   obtain ⟨va, vc, rfl, -⟩ := hg.slice
   have hgl : (gridTo s k d).length ≤ 1000 := by
    have hr : ∀ i, (stRow s i).length = s.days.toNat := fun i => by simp [stRow]
    unfold gridTo
    rw [List.length_append, flatMap_len (k := s.days.toNat) hr, List.length_range, List.length_map, List.length_range]
    have : k * s.days.toNat ≤ 3 * 4 := Nat.mul_le_mul (by omega) (by omega)
    omega
   refine W.eff rfl rfl rfl (Ef.grow rfl rfl rfl rfl rfl rfl rfl rfl rfl encSt_len encSt_sg hg (ls := [⟨(k : Int), (d : Int)⟩]) (.own rfl rfl rfl rfl) (by simp; omega)) ?_
   rintro _ _ _ ⟨v', rfl, rfl, hg', -⟩
   refine W.go 99 rfl ?_
   exact W.again (again2 _ _ _ _ (by omega) ⟨d + 1, v', rfl, by omega, by rw [gridTo_succ]; exact hg', rfl, rfl⟩) (by exact ⟨rfl, rfl, rfl, rfl, congrArg some (inc64 (by omega)), trivial⟩) (by exact ⟨rfl, trivial⟩)
  ·have hde : d = s.days.toNat := by simp at e2; omega
   subst hde
   exact W.again (again _ _ _ _ (by omega) ⟨k + 1, v, rfl, by omega, by rw [gridTo_row]; exact hg, rfl, rfl⟩) (by exact ⟨rfl, rfl, rfl, congrArg some (inc64 (by omega)), trivial⟩) (by exact ⟨rfl, trivial⟩)
 have hke : k = s.shelves.length := by simp at e1; omega
 subst hke
 rw [gridTo_all] at hg
 have hg : Grow L 2 30 encSt L1 v (oneL s) := hg
 obtain ⟨sa, sc, rfl, -⟩ := hg.slice
 have hsp := (hg.at encSt_len).2
 have hsl := oneL_len hok
 have hl1 := hg.1
 clear hg again e1 hk
 refine W.pub 8 (.inr ⟨_, _, _, rfl⟩) rfl rfl ?_
 intro b8 hb8 _
 have hr0 : RowsAt (L1.put b8 (.cells #[.slice none 0 0] 41)) (some ⟨b8, 0, none⟩) 2 encSt (allP s 0) := GrowL.one_at (l := ([] : List Stand)) SlAt.empty hb8
 refine W.loop (fun w E B L' => ∃ (i : Nat) (a : Option Addr) (c : Nat), w = n - i ∧ i ≤ n ∧ Le L1 L' ∧ RowsAt L' a 2 encSt (allP s i) ∧
   E = [(1, .v (.int .i64 n)), (5, .v (.slice sa (oneL s).length sc)), (8, .v (.slice a (allP s i).length c)), (9, .v (.int .i64 i))] ∧ B = [])
  ⟨0, _, 1, rfl, by omega, Le.put hb8 _, hr0, rfl, rfl⟩ (by exact ⟨rfl, rfl, rfl, rfl, trivial⟩) trivial ?_
 rintro _ _ _ L2 ⟨i, a, c, rfl, hi, hl2, hrows, rfl, rfl⟩ again
 refine W.go 99 rfl ?_
 refine W.split rfl rfl rfl (fun e1 => W.go 99 rfl ?_) (fun e1 => W.go 99 rfl ?_)
 ·have hik : i < n := by simpa using e1
  have hsl2 := hsp.le hl2
  have hpw : (oneL s).length ^ i ≤ 13 ^ 2 := Nat.le_trans (Nat.pow_le_pow_left hsl i) (Nat.pow_le_pow_right (by omega) (by omega))
  have hal := allP_len s i
  have hmem := allP_mem s i
  have hstep : allP s (i + 1) = (allP s i).flatMap fun x => (oneL s).map fun a => x ++ [a] := rfl
  generalize allP s i = S at hrows hal hmem hstep
  refine W.loop (fun w E B L' => ∃ (j : Nat) (v : Value) (F : LH) (rs : List (Rw Stand)), w = S.length - j ∧ j ≤ S.length ∧ Le L2 F ∧ rs.map Prod.snd = (S.take j).flatMap (fun x => (oneL s).map fun y => x ++ [y]) ∧ rs.length = j * (oneL s).length ∧ Grow F 1 41 encRw L' v rs ∧ (∀ x ∈ rs, RwOk F 2 encSt x) ∧
    E = [(1, .v (.int .i64 n)), (5, .v (.slice sa (oneL s).length sc)), (8, .v (.slice a S.length c)), (9, .v (.int .i64 i)), (10, .v v), (11, .v (.int .i64 j))] ∧ B = [])
   ⟨0, _, L2, [], rfl, by omega, Le.refl _, rfl, by simp, Grow.nil (Le.refl _), (fun x hx => by cases hx), rfl, rfl⟩ (by exact ⟨rfl, rfl, rfl, rfl, rfl, rfl, trivial⟩) trivial ?_
  rintro _ _ _ L3 ⟨j, v, F, rs, rfl, hj, hLF, hrs, hrl, hgr, hrk, rfl, rfl⟩ again2
  refine W.go 99 rfl ?_
  refine W.split rfl rfl rfl (fun e2 => W.go 99 rfl ?_) (fun e2 => W.go 99 rfl ?_)
  ·have hjl : j < S.length := by simpa using e2
   obtain ⟨x, hx⟩ : ∃ x, S[j]? = some x := ⟨_, List.getElem?_eq_getElem hjl⟩
   have hxl := hmem x (List.mem_of_getElem? hx)
   obtain ⟨a', rfl⟩ := hrows.addr hjl
   obtain ⟨xa, xc, hxc, hxs⟩ := hrows.row hx
   have hjn : (j + 1) * (oneL s).length ≤ 169 * 13 := Nat.mul_le_mul (by omega) hsl
   have hjn2 : (j + 1) * (oneL s).length = j * (oneL s).length + (oneL s).length := Nat.succ_mul j _
   refine W.loop (fun w E B L' => ∃ (y : Nat) (v : Value) (F' : LH) (rs' : List (Rw Stand)), w = (oneL s).length - y ∧ y ≤ (oneL s).length ∧ Le F F' ∧ rs'.map Prod.snd = rs.map Prod.snd ++ ((oneL s).take y).map (fun y => x ++ [y]) ∧ rs'.length = j * (oneL s).length + y ∧ Grow F' 1 41 encRw L' v rs' ∧ (∀ x ∈ rs', RwOk F' 2 encSt x) ∧
     E = [(1, .v (.int .i64 n)), (5, .v (.slice sa (oneL s).length sc)), (8, .v (.slice (some a') S.length c)), (9, .v (.int .i64 i)), (10, .v v), (11, .v (.int .i64 j)), (12, .v (.int .i64 y))] ∧ B = [])
    ⟨0, v, F, rs, rfl, by omega, Le.refl _, by simp, by omega, hgr, hrk, rfl, rfl⟩ (by exact ⟨rfl, rfl, rfl, rfl, rfl, rfl, rfl, trivial⟩) trivial ?_
   clear hgr hrk
   rintro _ _ _ L4 ⟨y, v, F3, rs3, rfl, hy, hFF3, hrs3, hrl3, hgr3, hrk3, rfl, rfl⟩ again3
   have hF3 : Le L2 F3 := hLF.trans hFF3
   refine W.go 99 rfl ?_
   refine W.split rfl rfl rfl (fun e3 => W.go 99 rfl ?_) (fun e3 => W.go 99 rfl ?_)
   ·have hyn : y < (oneL s).length := by simpa using e3
    have hye := List.getElem?_eq_getElem hyn
    obtain ⟨ya, rfl⟩ := hsp.addr hyn
    obtain ⟨va, vc, rfl, -⟩ := hgr3.slice
    refine W.drawn (by kernel_rfl) L2 (hF3.trans hgr3.1) ?_
    refine DD.run' [0, 1, 2, 6, 7] rfl ?_
    refine DD.vf 3 rfl rfl rfl rfl rfl (Vf.idx1 rfl rfl rfl rfl rfl rfl rfl (hjl)) ?_
    refine DD.vf 4 rfl rfl rfl rfl rfl (Vf.load rfl rfl rfl (hxc)) ?_
    refine DD.vf 8 rfl rfl rfl rfl rfl (Vf.idx rfl rfl rfl rfl rfl rfl (hyn)) ?_
    refine DD.vf 9 rfl rfl rfl rfl rfl (Vf.loadN rfl rfl rfl (hsl2.whole hye rfl)) ?_
    refine DD.run' [10] rfl ?_
    refine DD.act 5 rfl rfl rfl rfl rfl (Ef.call rfl ((DupStands_sp xa xc x L4 (hxs.le (hF3.trans hgr3.1)) (by omega)))) ((by rintro _ _ _ ⟨_, rfl, rfl, g⟩; exact ⟨(hF3.trans hgr3.1).trans g.1, rfl, .inl rfl⟩)) ?_
    rintro _ _ _ ⟨_, rfl, rfl, hg1⟩
    rename_i L5 _
    obtain ⟨da, dc, rfl, -⟩ := hg1.slice
    refine DD.act 11 rfl rfl rfl rfl rfl (Ef.grow rfl rfl rfl rfl rfl rfl rfl rfl rfl encSt_len encSt_sg hg1 (ls := [(oneL s)[y]]) (.own rfl rfl rfl rfl) (by simp; omega)) ((by rintro _ _ _ ⟨_, rfl, rfl, g, _⟩; exact ⟨(hF3.trans hgr3.1).trans g.1, rfl, .inl rfl⟩)) ?_
    rintro _ _ _ ⟨v1, rfl, rfl, hg2, -⟩
    rename_i L6
    have hg2 : Grow L4 2 30 encSt L6 v1 (x ++ [(oneL s)[y]]) := hg2
    obtain ⟨wa, wc, rfl, -⟩ := hg2.slice
    obtain ⟨F5, hFF5, hF5L, hw5, hf5⟩ := hg2.foot encSt_len hgr3.1
    have hgr5 : Grow F5 1 41 encRw L6 _ rs3 := hgr3.rebase hg2.1 hF5L hf5
    refine DD.run' [12] rfl ?_
    refine DD.act 13 rfl rfl rfl rfl rfl (Ef.grow rfl rfl rfl rfl rfl rfl rfl rfl rfl encRw_len encRw_sg hgr5 (ls := [((wa, (x ++ [(oneL s)[y]]).length, wc), x ++ [(oneL s)[y]])]) (.own rfl rfl rfl rfl) (by simp; omega)) ((by rintro _ _ _ ⟨_, rfl, rfl, g, _⟩; exact ⟨(hF3.trans hFF5).trans g.1, rfl, .inl rfl⟩)) ?_
    rintro _ _ _ ⟨v2, rfl, rfl, hg6, -⟩
    refine DD.run' [14] rfl ?_
    refine .fin rfl ?_
    refine W.go 99 rfl ?_
    refine W.again (again3 _ _ _ _ (by omega) ⟨y + 1, v2, F5, _, rfl, by omega, hFF3.trans hFF5, ?_, by simp; omega, hg6, ?_, rfl, rfl⟩) ⟨rfl, rfl, rfl, rfl, rfl, rfl, congrArg some (inc64 (by omega)), trivial⟩ trivial
    ·rw [List.map_append, hrs3, List.take_succ_eq_append_getElem hyn]
     simp only [List.map_append, List.map_cons, List.map_nil, List.append_assoc]
    ·intro z hz
     rcases List.mem_append.1 hz with hz | hz
     ·exact (hrk3 z hz).le hFF5
     ·rw [List.mem_singleton.1 hz]; exact ⟨hw5, rfl⟩
   ·have hye : y = (oneL s).length := by simp at e3; omega
    subst hye
    rw [List.take_length] at hrs3
    refine W.again (again2 _ _ _ _ (by omega) ⟨j + 1, v, F3, rs3, rfl, by omega, hF3, ?_, by omega, hgr3, hrk3, rfl, rfl⟩) ⟨rfl, rfl, rfl, rfl, rfl, congrArg some (inc64 (by omega)), trivial⟩ trivial
    obtain ⟨_, rfl⟩ := List.getElem?_eq_some_iff.1 hx
    rw [hrs3, hrs, List.take_succ_eq_append_getElem hjl, List.flatMap_append, List.flatMap_singleton]
  ·have hje : j = S.length := by simp at e2; omega
   subst hje
   rw [List.take_length, ← hstep] at hrs
   have hgL : GrowL L2 41 2 encSt L3 v (allP s (i + 1)) := ⟨F, rs, hLF, hrs, hgr, hrk⟩
   obtain ⟨va, vc, rfl⟩ := hgL.slice
   refine W.again (again _ _ _ _ (by omega) ⟨i + 1, va, vc, rfl, by omega, hl2.trans hgL.hle, hgL.at.2, rfl, rfl⟩) ⟨rfl, rfl, rfl, congrArg some (inc64 (by omega)), trivial⟩ trivial
 ·have hie : i = n := by simp at e1; omega
  subst hie
  refine W.ret r rfl rfl ?_
  exact ⟨a, c, rfl, hl1.trans hl2, hrows⟩
end Go.Mz


set_option maxRecDepth 100000
namespace Go.Mz
open Go
theorem firstMin_snoc {α : Type} (f : α → Int) (l : List α) (x : α) : firstMin f (l ++ [x]) = takeLess f (firstMin f l) x := by
 unfold firstMin
 rw [List.foldl_append]; rfl
def okP (s : St) (t : List Int) (p : List Stand) : Bool := planE s t p == 0
def fullP (s : St) (p : List Stand) : Bool := decide (cnt p = s.cones.length)
theorem most_of {s : St} {t : List Int} (h : Ok s) : mostS s t = (firstMin (fun p => - cnt p) ((allP s s.cones.length).filter (okP s t))).getD [] := by
 unfold mostS
 rw [plans_all h]; rfl
theorem all_of {s : St} {t : List Int} (h : Ok s) : allS s t = (((allP s s.cones.length).filter (okP s t)).filter (fullP s)).head? := by
 unfold allS
 rw [plans_each h, plans_all h]; rfl
theorem soon_of {s : St} {t : List Int} (h : Ok s) : soonS s t = firstMin (lastS s t) (((allP s s.cones.length).filter (okP s t)).filter (fullP s)) := by
 unfold soonS
 rw [plans_each h, plans_all h]; rfl
theorem verdict_of {s : St} {t : List Int} (h : Ok s) (i : Nat) : verdictS s t i =
  let l := ((allP s s.cones.length).filter (okP s t)).filter fun p => cnt p == cnt (mostS s t)
  let isIn (p : List Stand) : Bool := match p[i]? with | some a => decide (0 ≤ a.shelf) | none => false
  if l.all isIn then 1 else if l.any isIn then 3 else 2 := by
 unfold verdictS
 rw [plans_all h]; rfl
def pickP (P : List (List Stand)) (o : Option Nat) : Option (List Stand) := o.bind (P[·]?)
def ixI : Option Nat → Int
 | none => -1
 | some k => k
theorem take_flt {P : List (List Stand)} {q : List Stand → Bool} {i : Nat} {p : List Stand} (hp : P[i]? = some p) : (P.take (i + 1)).filter q = (P.take i).filter q ++ if q p then [p] else [] := by
 obtain ⟨hi, rfl⟩ := List.getElem?_eq_some_iff.1 hp
 rw [List.take_succ_eq_append_getElem hi, List.filter_append]
 cases hq : q P[i] <;> simp [hq]
theorem best_step {P : List (List Stand)} {q : List Stand → Bool} {f : List Stand → Int} {i : Nat} {p : List Stand} {o : Option Nat} (hp : P[i]? = some p) (h : firstMin f ((P.take i).filter q) = pickP P o) (ho : ∀ k, o = some k → k < i) :
  (q p = false → firstMin f ((P.take (i + 1)).filter q) = pickP P o) ∧
  (q p = true → (o = none → firstMin f ((P.take (i + 1)).filter q) = pickP P (some i)) ∧ ∀ k y, o = some k → P[k]? = some y → firstMin f ((P.take (i + 1)).filter q) = pickP P (if f p < f y then some i else o)) := by
 rw [take_flt hp]
 constructor
 ·intro hq
  rw [hq]; simpa using h
 ·intro hq
  rw [hq, if_pos rfl, firstMin_snoc, h]
  constructor
  ·rintro rfl
   show takeLess f none p = P[i]?
   rw [hp]; rfl
  ·rintro k y rfl hy
   show takeLess f P[k]? p = _
   rw [hy]
   unfold takeLess
   simp only
   split
   ·show some p = P[i]?
    rw [hp]
   ·show some y = P[k]?
    rw [hy]
theorem first_step {P : List (List Stand)} {q : List Stand → Bool} {i : Nat} {p : List Stand} {o : Option Nat} (hp : P[i]? = some p) (h : ((P.take i).filter q).head? = pickP P o) (ho : ∀ k, o = some k → k < i) :
  ((P.take (i + 1)).filter q).head? = pickP P (if q p = true ∧ o = none then some i else o) := by
 have hil := (List.getElem?_eq_some_iff.1 hp).1
 rw [take_flt hp]
 cases o with
 | none =>
  have h0 : (P.take i).filter q = [] := by
   cases hl : (P.take i).filter q with
   | nil => rfl
   | cons a l => rw [hl] at h; simp [pickP] at h
  rw [h0]
  cases hq : q p with
  | false => simp [pickP]
  | true => simp [pickP, hp]
 | some k =>
  have hk := ho k rfl
  have hkP : P[k]? = some P[k] := List.getElem?_eq_getElem (by omega)
  have h1 : ((P.take i).filter q).head? = some P[k] := by rw [h]; exact hkP
  have hn : ¬ (q p = true ∧ some k = none) := fun h => by have := h.2; cases this
  rw [if_neg hn, List.head?_append, h1]
  exact hkP.symm
end Go.Mz

