/- Lemmas on which the claim leans. -/
import Derived.Test.YtnhckcgdmolgcaaGreatDoorMzAv
set_option maxRecDepth 100000
namespace Go.Mz
open Go Go.Conc Go.Proofs
def plansG (s : St) (hs : List Int) (each : Bool) (b : List Stand) : List (List Stand) := if fitsS s hs b then grow (fitsS s hs) ((optsS s hs allC each).drop b.length) b else []
section
variable {s : St} {hs : List Int} {each : Bool} {b : List Stand}
end
def heatsG (s : St) (b : List Int) : List (List Int) := (heatsAll s.top s.rise (s.days.toNat - b.length) (b.getLast?.getD s.now)).map (b ++ ·)
section
variable {s : St} {b : List Int}
end
def fireStep (s : St) (b : Option (List Int)) (x : List Int) : Option (List Int) := if canS s x then takeLess sumL b x else b
end Go.Mz


set_option maxRecDepth 100000
namespace Go.Mz
open Go
section
variable {s : St} {hs : List Int}
end
def pickL (n : Nat) : Nat → Nat → List (List Nat)
 | 0, _ => [[]]
 | m + 1, first => (List.range' first (n - first)).flatMap fun i => (pickL n m (i + 1)).map (i :: ·)
end Go.Mz


namespace Go.Mz
open Go
theorem mem_grow {fit : List Stand → Bool} : ∀ {os : List (List Stand)} {b x : List Stand}, x ∈ grow fit os b ↔ ∃ t, x = b ++ t ∧ t.length = os.length ∧ (∀ (i : Nat) (o : List Stand) (a : Stand), os[i]? = some o → t[i]? = some a → a ∈ o) ∧ ∀ i, i < t.length → fit (b ++ t.take (i + 1)) = true
 | [], b, x => by
  simp only [grow, List.mem_singleton]
  constructor
  ·rintro rfl; exact ⟨[], by simp, rfl, fun i o a h => by simp at h, fun i h => by simp at h⟩
  ·rintro ⟨t, rfl, h, _⟩
   obtain rfl := List.length_eq_zero_iff.1 h
   simp
 | o :: os, b, x => by
  simp only [grow, List.mem_flatMap]
  constructor
  ·rintro ⟨a, ha, hx⟩
   by_cases hf : fit (b ++ [a]) = true
   ·rw [if_pos hf] at hx
    obtain ⟨t, rfl, h1, h2, h3⟩ := mem_grow.1 hx
    refine ⟨a :: t, by simp, by simp [h1], fun i o' a' ho ha' => ?_, fun i hi => ?_⟩
    ·cases i with
     | zero => simp at ho ha'; subst ho; subst ha'; exact ha
     | succ i => exact h2 i o' a' (by simpa using ho) (by simpa using ha')
    ·cases i with
     | zero => simpa using hf
     | succ i => have := h3 i (by simpa using hi); simpa using this
   ·rw [if_neg hf] at hx; cases hx
  ·rintro ⟨t, rfl, h1, h2, h3⟩
   cases t with
   | nil => simp at h1
   | cons a t =>
    have hf : fit (b ++ [a]) = true := by have := h3 0 (by simp); simpa using this
    refine ⟨a, h2 0 o a rfl rfl, ?_⟩
    rw [if_pos hf]
    refine mem_grow.2 ⟨t, by simp, by simpa using h1, fun i o' a' ho ha' => h2 (i + 1) o' a' (by simpa using ho) (by simpa using ha'), fun i hi => ?_⟩
    have := h3 (i + 1) (by simpa using hi)
    simpa using this
theorem filter_le {α : Type} {p q : α → Bool} {l : List α} (h : ∀ x ∈ l, p x = true → q x = true) : (l.filter p).length ≤ (l.filter q).length := by
 rw [← List.countP_eq_length_filter, ← List.countP_eq_length_filter]
 exact List.countP_mono_left h
theorem fits_iff {s : St} {hs : List Int} {l : List Stand} : fitsS s hs l = true ↔ ∀ k, k < s.shelves.length → ∀ d, d < s.days.toNat → ((onS s hs l k d).length : Int) ≤ roomOf s k := by
 unfold fitsS
 simp only [List.all_eq_true, List.mem_range, decide_eq_true_eq]
theorem on_mono {s : St} {hs : List Int} {l m : List Stand} {k d : Nat} : (onS s hs l k d).length ≤ (onS s hs (l ++ m) k d).length := by
 unfold onS
 refine filter_le fun i _ h => ?_
 unfold onB at h ⊢
 cases hl : l[i]? with
 | none => rw [hl] at h; cases h
 | some a =>
  have : (l ++ m)[i]? = some a := by rw [List.getElem?_append_left (List.getElem?_eq_some_iff.1 hl).1]; exact hl
  rw [hl] at h
  rw [this]
  exact h
theorem fits_pre {s : St} {hs : List Int} {l m : List Stand} (h : fitsS s hs (l ++ m) = true) : fitsS s hs l = true := by
 rw [fits_iff] at h ⊢
 intro k hk d hd
 have h1 := h k hk d hd
 have h2 := on_mono (s := s) (hs := hs) (l := l) (m := m) (k := k) (d := d)
 omega
theorem mem_plans {s : St} (h : Ok s) {hs : List Int} {so : Nat → Bool} {each : Bool} {x : List Stand} :
  x ∈ plansS s hs so each ↔ x.length = s.cones.length ∧ (∀ (i : Nat) (c : Cone) (a : Stand), s.cones[i]? = some c → x[i]? = some a → a ∈ optS s hs (so i) each c) ∧ fitsS s hs x = true := by
 unfold plansS
 rw [mem_grow]
 constructor
 ·rintro ⟨t, ht, h1, h2, h3⟩
  have ht : x = t := by simpa using ht
  subst ht
  rw [opts_len] at h1
  refine ⟨h1, fun i c a hc ha => h2 i _ a (opts_get hc) ha, ?_⟩
  cases ht : x.length with
  | zero =>
   obtain rfl := List.length_eq_zero_iff.1 ht
   exact fits_nil h hs
  | succ m =>
   have := h3 m (by omega)
   rw [List.take_of_length_le (by omega)] at this
   exact this
 ·rintro ⟨h1, h2, h3⟩
  refine ⟨x, rfl, by rw [opts_len]; exact h1, fun i o a ho ha => ?_, fun i hi => ?_⟩
  ·have hi : i < s.cones.length := by
    have := (List.getElem?_eq_some_iff.1 ho).1
    rw [opts_len] at this; exact this
   have hc : s.cones[i]? = some s.cones[i] := List.getElem?_eq_getElem hi
   rw [opts_get hc] at ho
   cases ho
   exact h2 i _ a hc ha
  ·refine fits_pre (m := x.drop (i + 1)) ?_
   rw [List.nil_append, List.take_append_drop]
   exact h3
theorem most_mem {s : St} (h : Ok s) (hs : List Int) : mostS s hs ∈ plansS s hs allC false := by
 obtain ⟨y, hy⟩ := firstMin_some (f := fun p => - cnt p) (plans_ne h hs allC)
 unfold mostS
 rw [hy]
 exact firstMin_mem hy
theorem most_max {s : St} (h : Ok s) {hs : List Int} {x : List Stand} (hx : x ∈ plansS s hs allC false) : cnt x ≤ cnt (mostS s hs) := by
 obtain ⟨y, hy⟩ := firstMin_some (f := fun p => - cnt p) (plans_ne h hs allC)
 have := firstMin_le hy x hx
 unfold mostS
 rw [hy]
 simp only [Option.getD_some]
 omega
end Go.Mz


namespace Go.Mz
open Go
structure Harder (c c' : Cone) : Prop where
 cold : c.cold ≤ c'.cold
 jump : c.jump ≤ c'.jump
 most : c.most ≤ c'.most
 wet : c'.wet ≤ c.wet
theorem Harder.refl (c : Cone) : Harder c c := ⟨Int.le_refl _, Int.le_refl _, Int.le_refl _, Int.le_refl _⟩
structure Wider (s s' : St) : Prop where
 sh : s'.shelves.length = s.shelves.length
 lift : ∀ k, liftOf s' k = liftOf s k
 room : ∀ k, k < s.shelves.length → roomOf s k ≤ roomOf s' k
 days : s'.days = s.days
 len : s'.cones.length = s.cones.length
 co : ∀ (i : Nat) c c', s.cones[i]? = some c → s'.cones[i]? = some c' → Harder c c'
theorem opt_dry {s : St} {hs : List Int} {so each : Bool} {c : Cone} {a : Stand} (h : a ∈ optS s hs so each c) : a = none1 ∨ (a ∈ grid s ∧ (fateS s hs c a).1 = 0) := by
 unfold optS at h
 rcases List.mem_append.1 h with h | h
 ·left
  split at h
  ·exact List.mem_singleton.1 h
  ·cases h
 ·right
  split at h
  ·have := List.mem_filter.1 h; exact ⟨this.1, by simpa using this.2⟩
  ·cases h
end Go.Mz


namespace Go.Mz
open Go
structure Renum (s s' : St) (σ : Nat → Nat) : Prop where
 sh : s'.shelves.length = s.shelves.length
 rng : ∀ k, k < s.shelves.length → σ k < s.shelves.length
 inj : ∀ j k, j < s.shelves.length → k < s.shelves.length → σ j = σ k → j = k
 sur : ∀ k, k < s.shelves.length → ∃ j, j < s.shelves.length ∧ σ j = k
 get : ∀ k, k < s.shelves.length → s'.shelves[σ k]? = s.shelves[k]?
 days : s'.days = s.days
 cones : s'.cones = s.cones
def mapSt (σ : Nat → Nat) (a : Stand) : Stand := if a.shelf < 0 then a else ⟨(σ a.shelf.toNat : Nat), a.day⟩
theorem map_none (σ : Nat → Nat) : mapSt σ none1 = none1 := rfl
theorem mem_grid {s : St} {a : Stand} : a ∈ grid s ↔ ∃ k d : Nat, k < s.shelves.length ∧ d < s.days.toNat ∧ a = ⟨k, d⟩ := by
 unfold grid
 simp only [List.mem_flatMap, List.mem_map, List.mem_range]
 constructor
 ·rintro ⟨k, hk, d, hd, rfl⟩; exact ⟨k, d, hk, hd, rfl⟩
 ·rintro ⟨k, d, hk, hd, rfl⟩; exact ⟨k, hk, d, hd, rfl⟩
theorem map_grid (σ : Nat → Nat) (k d : Nat) : mapSt σ ⟨k, d⟩ = ⟨(σ k : Nat), d⟩ := by
 unfold mapSt
 rw [if_neg (by simp only; omega)]
 simp
theorem Renum.lift {s s' : St} {σ : Nat → Nat} (r : Renum s s' σ) {k : Nat} (hk : k < s.shelves.length) : liftOf s' (σ k : Nat) = liftOf s (k : Nat) := by
 unfold liftOf
 simp only [Int.toNat_natCast]
 rw [r.get k hk]
theorem Renum.fate {s s' : St} {σ : Nat → Nat} (r : Renum s s' σ) {k : Nat} (hk : k < s.shelves.length) (hs : List Int) (c : Cone) (d : Nat) : fateS s' hs c ⟨(σ k : Nat), d⟩ = fateS s hs c ⟨k, d⟩ := by
 unfold fateS
 simp only
 rw [r.lift hk]
theorem Renum.plans {s s' : St} {σ : Nat → Nat} (r : Renum s s' σ) (h : Ok s) (h' : Ok s') {hs : List Int} {so : Nat → Bool} {each : Bool} {x : List Stand} (hx : x ∈ plansS s hs so each) : x.map (mapSt σ) ∈ plansS s' hs so each := by
 obtain ⟨h1, h2, h3⟩ := (mem_plans h).1 hx
 refine (mem_plans h').2 ⟨by rw [r.cones]; simpa using h1, fun i c a hc ha => ?_, ?_⟩
 ·rw [r.cones] at hc
  rw [List.getElem?_map] at ha
  obtain ⟨a0, ha0, rfl⟩ := Option.map_eq_some_iff.1 ha
  have := h2 i c a0 hc ha0
  unfold optS at this ⊢
  rcases List.mem_append.1 this with this | this
  ·refine List.mem_append_left _ ?_
   split at this
   ·rename_i hh
    rw [if_pos hh]
    rw [List.mem_singleton.1 this]
    exact List.mem_singleton.2 rfl
   ·cases this
  ·refine List.mem_append_right _ ?_
   split at this
   ·rename_i hso
    rw [if_pos hso]
    obtain ⟨g1, g2⟩ := List.mem_filter.1 this
    obtain ⟨k, d, hk, hd, rfl⟩ := mem_grid.1 g1
    rw [map_grid]
    refine List.mem_filter.2 ⟨mem_grid.2 ⟨σ k, d, by rw [r.sh]; exact r.rng k hk, by rw [r.days]; exact hd, rfl⟩, ?_⟩
    rw [r.fate hk]
    exact g2
   ·cases this
 ·rw [fits_iff] at h3 ⊢
  intro k' hk' d hd
  rw [r.sh] at hk'
  rw [r.days] at hd
  obtain ⟨k, hk, rfl⟩ := r.sur k' hk'
  have hon : onS s' hs (x.map (mapSt σ)) (σ k) d = onS s hs x k d := by
   unfold onS
   rw [r.cones]
   refine List.filter_congr fun i hi => ?_
   have hi := List.mem_range.1 hi
   have hc : s.cones[i]? = some s.cones[i] := List.getElem?_eq_getElem hi
   unfold onB
   rw [r.cones, hc, List.getElem?_map]
   cases ha : x[i]? with
   | none => rfl
   | some a =>
    simp only [Option.map_some]
    rcases opt_dry (h2 i _ a hc ha) with rfl | ⟨hg, _⟩
    ·have e1 : ((mapSt σ none1).shelf == ((σ k : Nat) : Int)) = false := by rw [map_none]; simp [none1]
     have e2 : (none1.shelf == ((k : Nat) : Int)) = false := by simp [none1]
     rw [e1, e2]; simp
    ·obtain ⟨j, e, hj, he, rfl⟩ := mem_grid.1 hg
     rw [map_grid, r.fate hj]
     have e1 : (((σ j : Nat) : Int) == ((σ k : Nat) : Int)) = ((j : Int) == (k : Int)) := by
      by_cases e : j = k
      ·subst e; simp
      ·have : σ j ≠ σ k := fun g => e (r.inj j k hj hk g)
       rw [beq_eq_false_iff_ne.2 (by omega), beq_eq_false_iff_ne.2 (by omega)]
     rw [e1]
  have hr : roomOf s' (σ k) = roomOf s k := by unfold roomOf; rw [r.get k hk]
  rw [hon, hr]
  exact h3 k hk d hd
theorem cnt_map {s : St} (h : Ok s) {hs : List Int} {so : Nat → Bool} {each : Bool} {x : List Stand} (hx : x ∈ plansS s hs so each) (σ : Nat → Nat) : cnt (x.map (mapSt σ)) = cnt x := by
 unfold cnt
 rw [List.countP_map]
 congr 1
 refine List.countP_congr fun a ha => ?_
 simp only [Function.comp, decide_eq_true_eq]
 unfold mapSt
 split
 ·rfl
 ·rename_i hh
  constructor
  ·intro _; omega
  ·intro _; simp only; omega
theorem Renum.inv {s s' : St} {σ : Nat → Nat} (r : Renum s s' σ) : ∃ τ, Renum s' s τ := by
 classical
 have hc : ∀ k, ∃ j, k < s.shelves.length → j < s.shelves.length ∧ σ j = k := fun k => by
  by_cases hk : k < s.shelves.length
  ·obtain ⟨j, hj⟩ := r.sur k hk; exact ⟨j, fun _ => hj⟩
  ·exact ⟨0, fun h => absurd h hk⟩
 obtain ⟨τ, hτ⟩ := Classical.axiomOfChoice hc
 refine ⟨τ, r.sh.symm, fun k hk => ?_, fun j k hj hk e => ?_, fun k hk => ?_, fun k hk => ?_, r.days.symm, r.cones.symm⟩
 ·rw [r.sh] at hk ⊢; exact (hτ k hk).1
 ·rw [r.sh] at hj hk; rw [← (hτ j hj).2, ← (hτ k hk).2, e]
 ·rw [r.sh] at hk ⊢
  exact ⟨σ k, r.rng k hk, r.inj _ _ (hτ _ (r.rng k hk)).1 hk (hτ _ (r.rng k hk)).2⟩
 ·rw [r.sh] at hk
  have := r.get (τ k) (hτ k hk).1
  rw [(hτ k hk).2] at this
  exact this.symm
theorem Renum.most {s s' : St} {σ : Nat → Nat} (r : Renum s s' σ) (h : Ok s) (h' : Ok s') (hs : List Int) : cnt (mostS s hs) = cnt (mostS s' hs) := by
 have key : ∀ {s s' : St} {σ : Nat → Nat}, Renum s s' σ → Ok s → Ok s' → cnt (mostS s hs) ≤ cnt (mostS s' hs) := fun {s s' σ} r h h' => by
  have h1 := most_mem h hs
  rw [← cnt_map h h1 σ]
  exact most_max h' (r.plans h h' h1)
 obtain ⟨τ, rτ⟩ := r.inv
 have h1 := key r h h'
 have h2 := key rτ h' h
 omega
theorem Renum.can {s s' : St} {σ : Nat → Nat} (r : Renum s s' σ) (h : Ok s) (h' : Ok s') (hs : List Int) : canS s hs = canS s' hs := by
 have key : ∀ {s s' : St} {σ : Nat → Nat}, Renum s s' σ → Ok s → Ok s' → canS s hs = true → canS s' hs = true := fun {s s' σ} r h h' hc => by
  unfold canS at hc ⊢
  cases hp : plansS s hs allC true with
  | nil => rw [hp] at hc; simp at hc
  | cons x l =>
   have hx : x ∈ plansS s hs allC true := by rw [hp]; exact List.mem_cons_self ..
   have := r.plans h h' hx
   cases hp' : plansS s' hs allC true with
   | nil => rw [hp'] at this; cases this
   | cons _ _ => rfl
 obtain ⟨τ, rτ⟩ := r.inv
 cases h1 : canS s hs with
 | true => exact (key r h h' h1).symm
 | false =>
  cases h2 : canS s' hs with
  | false => rfl
  | true => rw [key rτ h' h h2] at h1; cases h1
theorem Renum.fire {s s' : St} {σ : Nat → Nat} (r : Renum s s' σ) (h : Ok s) (h' : Ok s') (e : s'.top = s.top ∧ s'.rise = s.rise ∧ s'.now = s.now) : fireS s' = fireS s := by
 unfold fireS heatsS
 rw [e.1, e.2.1, e.2.2, r.days]
 congr 1
 exact List.filter_congr fun x _ => (r.can h h' x).symm
end Go.Mz


set_option maxRecDepth 100000
namespace Go.Mz
open Go.Conc Go.Proofs
abbrev Rw (α : Type) := Rf × List α
def encRw {α : Type} (x : Rw α) : List Value := [slV x.1]
theorem encRw_len {α : Type} (x : Rw α) : (encRw x).length = 1 := rfl
structure RwOk {α : Type} (L : LH) (k : Nat) (enc : α → List Value) (x : Rw α) : Prop where
 sl : SlAt L x.1.1 k enc x.2
 len : x.1.2.1 = x.2.length
theorem RwOk.le {α : Type} {L L' : LH} {k : Nat} {enc : α → List Value} {x : Rw α} (h : RwOk L k enc x) (hl : Le L L') : RwOk L' k enc x := ⟨h.sl.le hl, h.len⟩
def RowsAt {α : Type} (L : LH) (ad : Option Addr) (k : Nat) (enc : α → List Value) (ls : List (List α)) : Prop := ∃ rs : List (Rw α), rs.map Prod.snd = ls ∧ SlAt L ad 1 encRw rs ∧ ∀ x ∈ rs, RwOk L k enc x
def GrowL {α : Type} (I : LH) (e k : Nat) (enc : α → List Value) (L : LH) (v : Value) (ls : List (List α)) : Prop := ∃ J, ∃ rs : List (Rw α), Le I J ∧ rs.map Prod.snd = ls ∧ Grow J 1 e encRw L v rs ∧ ∀ x ∈ rs, RwOk J k enc x
section
variable {β : Type} {F F' I L L' L2 : LH} {e k : Nat} {enc : β → List Value} {v : Value} {l : List β}
theorem Own.some_blk {v : Value} {n : Nat} {cs : List Value} {ob : Option Nat} (h : Own L k e v n cs ob) {b : Nat} (hb : ob = some b) : L b ≠ none := by subst hb; exact h.blk
theorem Grow.call (h : Grow F k e enc L v l) (p : Post F L F' L2) : Grow F' k e enc L2 v l := by
 obtain ⟨_, ob, ho, hf⟩ := h
 refine ⟨p.le, ob, ho.keep fun b hb => ?_, fun b hb => ?_⟩
 ·cases hx : L b with
  | none => exact absurd hx (ho.some_blk hb)
  | some y => exact p.keep b y (hf b hb) hx
 ·cases hx : F' b with
  | none => rfl
  | some y =>
   rcases p.fresh b (by rw [hx]; simp) with e1 | e1
   ·exact absurd (hf b hb) e1
   ·exact absurd e1 (ho.some_blk hb)
end
section
variable {α : Type} {I L L' : LH} {e k : Nat} {enc : α → List Value} {v : Value} {ls : List (List α)}
theorem GrowL.hle (h : GrowL I e k enc L v ls) : Le I L := let ⟨_, _, h1, _, h, _⟩ := h; h1.trans h.1
theorem GrowL.le (h : GrowL I e k enc L v ls) (hl : Le L L') : GrowL I e k enc L' v ls := let ⟨J, rs, h0, h1, h2, h3⟩ := h; ⟨J, rs, h0, h1, h2.le hl, h3⟩
theorem GrowL.less {I' : LH} (h : GrowL I e k enc L v ls) (hl : Le I' I) : GrowL I' e k enc L v ls := let ⟨J, rs, h0, h1, h2, h3⟩ := h; ⟨J, rs, hl.trans h0, h1, h2, h3⟩
theorem GrowL.nil (h : Le I L) : GrowL I e k enc L (.slice none 0 0) ([] : List (List α)) := ⟨L, [], h, rfl, Grow.nil (Le.refl _), fun x hx => by cases hx⟩
theorem GrowL.slice (h : GrowL I e k enc L v ls) : ∃ ad cap, v = .slice ad ls.length cap := by
 obtain ⟨J, rs, _, rfl, h2, _⟩ := h
 obtain ⟨ad, cap, rfl, -⟩ := h2.slice
 exact ⟨ad, cap, by rw [List.length_map]⟩
theorem GrowL.at {ad : Option Addr} {len cap : Nat} (h : GrowL I e k enc L (.slice ad len cap) ls) : len = ls.length ∧ RowsAt L ad k enc ls := by
 obtain ⟨J, rs, _, rfl, h2, h3⟩ := h
 obtain ⟨rfl, h4⟩ := h2.at encRw_len
 exact ⟨(List.length_map ..).symm, rs, rfl, h4, fun x hx => (h3 x hx).le h2.1⟩
theorem RowsAt.le {ad : Option Addr} (h : RowsAt L ad k enc ls) (hl : Le L L') : RowsAt L' ad k enc ls := let ⟨rs, h1, h2, h3⟩ := h; ⟨rs, h1, h2.le hl, fun x hx => (h3 x hx).le hl⟩
theorem RowsAt.addr {ad : Option Addr} (h : RowsAt L ad k enc ls) {i : Nat} (hi : i < ls.length) : ∃ a, ad = some a := by
 obtain ⟨rs, rfl, h2, _⟩ := h
 exact h2.addr (by simpa using hi)
theorem RowsAt.row {ad : Addr} (h : RowsAt L (some ad) k enc ls) {i : Nat} {l : List α} (hl : ls[i]? = some l) : ∃ a c, L.cell? (ad.add i) = some (.slice a l.length c) ∧ SlAt L a k enc l := by
 obtain ⟨rs, rfl, h2, h3⟩ := h
 rw [List.getElem?_map] at hl
 obtain ⟨⟨⟨a, n, c⟩, l'⟩, hx, rfl⟩ := Option.map_eq_some_iff.1 hl
 have hk := h3 _ (List.mem_of_getElem? hx)
 have hn : n = l'.length := hk.len
 subst hn
 refine ⟨a, c, ?_, hk.sl⟩
 have := h2.get hx (j := 0) (v := slV (a, l'.length, c)) rfl
 simpa using this
theorem Grow.lit {β : Type} {encB : β → List Value} {l : List β} {b : Nat} (hk : ∀ x, (encB x).length = k) (h : Le I L) (hb : L b = some (.cells (l.flatMap encB).toArray e (0, 0), true)) (hn : I b = none) : Grow I k e encB L (.slice (some ⟨b, 0, none⟩) l.length l.length) l :=
 ⟨h, some b, ⟨l.length, (l.flatMap encB).toArray, rfl, hb, by simp [flat_len hk], Nat.le_refl _, flat_len hk l, fun i x hx => by simpa using hx⟩, fun b' hb' => by cases hb'; exact hn⟩
theorem GrowL.one {b : Nat} {a : Option Addr} {c : Nat} {l : List α} (hl : SlAt I a k enc l) (hI : Le I L) (hb : L b = some (.cells #[.slice a l.length c] e (0, 0), true)) (hn : I b = none) : GrowL I e k enc L (.slice (some ⟨b, 0, none⟩) 1 1) [l] :=
 ⟨I, [((a, l.length, c), l)], Le.refl _, rfl, Grow.lit (l := [((a, l.length, c), l)]) encRw_len hI hb hn, fun x hx => by rw [List.mem_singleton.1 hx]; exact ⟨hl, rfl⟩⟩
end
section
variable {X : Logic Tryz.prog}
end
end Go.Mz


set_option maxRecDepth 100000
namespace Go.Mz
open Go.Conc Go.Proofs
variable {X : Logic Tryz.prog}
def Got {α : Type} (L : LH) (k : Nat) (enc : α → List Value) (l : List α) (v : Value) (L' : LH) : Prop := ∃ ad cap, v = .slice ad l.length cap ∧ Le L L' ∧ SlAt L' ad k enc l
theorem Got.nil {α : Type} {L L' : LH} {k : Nat} {enc : α → List Value} (h : Le L L') : Got L k enc ([] : List α) (.slice none 0 0) L' := ⟨none, 0, rfl, h, SlAt.empty⟩
end Go.Mz


set_option maxRecDepth 100000
namespace Go.Mz
open Go.Conc Go.Proofs
variable {X : Logic Tryz.prog}
def BestAt (L : LH) (o : Option (List Int)) (v : Value) : Prop := match o with
 | none => v = .slice none 0 0
 | some y => ∃ a c, v = .slice a y.length c ∧ IntsAt L a y
theorem BestAt.le {L L' : LH} {o : Option (List Int)} {v : Value} (h : BestAt L o v) (hl : Le L L') : BestAt L' o v := by
 cases o with
 | none => exact h
 | some y => obtain ⟨a, c, h1, h2⟩ := h; exact ⟨a, c, h1, h2.le hl⟩
end Go.Mz


set_option maxRecDepth 100000
namespace Go.Mz
open Go.Conc Go.Proofs
variable {X : Logic Tryz.prog}
def zS : St := ⟨[], [], 0, 0, 0, 0⟩
def AddE (s : St) (c : Cone) : St × Int :=
 if checkE s ≠ 0 then (zS, checkE s) else if s.cones.length = 3 then (zS, 6) else if coneE c ≠ 0 then (zS, coneE c) else
 if (fireS s).isSome && !(fireS (moreS s c)).isSome then (zS, 9) else (moreS s c, 0)
theorem zS_at (L : LH) : StAt L zS ⟨none, none, 0, 0⟩ := ⟨SlAt.empty, SlAt.empty, by simp [zS], by simp [zS]⟩
theorem more_ok {s : St} {c : Cone} (h : Ok s) (h3 : s.cones.length ≠ 3) (hc : coneE c = 0) : Ok (moreS s c) :=
  { h with
    c3 := by have := h.c3; show (s.cones ++ [c]).length ≤ 3; simp; omega
    co := fun x hx => by
      rcases List.mem_append.1 (show x ∈ s.cones ++ [c] from hx) with hx | hx
      · exact h.co x hx
      · rw [List.mem_singleton.1 hx]; exact coneE_0.1 hc }
theorem rMore_sp (s : St) (p : Pt) (c : Cone) (L : LH) (h : StAt L s p) (h1 : s.shelves.length ≤ 1000000) (h2 : s.cones.length ≤ 1000000) :
  Sp X 62 [stA s p, .agg (encCo c).toArray] L (fun v L' => ∃ p', v = stA (moreS s c) p' ∧ Le L L' ∧ StAt L' (moreS s c) p') := by
 refine Sp.enter (n := 19) Tryz.func62 rfl rfl rfl rfl fun C hX _ hL0 r => ?_
 refine W.go 99 rfl ?_
 refine W.drawn (by kernel_rfl) _ (Le.refl _) ?_
 refine DD.run' [0, 1, 2, 4, 5] rfl ?_
 refine DD.act 3 rfl rfl rfl rfl rfl (Ef.pub 5 (.inr ⟨_, _, _, rfl⟩) rfl rfl (fun b3 hb3 _ => Ef.grow rfl rfl rfl rfl rfl rfl rfl rfl rfl encCo_len encCo_sg (Grow.new (Le.put hb3 _) (put_same _ _ _) hb3) (ls := s.cones) (.sl (h.co.le (Le.put hb3 _)) encCo_len rfl) (by simp; omega))) ((by rintro _ _ _ ⟨b3, hb3, _, _, rfl, rfl, hg, _⟩; exact ⟨hg.1, rfl, .inl rfl⟩)) ?_
 rintro _ _ _ ⟨b3, hb3, _, v1, rfl, rfl, hg1, -⟩
 rw [List.nil_append] at hg1
 refine DD.act 6 rfl rfl rfl rfl rfl (Ef.grow rfl rfl rfl rfl rfl rfl rfl rfl rfl encCo_len encCo_sg hg1 (ls := [c]) (.own rfl rfl rfl rfl) (by simp; omega)) ((by rintro _ _ _ ⟨_, rfl, rfl, hg, _⟩; exact ⟨hg.1, rfl, .inl rfl⟩)) ?_
 rintro _ _ _ ⟨v2, rfl, rfl, hg2, -⟩
 rename_i L2
 have hg2 : Grow L 4 27 encCo L2 v2 (s.cones ++ [c]) := hg2
 obtain ⟨ca, cc, rfl, -⟩ := hg2.slice
 refine DD.run' [7] rfl ?_
 refine DD.act 8 rfl rfl rfl rfl rfl (Ef.sto rfl) (by rintro _ _ _ ⟨rfl, rfl, rfl⟩; exact ⟨hg2.1, rfl, .inr rfl⟩) ?_
 rintro _ _ _ ⟨rfl, rfl, rfl⟩
 refine .fin rfl ?_
 refine W.go 99 rfl ?_
 refine W.pub 13 (.inr ⟨_, _, _, rfl⟩) rfl rfl ?_
 intro b4 hb4 _
 refine W.eff rfl rfl rfl (Ef.grow rfl rfl rfl rfl rfl rfl rfl rfl rfl encSh_len encSh_sg (Grow.new (Le.put hb4 _) (put_same _ _ _) hb4) (ls := s.shelves) (.sl ((h.sh.le hg2.1).le (Le.put hb4 _)) encSh_len rfl) (by simp; omega)) ?_
 rintro _ _ _ ⟨v', rfl, rfl, hg3, -⟩
 rw [List.nil_append] at hg3
 obtain ⟨sa, sc, rfl, -⟩ := hg3.slice
 refine W.go 99 rfl ?_
 refine W.ret r rfl rfl ?_
 exact ⟨⟨sa, ca, sc, cc⟩, rfl, hg2.1.trans hg3.1, (hg3.at encSh_len).2, (hg2.at encCo_len).2.le hg3.1, by show s.shelves.length ≤ _; omega, by show (s.cones ++ [c]).length ≤ _; simp; omega⟩
end Go.Mz


set_option maxRecDepth 100000
namespace Go.Mz
open Go.Conc Go.Proofs
variable {Post : Value → World → Prop} {W0 : World}
theorem fireB_sp (s : St) (p : Pt) (L : LH) (hst : StAt L s p) (hok : Ok s) (hgl : GlOk L) : Sp (LFGo Tryz.prog Post W0) 93 [stA s p] L (fun v L' => ∃ u n, v = .tuple #[u, .int .i64 n, .bool (fireS s).isSome] ∧ Dim L L') := by
 refine (fire_sp s p L hst hok hgl).mono ?_ (fun _ _ h => h)
 rintro v L' ⟨h1, h2⟩
 cases hf : fireS s with
 | none => rw [hf] at h1; exact ⟨_, _, h1, h2⟩
 | some l => rw [hf] at h1; obtain ⟨ad, cap, h1, _⟩ := h1; exact ⟨_, _, h1, h2⟩
theorem Add_sp (s : St) (p : Pt) (c : Cone) (L : LH) (h : StAt L s p) (hcap : s.cones.length ≤ p.c2) (hgl : GlOk L) :
  Sp (LFGo Tryz.prog Post W0) 60 [stA s p, .agg (encCo c).toArray] L (fun v L' => ∃ p', v = .tuple #[stA (AddE s c).1 p', .int .i64 (AddE s c).2] ∧ Dim L L' ∧ StAt L' (AddE s c).1 p') := by
 unfold AddE
 refine Sp.enter (n := 69) Tryz.func60 rfl rfl rfl rfl fun C hX _ hL0 r => ?_
 refine W.go 99 rfl ?_
 refine W.eff rfl rfl rfl (Ef.call rfl (Check_sp s p L h)) ?_
 rintro _ _ _ ⟨_, rfl, rfl, rfl, rfl⟩
 refine W.go 99 rfl ?_
 refine W.split rfl rfl rfl (fun e1 => W.go 99 rfl ?_) (fun e1 => W.go 99 rfl ?_)
 ·refine W.ret r rfl rfl ?_
  have h0 : checkE s ≠ 0 := by simpa using e1
  rw [if_pos h0]
  exact ⟨⟨none, none, 0, 0⟩, rfl, Dim.refl _, zS_at _⟩
 have h0 : checkE s = 0 := by simpa using e1
 have hok := ok_iff.1 h0
 have hc3 := hok.c3
 have hs3 := hok.s3
 rw [if_neg (by rw [h0]; simp)] at r
 refine W.split rfl rfl rfl (fun e2 => W.go 99 rfl ?_) (fun e2 => W.go 99 rfl ?_)
 ·refine W.ret r rfl rfl ?_
  have h3 : s.cones.length = 3 := by simp at e2; omega
  rw [if_pos h3]
  exact ⟨⟨none, none, 0, 0⟩, rfl, Dim.refl _, zS_at _⟩
 have h3 : s.cones.length ≠ 3 := by simp at e2; omega
 rw [if_neg h3] at r
 refine W.eff rfl rfl rfl (Ef.call rfl (checkCone_sp c L)) ?_
 rintro _ _ _ ⟨_, rfl, rfl, rfl, rfl⟩
 refine W.go 99 rfl ?_
 refine W.split rfl rfl rfl (fun e3 => W.go 99 rfl ?_) (fun e3 => W.go 99 rfl ?_)
 ·refine W.ret r rfl rfl ?_
  have h4 : coneE c ≠ 0 := by simpa using e3
  rw [if_pos h4]
  exact ⟨⟨none, none, 0, 0⟩, rfl, Dim.refl _, zS_at _⟩
 have h4 : coneE c = 0 := by simpa using e3
 rw [if_neg (by rw [h4]; simp)] at r
 have hokm := more_ok hok h3 h4
 refine W.drawn (by kernel_rfl) _ (Le.refl _) ?_
 refine DD.run' [0, 1, 2, 3, 4, 5, 6, 7, 9, 10] rfl ?_
 refine DD.vf 8 rfl rfl rfl rfl rfl (Vf.slice3 rfl rfl rfl Tryz.underlying23 size27 (Nat.le_refl _) hcap) ?_
 refine DD.act 11 rfl rfl rfl rfl rfl (Ef.appF (enc := encCo) (l := s.cones) (ls := [c]) rfl rfl rfl rfl rfl rfl rfl rfl rfl encCo_len h.co (.own rfl rfl rfl rfl) (by simp) (by simp; omega)) ((by rintro _ _ _ ⟨_, _, _, _, rfl, hb, rfl, _⟩; exact ⟨Le.put hb _, rfl, .inl rfl⟩)) ?_
 rintro _ _ _ ⟨bn, cn, capn, rfl, rfl, hbn, rfl, hown⟩
 refine DD.run' [12] rfl ?_
 have hl1 : Le L (L.put bn (.cells cn 27)) := Le.put hbn _
 refine DD.act 13 rfl rfl rfl rfl rfl (Ef.sto rfl) (by rintro _ _ _ ⟨rfl, rfl, rfl⟩; exact ⟨hl1, rfl, .inr rfl⟩) ?_
 rintro _ _ _ ⟨rfl, rfl, rfl⟩
 refine .fin rfl ?_
 refine W.go 99 rfl ?_
 generalize L.put bn (.cells cn 27) = L1 at hl1 hown
 have hco1 : SlAt L1 (some ⟨bn, 0, none⟩) 4 encCo (s.cones ++ [c]) := hown.at encCo_len
 have hlm : (s.cones ++ [c]).length ≤ 140737488355328 := by simp; omega
 have hst1 : StAt L1 (moreS s c) ⟨p.sa, some ⟨bn, 0, none⟩, p.c1, capn⟩ := ⟨h.sh.le hl1, hco1, h.l1, hlm⟩
 have hf1 := fireB_sp (Post := Post) (W0 := W0) s p L1 (h.le hl1) hok (hgl.le hl1)
 rw [← hX] at hf1
 refine W.eff rfl rfl rfl (Ef.call rfl (hf1)) ?_
 rintro _ _ _ ⟨_, rfl, rfl, u1, n1, rfl, hd1⟩
 refine W.go 99 rfl ?_
 rename_i L2
 have hf2 := fireB_sp (Post := Post) (W0 := W0) (moreS s c) ⟨p.sa, some ⟨bn, 0, none⟩, p.c1, capn⟩ L2 (hd1.st hst1) hokm (hd1.cell (hgl.le hl1))
 rw [← hX] at hf2
 refine W.eff rfl rfl rfl (Ef.call rfl (hf2)) ?_
 rintro _ _ _ ⟨_, rfl, rfl, u2, n2, rfl, hd2⟩
 refine W.go 99 rfl ?_
 rename_i L3
 have hd3 := (Dim.of_le hl1).trans (hd1.trans hd2)
 have hst3 := hd2.st (hd1.st hst1)
 have hsh3 : SlAt L3 p.sa 2 encSh s.shelves := hd3.sl h.sh
 refine W.bool 59 rfl rfl (fun e4 => ?_) (fun e4 => ?_)
 ·refine W.go 99 rfl ?_
  refine W.split rfl rfl rfl (fun e5 => W.go 99 rfl ?_) (fun e5 => W.go 99 rfl ?_)
  ·refine W.ret r rfl rfl ?_
   rw [e4, if_pos (by simpa using e5)]
   exact ⟨⟨none, none, 0, 0⟩, rfl, hd3, zS_at _⟩
  ·have e6 : (fireS (moreS s c)).isSome = true := by simpa using e5
   refine W.eff rfl rfl rfl (Ef.call rfl (CloneSh_sp p.sa p.c1 s.shelves L3 hsh3 (by omega))) ?_
   rintro _ _ _ ⟨_, rfl, rfl, sa, sc, rfl, hl4, hsh4, _⟩
   refine W.go 99 rfl ?_
   refine W.ret r rfl rfl ?_
   rw [e4, e6, if_neg (by decide)]
   exact ⟨⟨sa, some ⟨bn, 0, none⟩, sc, capn⟩, rfl, hd3.trans (Dim.of_le hl4), hsh4, hst3.co.le hl4, h.l1, hlm⟩
 ·refine W.go 99 rfl ?_
  refine W.eff rfl rfl rfl (Ef.call rfl (CloneSh_sp p.sa p.c1 s.shelves L3 hsh3 (by omega))) ?_
  rintro _ _ _ ⟨_, rfl, rfl, sa, sc, rfl, hl4, hsh4, _⟩
  refine W.go 99 rfl ?_
  refine W.ret r rfl rfl ?_
  rw [e4, if_neg (by simp)]
  exact ⟨⟨sa, some ⟨bn, 0, none⟩, sc, capn⟩, rfl, hd3.trans (Dim.of_le hl4), hsh4, hst3.co.le hl4, h.l1, hlm⟩
end Go.Mz


set_option maxRecDepth 100000
namespace Go.Mz
open Go
theorem fireE_none {s : St} (h : Ok s) (hf : fireS s = none) : FireE s = ([], 0, 11) := by unfold FireE; rw [if_neg (by rw [ok_iff.2 h]; simp), hf]
theorem fireE_some {s : St} {l : List Int} (h : Ok s) (hf : fireS s = some l) : FireE s = (l, sumL l, 0) := by unfold FireE; rw [if_neg (by rw [ok_iff.2 h]; simp), hf]
end Go.Mz


namespace Go.Mz
open Go
theorem can_more {s : St} {c0 : Cone} (h : Ok s) (h' : Ok (moreS s c0)) {hs : List Int} (hc : canS (moreS s c0) hs = true) : canS s hs = true := by
 unfold canS at hc ⊢
 cases hp : plansS (moreS s c0) hs allC true with
 | nil => rw [hp] at hc; simp at hc
 | cons x l =>
  have hx : x ∈ plansS (moreS s c0) hs allC true := by rw [hp]; exact List.mem_cons_self ..
  obtain ⟨h1, h2, h3⟩ := (mem_plans h').1 hx
  have hlen : (moreS s c0).cones.length = s.cones.length + 1 := by simp [moreS]
  have hget : ∀ i, i < s.cones.length → (moreS s c0).cones[i]? = s.cones[i]? := fun i hi => by
   show (s.cones ++ [c0])[i]? = _
   rw [List.getElem?_append_left hi]
  have hm : x.take s.cones.length ∈ plansS s hs allC true := by
   refine (mem_plans h).2 ⟨by rw [List.length_take]; omega, fun i c a hc ha => ?_, ?_⟩
   ·have hi := (List.getElem?_eq_some_iff.1 hc).1
    rw [List.getElem?_take_of_lt hi] at ha
    exact h2 i c a (by rw [hget i hi]; exact hc) ha
   ·rw [fits_iff] at h3 ⊢
    intro k hk d hd
    refine Int.le_trans ?_ (h3 k hk d hd)
    have : (onS s hs (x.take s.cones.length) k d).length ≤ (onS (moreS s c0) hs x k d).length := by
     unfold onS
     rw [hlen, List.range_succ, List.filter_append, List.length_append]
     refine Nat.le_trans (filter_le fun i hi hb => ?_) (Nat.le_add_right ..)
     have hi := List.mem_range.1 hi
     unfold onB at hb ⊢
     rw [List.getElem?_take_of_lt hi] at hb
     rw [hget i hi]
     exact hb
    omega
  cases hq : plansS s hs allC true with
  | nil => rw [hq] at hm; cases hm
  | cons _ _ => rfl
theorem fire_more {s : St} {c0 : Cone} (h : Ok s) (h' : Ok (moreS s c0)) {l' : List Int} (hf : fireS (moreS s c0) = some l') : ∃ l, fireS s = some l ∧ sumL l ≤ sumL l' := by
 have hm := firstMin_mem hf
 obtain ⟨g1, g2⟩ := List.mem_filter.1 hm
 have hm' : l' ∈ (heatsS s).filter (canS s) := List.mem_filter.2 ⟨g1, can_more h h' g2⟩
 obtain ⟨l, hl⟩ := firstMin_some (f := sumL) (List.ne_nil_of_mem hm')
 exact ⟨l, hl, firstMin_le hl l' hm'⟩
end Go.Mz


set_option maxRecDepth 100000
namespace Go.Mz
open Go.Conc Go.Proofs
theorem addE_of {s : St} {c : Cone} (h : Ok s) (h3 : s.cones.length ≠ 3) (hc : coneE c = 0) : AddE s c = if (fireS s).isSome && !(fireS (moreS s c)).isSome then (zS, 9) else (moreS s c, 0) := by
 unfold AddE; rw [if_neg (by rw [ok_iff.2 h]; simp), if_neg h3, if_neg (by rw [hc]; simp)]
variable {Post : Value → World → Prop} {W0 : World}
theorem SaA_run (na : Option Addr) (nc : Nat) (nums : List Int) (L : LH) (hn : IntsAt L na nums) (hgl : GlOk L) (hl2 : nums.length ≤ 140737488355328)
  (hQ : ∀ v L' w, (v = .bool true ∧ Dim L L') → Sub L' w → Same W0 w → Post v w) :
  FGo Tryz.prog Post W0 (G (Frame.enter Tryz.prog 14 [.slice na nums.length nc].toArray .normal) []) L := by
 refine root_enter (n := 96) (s := 2) Tryz.func14 rfl rfl (by kernel_rfl) rfl rfl hQ fun C hX _ hL0 r => ?_
 have drd : ∀ L2, GlOk L2 → Sp C.X 21 [] L2 (fun v L' => v = .bool true ∧ Dim L2 L') := fun L2 h => by rw [hX]; exact dried_sp L2 h
 refine W.go 99 rfl ?_
 refine W.eff rfl rfl rfl (Ef.call rfl (NewHat_sp na nc nums L hn)) ?_
 rintro _ _ _ ⟨_, rfl, rfl, b, rfl, hb, hle1, hh1⟩
 refine W.go 99 rfl ?_
 rename_i L1
 have hb1 := le_but hb hle1
 refine W.eff rfl rfl rfl (Ef.call rfl (StoveOfC_sp b na nc nums 0 2 3 L1 hh1 (by omega) hl2 (by omega) (by omega) (by omega))) ?_
 rintro _ _ _ ⟨_, rfl, rfl, s, p, m, rfl, hs, hm, hle2, hh2, hst2, hcap⟩
 refine W.go 99 rfl ?_
 rename_i L2
 have hok := hs.ok
 have o1 := hs.c
 have o3 := hok.s3
 refine W.eff rfl rfl rfl (Ef.call rfl (ConeOf_sp b na nc nums m L2 hh2 (by omega) hl2)) ?_
 rintro _ _ _ ⟨_, rfl, rfl, ⟨c, rfl, hcn⟩, f3, g3⟩
 refine W.go 99 rfl ?_
 rename_i L3
 have hL3 : Le L L3 := (hb1.trans (but_but hle2)).trans f3
 have hst3 : StAt L3 s p := hst2.le f3
 have hc0 : coneE c = 0 := coneE_0.2 (by unfold ConeH at hcn; omega)
 have h3 : s.cones.length ≠ 3 := by omega
 have hokm := more_ok hok h3 hc0
 refine W.eff rfl rfl rfl (Ef.call rfl (rMore_sp s p c L3 hst3 (by omega) (by omega))) ?_
 rintro _ _ _ ⟨_, rfl, rfl, p4, rfl, hl4, hst4⟩
 refine W.go 99 rfl ?_
 rename_i L4
 have hL4 := hL3.trans hl4
 have hgl4 := hgl.le hL4
 have hst34 := hst3.le hl4
 have hf5 := Fire_sp (Post := Post) (W0 := W0) s p L4 hst34 hgl4
 rw [← hX] at hf5
 refine W.eff rfl rfl rfl (Ef.call rfl (hf5)) ?_
 rintro _ _ _ ⟨_, rfl, rfl, a5, c5, rfl, -, hd5⟩
 refine W.go 99 rfl ?_
 rename_i L5
 have hf6 := Fire_sp (Post := Post) (W0 := W0) (moreS s c) p4 L5 (hd5.st hst4) (hd5.cell hgl4)
 rw [← hX] at hf6
 refine W.eff rfl rfl rfl (Ef.call rfl (hf6)) ?_
 rintro _ _ _ ⟨_, rfl, rfl, a6, c6, rfl, -, hd6⟩
 refine W.go 99 rfl ?_
 rename_i L6
 have hd46 := hd5.trans hd6
 have hf7 := Add_sp (Post := Post) (W0 := W0) s p c L6 (hd46.st hst34) hcap (hd46.cell hgl4)
 rw [← hX, addE_of hok h3 hc0] at hf7
 have hd06 : Dim L L6 := (Dim.of_le hL4).trans hd46
 cases hs0 : fireS s with
 | none =>
  have hm0 : fireS (moreS s c) = none := by
   cases hm0 : fireS (moreS s c) with
   | none => rfl
   | some l' => obtain ⟨l, h1, _⟩ := fire_more hok hokm hm0; rw [hs0] at h1; cases h1
  rw [hs0, hm0, if_neg (by simp)] at hf7
  rw [fireE_none hok hs0, fireE_none hokm hm0]
  refine W.eff rfl rfl rfl (Ef.call rfl (hf7)) ?_
  rintro _ _ _ ⟨_, rfl, rfl, p7, rfl, hd7, hst7⟩
  refine W.go 99 rfl ?_
  rename_i L7
  refine W.split rfl rfl rfl (fun _ => W.go 99 rfl ?_) (fun h => absurd h (by simp))
  refine W.split rfl rfl rfl (fun h => absurd h (by simp)) (fun _ => W.go 99 rfl ?_)
  refine W.split rfl rfl rfl (fun _ => W.go 99 rfl ?_) (fun h => absurd h (by simp))
  refine W.split rfl rfl rfl (fun h => absurd h (by simp)) (fun _ => W.go 99 rfl ?_)
  refine W.split rfl rfl rfl (fun h => absurd h (by simp)) (fun _ => W.go 99 rfl ?_)
  refine W.split rfl rfl rfl (fun h => absurd h (by simp)) (fun _ => W.go 99 rfl ?_)
  refine W.split rfl rfl rfl (fun _ => W.go 99 rfl ?_) (fun h => absurd h (by simp))
  refine W.eff rfl rfl rfl (Ef.call rfl (EqStoves_sp (moreS s c) p7 p4 _ hst7 ((hd46.trans hd7).st hst4))) ?_
  rintro _ _ _ ⟨_, rfl, rfl, rfl, rfl⟩
  refine W.go 99 rfl ?_
  refine W.split rfl rfl rfl (fun c => ?_) (fun c => absurd c (by decide))
  refine W.go 99 rfl ?_
  refine W.eff rfl rfl rfl (Ef.call rfl (drd L7 ((hd46.trans hd7).cell hgl4))) ?_
  rintro _ _ _ ⟨_, rfl, rfl, rfl, hdm⟩
  refine W.go 99 rfl ?_
  exact W.retO r rfl ⟨rfl, (hd06.trans hd7).trans hdm⟩
 | some l =>
  cases hm0 : fireS (moreS s c) with
  | none =>
   rw [hs0, hm0, if_pos (by simp)] at hf7
   rw [fireE_some hok hs0, fireE_none hokm hm0]
   refine W.eff rfl rfl rfl (Ef.call rfl (hf7)) ?_
   rintro _ _ _ ⟨_, rfl, rfl, p7, rfl, hd7, hst7⟩
   refine W.go 99 rfl ?_
   rename_i L7
   refine W.split rfl rfl rfl (fun h => absurd h (by simp)) (fun _ => W.go 99 rfl ?_)
   refine W.split rfl rfl rfl (fun _ => W.go 99 rfl ?_) (fun h => absurd h (by simp))
   refine W.split rfl rfl rfl (fun h => absurd h (by simp)) (fun _ => W.go 99 rfl ?_)
   refine W.split rfl rfl rfl (fun h => absurd h (by simp)) (fun _ => W.go 99 rfl ?_)
   refine W.split rfl rfl rfl (fun _ => W.go 99 rfl ?_) (fun h => absurd h (by simp))
   refine W.split rfl rfl rfl (fun _ => W.go 99 rfl ?_) (fun h => absurd h (by simp))
   refine W.split rfl rfl rfl (fun _ => W.go 99 rfl ?_) (fun h => absurd h (by simp))
   refine W.split rfl rfl rfl (fun _ => W.go 99 rfl ?_) (fun h => absurd h (by simp [zS]))
   refine W.eff rfl rfl rfl (Ef.call rfl (drd L7 ((hd46.trans hd7).cell hgl4))) ?_
   rintro _ _ _ ⟨_, rfl, rfl, rfl, hdm⟩
   refine W.go 99 rfl ?_
   exact W.retO r rfl ⟨rfl, (hd06.trans hd7).trans hdm⟩
  | some l' =>
   obtain ⟨l2, h1, hle⟩ := fire_more hok hokm hm0
   obtain rfl : l = l2 := by rw [hs0] at h1; exact Option.some.inj h1
   rw [hs0, hm0, if_neg (by simp)] at hf7
   rw [fireE_some hok hs0, fireE_some hokm hm0]
   refine W.eff rfl rfl rfl (Ef.call rfl (hf7)) ?_
   rintro _ _ _ ⟨_, rfl, rfl, p7, rfl, hd7, hst7⟩
   refine W.go 99 rfl ?_
   rename_i L7
   refine W.split rfl rfl rfl (fun h => absurd h (by simp)) (fun _ => W.go 99 rfl ?_)
   refine W.split rfl rfl rfl (fun h => absurd h (by simp)) (fun _ => W.go 99 rfl ?_)
   refine W.split rfl rfl rfl (fun _ => W.go 99 rfl ?_) (fun h => absurd h (by simp))
   refine W.split rfl rfl rfl (fun h => absurd h (by simp)) (fun _ => W.go 99 rfl ?_)
   refine W.split rfl rfl rfl (fun h => absurd h (by simp; omega)) (fun _ => W.go 99 rfl ?_)
   refine W.split rfl rfl rfl (fun _ => W.go 99 rfl ?_) (fun h => absurd h (by simp))
   refine W.split rfl rfl rfl (fun h => absurd h (by simp)) (fun _ => W.go 99 rfl ?_)
   refine W.split rfl rfl rfl (fun _ => W.go 99 rfl ?_) (fun h => absurd h (by simp))
   refine W.eff rfl rfl rfl (Ef.call rfl (EqStoves_sp (moreS s c) p7 p4 _ hst7 ((hd46.trans hd7).st hst4))) ?_
   rintro _ _ _ ⟨_, rfl, rfl, rfl, rfl⟩
   refine W.go 99 rfl ?_
   refine W.split rfl rfl rfl (fun c => ?_) (fun c => absurd c (by decide))
   refine W.go 99 rfl ?_
   refine W.eff rfl rfl rfl (Ef.call rfl (drd L7 ((hd46.trans hd7).cell hgl4))) ?_
   rintro _ _ _ ⟨_, rfl, rfl, rfl, hdm⟩
   refine W.go 99 rfl ?_
   exact W.retO r rfl ⟨rfl, (hd06.trans hd7).trans hdm⟩
end Go.Mz

