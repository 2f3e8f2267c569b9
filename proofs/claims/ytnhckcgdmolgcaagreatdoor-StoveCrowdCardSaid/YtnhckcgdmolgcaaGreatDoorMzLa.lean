/- Lemmas on which the claim leans. -/
import Derived.Test.YtnhckcgdmolgcaaGreatDoorMzAv
namespace Go.Mz
open Go
theorem mem_grow {fit : List Stand → Bool} : ∀ {os : List (List Stand)} {b x : List Stand}, x ∈ grow fit os b ↔ ∃ t, x = b ++ t ∧ t.length = os.length ∧ (∀ (i : Nat) (o : List Stand) (a : Stand), os[i]? = some o → t[i]? = some a → a ∈ o) ∧ ∀ i, i < t.length → fit (b ++ t.take (i + 1)) = true
 | [], b, x => by
  simp only [grow, List.mem_singleton]
  constructor
  ·rintro rfl; exact ⟨[], by simp, rfl, fun i o a h => by simp at h, fun i h => by simp at h⟩
  ·rintro ⟨t, rfl, h, _⟩
   obtain rfl := List.length_eq_zero_iff.1 h
   simp
 | o :: os, b, x => by
  simp only [grow, List.mem_flatMap]
  constructor
  ·rintro ⟨a, ha, hx⟩
   by_cases hf : fit (b ++ [a]) = true
   ·rw [if_pos hf] at hx
    obtain ⟨t, rfl, h1, h2, h3⟩ := mem_grow.1 hx
    refine ⟨a :: t, by simp, by simp [h1], fun i o' a' ho ha' => ?_, fun i hi => ?_⟩
    ·cases i with
     | zero => simp at ho ha'; subst ho; subst ha'; exact ha
     | succ i => exact h2 i o' a' (by simpa using ho) (by simpa using ha')
    ·cases i with
     | zero => simpa using hf
     | succ i => have := h3 i (by simpa using hi); simpa using this
   ·rw [if_neg hf] at hx; cases hx
  ·rintro ⟨t, rfl, h1, h2, h3⟩
   cases t with
   | nil => simp at h1
   | cons a t =>
    have hf : fit (b ++ [a]) = true := by have := h3 0 (by simp); simpa using this
    refine ⟨a, h2 0 o a rfl rfl, ?_⟩
    rw [if_pos hf]
    refine mem_grow.2 ⟨t, by simp, by simpa using h1, fun i o' a' ho ha' => h2 (i + 1) o' a' (by simpa using ho) (by simpa using ha'), fun i hi => ?_⟩
    have := h3 (i + 1) (by simpa using hi)
    simpa using this
theorem filter_le {α : Type} {p q : α → Bool} {l : List α} (h : ∀ x ∈ l, p x = true → q x = true) : (l.filter p).length ≤ (l.filter q).length := by
 rw [← List.countP_eq_length_filter, ← List.countP_eq_length_filter]
 exact List.countP_mono_left h
theorem fits_iff {s : St} {hs : List Int} {l : List Stand} : fitsS s hs l = true ↔ ∀ k, k < s.shelves.length → ∀ d, d < s.days.toNat → ((onS s hs l k d).length : Int) ≤ roomOf s k := by
 unfold fitsS
 simp only [List.all_eq_true, List.mem_range, decide_eq_true_eq]
theorem on_mono {s : St} {hs : List Int} {l m : List Stand} {k d : Nat} : (onS s hs l k d).length ≤ (onS s hs (l ++ m) k d).length := by
 unfold onS
 refine filter_le fun i _ h => ?_
 unfold onB at h ⊢
 cases hl : l[i]? with
 | none => rw [hl] at h; cases h
 | some a =>
  have : (l ++ m)[i]? = some a := by rw [List.getElem?_append_left (List.getElem?_eq_some_iff.1 hl).1]; exact hl
  rw [hl] at h
  rw [this]
  exact h
theorem fits_pre {s : St} {hs : List Int} {l m : List Stand} (h : fitsS s hs (l ++ m) = true) : fitsS s hs l = true := by
 rw [fits_iff] at h ⊢
 intro k hk d hd
 have h1 := h k hk d hd
 have h2 := on_mono (s := s) (hs := hs) (l := l) (m := m) (k := k) (d := d)
 omega
theorem mem_plans {s : St} (h : Ok s) {hs : List Int} {so : Nat → Bool} {each : Bool} {x : List Stand} :
  x ∈ plansS s hs so each ↔ x.length = s.cones.length ∧ (∀ (i : Nat) (c : Cone) (a : Stand), s.cones[i]? = some c → x[i]? = some a → a ∈ optS s hs (so i) each c) ∧ fitsS s hs x = true := by
 unfold plansS
 rw [mem_grow]
 constructor
 ·rintro ⟨t, ht, h1, h2, h3⟩
  have ht : x = t := by simpa using ht
  subst ht
  rw [opts_len] at h1
  refine ⟨h1, fun i c a hc ha => h2 i _ a (opts_get hc) ha, ?_⟩
  cases ht : x.length with
  | zero =>
   obtain rfl := List.length_eq_zero_iff.1 ht
   exact fits_nil h hs
  | succ m =>
   have := h3 m (by omega)
   rw [List.take_of_length_le (by omega)] at this
   exact this
 ·rintro ⟨h1, h2, h3⟩
  refine ⟨x, rfl, by rw [opts_len]; exact h1, fun i o a ho ha => ?_, fun i hi => ?_⟩
  ·have hi : i < s.cones.length := by
    have := (List.getElem?_eq_some_iff.1 ho).1
    rw [opts_len] at this; exact this
   have hc : s.cones[i]? = some s.cones[i] := List.getElem?_eq_getElem hi
   rw [opts_get hc] at ho
   cases ho
   exact h2 i _ a hc ha
  ·refine fits_pre (m := x.drop (i + 1)) ?_
   rw [List.nil_append, List.take_append_drop]
   exact h3
theorem most_mem {s : St} (h : Ok s) (hs : List Int) : mostS s hs ∈ plansS s hs allC false := by
 obtain ⟨y, hy⟩ := firstMin_some (f := fun p => - cnt p) (plans_ne h hs allC)
 unfold mostS
 rw [hy]
 exact firstMin_mem hy
theorem most_max {s : St} (h : Ok s) {hs : List Int} {x : List Stand} (hx : x ∈ plansS s hs allC false) : cnt x ≤ cnt (mostS s hs) := by
 obtain ⟨y, hy⟩ := firstMin_some (f := fun p => - cnt p) (plans_ne h hs allC)
 have := firstMin_le hy x hx
 unfold mostS
 rw [hy]
 simp only [Option.getD_some]
 omega
end Go.Mz


namespace Go.Mz
open Go
def onlyS (s : St) (l : List Nat) : St := { s with cones := l.filterMap fun i => s.cones[i]? }
section
variable {s : St} {hs : List Int}
theorem only_get {l : List Nat} (hl : ∀ i ∈ l, i < s.cones.length) (j : Nat) : (onlyS s l).cones[j]? = l[j]?.bind fun i => s.cones[i]? := by
 unfold onlyS
 simp only
 induction l generalizing j with
 | nil => simp
 | cons i l ih =>
  have hi := hl i (List.mem_cons_self ..)
  rw [List.filterMap_cons, List.getElem?_eq_getElem hi]
  simp only
  cases j with
  | zero => simp [List.getElem?_eq_getElem hi]
  | succ j => simpa using ih (fun x hx => hl x (List.mem_cons_of_mem _ hx)) j
theorem only_len {l : List Nat} (hl : ∀ i ∈ l, i < s.cones.length) : (onlyS s l).cones.length = l.length := by
 unfold onlyS
 simp only
 induction l with
 | nil => rfl
 | cons i l ih =>
  have hi := hl i (List.mem_cons_self ..)
  rw [List.filterMap_cons, List.getElem?_eq_getElem hi]
  simp only [List.length_cons]
  rw [ih (fun x hx => hl x (List.mem_cons_of_mem _ hx))]
theorem only_ok (h : Ok s) {l : List Nat} (hl : ∀ i ∈ l, i < s.cones.length) (h3 : l.length ≤ 3) : Ok (onlyS s l) := by
 refine { h with c3 := by rw [only_len hl]; exact h3, co := fun c hc => ?_ }
 unfold onlyS at hc
 simp only [List.mem_filterMap] at hc
 obtain ⟨i, _, hi⟩ := hc
 exact h.co c (List.mem_of_getElem? hi)
theorem filter_map_len {α β : Type} (f : α → β) (p : β → Bool) (l : List α) : ((l.map f).filter p).length = (l.filter fun x => p (f x)).length := by
 induction l with
 | nil => rfl
 | cons a l ih =>
  simp only [List.map_cons, List.filter_cons]
  split
  ·simp [ih]
  ·exact ih
theorem range_get {α : Type} (l : List α) (d : α) : l = (List.range l.length).map fun j => l[j]?.getD d := by
 refine List.ext_getElem (by simp) fun i h1 h2 => ?_
 simp [List.getElem?_eq_getElem h1]
theorem on_only {l : List Nat} (hl : ∀ i ∈ l, i < s.cones.length) (x : List Stand) (y : List Stand) (hy : ∀ j i : Nat, l[j]? = some i → y[j]? = x[i]?) (k d : Nat) : (onS (onlyS s l) hs y k d).length = (l.filter (onB s hs x k d)).length := by
 have e : l.filter (onB s hs x k d) = ((List.range l.length).map fun j => l[j]?.getD 0).filter (onB s hs x k d) := by rw [← range_get]
 unfold onS
 rw [e, filter_map_len, only_len hl]
 congr 1
 refine List.filter_congr fun j hj => ?_
 have hj := List.mem_range.1 hj
 have hg : l[j]? = some l[j] := List.getElem?_eq_getElem hj
 have hi := hl _ (List.getElem_mem hj)
 unfold onB
 rw [only_get hl, hg, hy j _ hg]
 rfl
theorem dries_only (h : Ok s) {so : Nat → Bool} {l : List Nat} (e : l = (List.range s.cones.length).filter so) : driesS s hs so = canS (onlyS s l) hs := by
 have hl : ∀ i ∈ l, i < s.cones.length := fun i hi => by rw [e] at hi; exact List.mem_range.1 (List.mem_filter.1 hi).1
 have hso : ∀ i, i < s.cones.length → (so i = true ↔ i ∈ l) := fun i hi => by
  rw [e, List.mem_filter, List.mem_range]; exact ⟨fun h => ⟨hi, h⟩, fun h => h.2⟩
 have hll : l.length ≤ s.cones.length := by rw [e]; simpa using List.length_filter_le so (List.range s.cones.length)
 have h' : Ok (onlyS s l) := only_ok h hl (by have := h.c3; omega)
 have hsh : (onlyS s l).shelves = s.shelves := rfl
 have key1 : ∀ x, x ∈ plansS s hs so true → ∃ y, y ∈ plansS (onlyS s l) hs allC true := fun x hx => by
  obtain ⟨h1, h2, h3⟩ := (mem_plans h).1 hx
  refine ⟨l.map fun i => x[i]?.getD none1, (mem_plans h').2 ⟨by rw [only_len hl, List.length_map], fun j c a hc ha => ?_, ?_⟩⟩
  ·rw [only_get hl] at hc
   rw [List.getElem?_map] at ha
   obtain ⟨i, hi, rfl⟩ := Option.map_eq_some_iff.1 ha
   rw [hi] at hc
   have hil := List.mem_of_getElem? hi
   have hin := hl i hil
   have hx' : x[i]? = some x[i] := List.getElem?_eq_getElem (by omega)
   have := h2 i c _ hc hx'
   rw [(hso i hin).2 hil] at this
   rw [hx']
   exact this
  ·rw [fits_iff] at h3 ⊢
   intro k hk d hd
   refine Int.le_trans ?_ (h3 k hk d hd)
   rw [on_only hl x _ (fun j i hi => by
    have hin := hl i (List.mem_of_getElem? hi)
    rw [List.getElem?_map, hi, Option.map_some, List.getElem?_eq_getElem (by omega)]; rfl)]
   rw [e, List.filter_filter]
   unfold onS
   exact_mod_cast filter_le fun i _ hb => by simp only [Bool.and_eq_true] at hb; exact hb.1
 have key2 : ∀ y, y ∈ plansS (onlyS s l) hs allC true → ∃ x, x ∈ plansS s hs so true := fun y hy => by
  obtain ⟨h1, h2, h3⟩ := (mem_plans h').1 hy
  rw [only_len hl] at h1
  have hnd : l.Nodup := by rw [e]; exact List.Pairwise.filter _ List.nodup_range
  have hidx : ∀ j i, l[j]? = some i → l.idxOf i = j := fun j i hi => by
   obtain ⟨hj, rfl⟩ := List.getElem?_eq_some_iff.1 hi
   exact List.Nodup.idxOf_getElem hnd j hj
  have hxg : ∀ i, i < s.cones.length → ((List.range s.cones.length).map fun i => if so i then y[l.idxOf i]?.getD none1 else none1)[i]? = some (if so i then y[l.idxOf i]?.getD none1 else none1) := fun i hi => by
   rw [List.getElem?_map, List.getElem?_range hi]; rfl
  refine ⟨(List.range s.cones.length).map fun i => if so i then y[l.idxOf i]?.getD none1 else none1, (mem_plans h).2 ⟨by simp, fun i c a hc ha => ?_, ?_⟩⟩
  ·have hin := (List.getElem?_eq_some_iff.1 hc).1
   rw [hxg i hin] at ha
   cases ha
   cases hsi : so i with
   | false => simp [optS]
   | true =>
    have hil := (hso i hin).1 hsi
    have hj : l.idxOf i < l.length := List.idxOf_lt_length_of_mem hil
    have hlj : l[l.idxOf i]? = some i := by rw [List.getElem?_eq_getElem hj, List.getElem_idxOf]
    have hyj : y[l.idxOf i]? = some y[l.idxOf i] := List.getElem?_eq_getElem (by omega)
    have := h2 (l.idxOf i) c _ (by rw [only_get hl, hlj]; exact hc) hyj
    rw [hyj]
    exact this
  ·rw [fits_iff] at h3 ⊢
   intro k hk d hd
   refine Int.le_trans ?_ (h3 k hk d hd)
   rw [on_only hl ((List.range s.cones.length).map fun i => if so i then y[l.idxOf i]?.getD none1 else none1) y (fun j i hi => by
    have hil := List.mem_of_getElem? hi
    have hin := hl i hil
    rw [hxg i hin, (hso i hin).2 hil, hidx j i hi]
    obtain ⟨hj, _⟩ := List.getElem?_eq_some_iff.1 hi
    rw [List.getElem?_eq_getElem (by omega)]; rfl)]
   have e2 : l.filter (onB s hs ((List.range s.cones.length).map fun i => if so i then y[l.idxOf i]?.getD none1 else none1) k d) = (List.range s.cones.length).filter fun i => onB s hs ((List.range s.cones.length).map fun i => if so i then y[l.idxOf i]?.getD none1 else none1) k d i && so i := by
    conv => lhs; arg 2; rw [e]
    rw [List.filter_filter]
   rw [e2]
   unfold onS
   refine Int.ofNat_le.2 (filter_le fun i hi hb => ?_)
   have hin := List.mem_range.1 hi
   rw [Bool.and_eq_true]
   refine ⟨hb, ?_⟩
   cases hsi : so i with
   | true => rfl
   | false =>
    unfold onB at hb
    rw [hxg i hin, hsi, List.getElem?_eq_getElem hin] at hb
    simp only [Bool.false_eq_true, if_false, Bool.and_eq_true, beq_iff_eq] at hb
    have := hb.1.1
    simp only [none1] at this
    omega
 unfold driesS canS
 cases h1 : plansS s hs so true with
 | nil =>
  cases h2 : plansS (onlyS s l) hs allC true with
  | nil => rfl
  | cons y t =>
   obtain ⟨x, hx⟩ := key2 y (by rw [h2]; exact List.mem_cons_self ..)
   rw [h1] at hx; cases hx
 | cons x t =>
  obtain ⟨y, hy⟩ := key1 x (by rw [h1]; exact List.mem_cons_self ..)
  cases h2 : plansS (onlyS s l) hs allC true with
  | nil => rw [h2] at hy; cases hy
  | cons y t => rfl
end
end Go.Mz


set_option maxRecDepth 100000
namespace Go.Mz
open Go
section
variable {s : St} {hs : List Int}
theorem openE_e (h : Ok s) : openE s hs [] [] = heatsE s hs := by
 unfold openE
 rw [ok_iff.2 h]
 by_cases hh : heatsE s hs = 0
 ·rw [hh]; simp [firstE]
 ·simp [firstE, hh]
theorem openE_0 (h : Ok s) (hh : heatsE s hs = 0) : openE s hs [] [] = 0 := by rw [openE_e h, hh]
theorem allE_can (h : Ok s) (hh : heatsE s hs = 0) : (AllE s hs).2 = if canS s hs then 0 else 11 := by
 unfold AllE
 rw [if_neg (by rw [openE_0 h hh]; simp)]
 unfold allS canS
 cases plansS s hs allC true with
 | nil => rfl
 | cons x t => rfl
end
end Go.Mz


set_option maxRecDepth 100000
namespace Go.Mz
open Go Go.Conc Go.Proofs
def plansG (s : St) (hs : List Int) (each : Bool) (b : List Stand) : List (List Stand) := if fitsS s hs b then grow (fitsS s hs) ((optsS s hs allC each).drop b.length) b else []
section
variable {s : St} {hs : List Int} {each : Bool} {b : List Stand}
end
def heatsG (s : St) (b : List Int) : List (List Int) := (heatsAll s.top s.rise (s.days.toNat - b.length) (b.getLast?.getD s.now)).map (b ++ ·)
section
variable {s : St} {b : List Int}
end
def fireStep (s : St) (b : Option (List Int)) (x : List Int) : Option (List Int) := if canS s x then takeLess sumL b x else b
end Go.Mz


set_option maxRecDepth 100000
namespace Go.Mz
open Go
section
variable {s : St} {hs : List Int}
end
def pickL (n : Nat) : Nat → Nat → List (List Nat)
 | 0, _ => [[]]
 | m + 1, first => (List.range' first (n - first)).flatMap fun i => (pickL n m (i + 1)).map (i :: ·)
end Go.Mz


namespace Go.Mz
open Go
structure Harder (c c' : Cone) : Prop where
 cold : c.cold ≤ c'.cold
 jump : c.jump ≤ c'.jump
 most : c.most ≤ c'.most
 wet : c'.wet ≤ c.wet
theorem Harder.refl (c : Cone) : Harder c c := ⟨Int.le_refl _, Int.le_refl _, Int.le_refl _, Int.le_refl _⟩
structure Wider (s s' : St) : Prop where
 sh : s'.shelves.length = s.shelves.length
 lift : ∀ k, liftOf s' k = liftOf s k
 room : ∀ k, k < s.shelves.length → roomOf s k ≤ roomOf s' k
 days : s'.days = s.days
 len : s'.cones.length = s.cones.length
 co : ∀ (i : Nat) c c', s.cones[i]? = some c → s'.cones[i]? = some c' → Harder c c'
theorem opt_dry {s : St} {hs : List Int} {so each : Bool} {c : Cone} {a : Stand} (h : a ∈ optS s hs so each c) : a = none1 ∨ (a ∈ grid s ∧ (fateS s hs c a).1 = 0) := by
 unfold optS at h
 rcases List.mem_append.1 h with h | h
 ·left
  split at h
  ·exact List.mem_singleton.1 h
  ·cases h
 ·right
  split at h
  ·have := List.mem_filter.1 h; exact ⟨this.1, by simpa using this.2⟩
  ·cases h
end Go.Mz


namespace Go.Mz
open Go
structure Renum (s s' : St) (σ : Nat → Nat) : Prop where
 sh : s'.shelves.length = s.shelves.length
 rng : ∀ k, k < s.shelves.length → σ k < s.shelves.length
 inj : ∀ j k, j < s.shelves.length → k < s.shelves.length → σ j = σ k → j = k
 sur : ∀ k, k < s.shelves.length → ∃ j, j < s.shelves.length ∧ σ j = k
 get : ∀ k, k < s.shelves.length → s'.shelves[σ k]? = s.shelves[k]?
 days : s'.days = s.days
 cones : s'.cones = s.cones
def mapSt (σ : Nat → Nat) (a : Stand) : Stand := if a.shelf < 0 then a else ⟨(σ a.shelf.toNat : Nat), a.day⟩
theorem map_none (σ : Nat → Nat) : mapSt σ none1 = none1 := rfl
theorem mem_grid {s : St} {a : Stand} : a ∈ grid s ↔ ∃ k d : Nat, k < s.shelves.length ∧ d < s.days.toNat ∧ a = ⟨k, d⟩ := by
 unfold grid
 simp only [List.mem_flatMap, List.mem_map, List.mem_range]
 constructor
 ·rintro ⟨k, hk, d, hd, rfl⟩; exact ⟨k, d, hk, hd, rfl⟩
 ·rintro ⟨k, d, hk, hd, rfl⟩; exact ⟨k, hk, d, hd, rfl⟩
theorem map_grid (σ : Nat → Nat) (k d : Nat) : mapSt σ ⟨k, d⟩ = ⟨(σ k : Nat), d⟩ := by
 unfold mapSt
 rw [if_neg (by simp only; omega)]
 simp
theorem Renum.lift {s s' : St} {σ : Nat → Nat} (r : Renum s s' σ) {k : Nat} (hk : k < s.shelves.length) : liftOf s' (σ k : Nat) = liftOf s (k : Nat) := by
 unfold liftOf
 simp only [Int.toNat_natCast]
 rw [r.get k hk]
theorem Renum.fate {s s' : St} {σ : Nat → Nat} (r : Renum s s' σ) {k : Nat} (hk : k < s.shelves.length) (hs : List Int) (c : Cone) (d : Nat) : fateS s' hs c ⟨(σ k : Nat), d⟩ = fateS s hs c ⟨k, d⟩ := by
 unfold fateS
 simp only
 rw [r.lift hk]
theorem Renum.plans {s s' : St} {σ : Nat → Nat} (r : Renum s s' σ) (h : Ok s) (h' : Ok s') {hs : List Int} {so : Nat → Bool} {each : Bool} {x : List Stand} (hx : x ∈ plansS s hs so each) : x.map (mapSt σ) ∈ plansS s' hs so each := by
 obtain ⟨h1, h2, h3⟩ := (mem_plans h).1 hx
 refine (mem_plans h').2 ⟨by rw [r.cones]; simpa using h1, fun i c a hc ha => ?_, ?_⟩
 ·rw [r.cones] at hc
  rw [List.getElem?_map] at ha
  obtain ⟨a0, ha0, rfl⟩ := Option.map_eq_some_iff.1 ha
  have := h2 i c a0 hc ha0
  unfold optS at this ⊢
  rcases List.mem_append.1 this with this | this
  ·refine List.mem_append_left _ ?_
   split at this
   ·rename_i hh
    rw [if_pos hh]
    rw [List.mem_singleton.1 this]
    exact List.mem_singleton.2 rfl
   ·cases this
  ·refine List.mem_append_right _ ?_
   split at this
   ·rename_i hso
    rw [if_pos hso]
    obtain ⟨g1, g2⟩ := List.mem_filter.1 this
    obtain ⟨k, d, hk, hd, rfl⟩ := mem_grid.1 g1
    rw [map_grid]
    refine List.mem_filter.2 ⟨mem_grid.2 ⟨σ k, d, by rw [r.sh]; exact r.rng k hk, by rw [r.days]; exact hd, rfl⟩, ?_⟩
    rw [r.fate hk]
    exact g2
   ·cases this
 ·rw [fits_iff] at h3 ⊢
  intro k' hk' d hd
  rw [r.sh] at hk'
  rw [r.days] at hd
  obtain ⟨k, hk, rfl⟩ := r.sur k' hk'
  have hon : onS s' hs (x.map (mapSt σ)) (σ k) d = onS s hs x k d := by
   unfold onS
   rw [r.cones]
   refine List.filter_congr fun i hi => ?_
   have hi := List.mem_range.1 hi
   have hc : s.cones[i]? = some s.cones[i] := List.getElem?_eq_getElem hi
   unfold onB
   rw [r.cones, hc, List.getElem?_map]
   cases ha : x[i]? with
   | none => rfl
   | some a =>
    simp only [Option.map_some]
    rcases opt_dry (h2 i _ a hc ha) with rfl | ⟨hg, _⟩
    ·have e1 : ((mapSt σ none1).shelf == ((σ k : Nat) : Int)) = false := by rw [map_none]; simp [none1]
     have e2 : (none1.shelf == ((k : Nat) : Int)) = false := by simp [none1]
     rw [e1, e2]; simp
    ·obtain ⟨j, e, hj, he, rfl⟩ := mem_grid.1 hg
     rw [map_grid, r.fate hj]
     have e1 : (((σ j : Nat) : Int) == ((σ k : Nat) : Int)) = ((j : Int) == (k : Int)) := by
      by_cases e : j = k
      ·subst e; simp
      ·have : σ j ≠ σ k := fun g => e (r.inj j k hj hk g)
       rw [beq_eq_false_iff_ne.2 (by omega), beq_eq_false_iff_ne.2 (by omega)]
     rw [e1]
  have hr : roomOf s' (σ k) = roomOf s k := by unfold roomOf; rw [r.get k hk]
  rw [hon, hr]
  exact h3 k hk d hd
theorem cnt_map {s : St} (h : Ok s) {hs : List Int} {so : Nat → Bool} {each : Bool} {x : List Stand} (hx : x ∈ plansS s hs so each) (σ : Nat → Nat) : cnt (x.map (mapSt σ)) = cnt x := by
 unfold cnt
 rw [List.countP_map]
 congr 1
 refine List.countP_congr fun a ha => ?_
 simp only [Function.comp, decide_eq_true_eq]
 unfold mapSt
 split
 ·rfl
 ·rename_i hh
  constructor
  ·intro _; omega
  ·intro _; simp only; omega
theorem Renum.inv {s s' : St} {σ : Nat → Nat} (r : Renum s s' σ) : ∃ τ, Renum s' s τ := by
 classical
 have hc : ∀ k, ∃ j, k < s.shelves.length → j < s.shelves.length ∧ σ j = k := fun k => by
  by_cases hk : k < s.shelves.length
  ·obtain ⟨j, hj⟩ := r.sur k hk; exact ⟨j, fun _ => hj⟩
  ·exact ⟨0, fun h => absurd h hk⟩
 obtain ⟨τ, hτ⟩ := Classical.axiomOfChoice hc
 refine ⟨τ, r.sh.symm, fun k hk => ?_, fun j k hj hk e => ?_, fun k hk => ?_, fun k hk => ?_, r.days.symm, r.cones.symm⟩
 ·rw [r.sh] at hk ⊢; exact (hτ k hk).1
 ·rw [r.sh] at hj hk; rw [← (hτ j hj).2, ← (hτ k hk).2, e]
 ·rw [r.sh] at hk ⊢
  exact ⟨σ k, r.rng k hk, r.inj _ _ (hτ _ (r.rng k hk)).1 hk (hτ _ (r.rng k hk)).2⟩
 ·rw [r.sh] at hk
  have := r.get (τ k) (hτ k hk).1
  rw [(hτ k hk).2] at this
  exact this.symm
theorem Renum.most {s s' : St} {σ : Nat → Nat} (r : Renum s s' σ) (h : Ok s) (h' : Ok s') (hs : List Int) : cnt (mostS s hs) = cnt (mostS s' hs) := by
 have key : ∀ {s s' : St} {σ : Nat → Nat}, Renum s s' σ → Ok s → Ok s' → cnt (mostS s hs) ≤ cnt (mostS s' hs) := fun {s s' σ} r h h' => by
  have h1 := most_mem h hs
  rw [← cnt_map h h1 σ]
  exact most_max h' (r.plans h h' h1)
 obtain ⟨τ, rτ⟩ := r.inv
 have h1 := key r h h'
 have h2 := key rτ h' h
 omega
theorem Renum.can {s s' : St} {σ : Nat → Nat} (r : Renum s s' σ) (h : Ok s) (h' : Ok s') (hs : List Int) : canS s hs = canS s' hs := by
 have key : ∀ {s s' : St} {σ : Nat → Nat}, Renum s s' σ → Ok s → Ok s' → canS s hs = true → canS s' hs = true := fun {s s' σ} r h h' hc => by
  unfold canS at hc ⊢
  cases hp : plansS s hs allC true with
  | nil => rw [hp] at hc; simp at hc
  | cons x l =>
   have hx : x ∈ plansS s hs allC true := by rw [hp]; exact List.mem_cons_self ..
   have := r.plans h h' hx
   cases hp' : plansS s' hs allC true with
   | nil => rw [hp'] at this; cases this
   | cons _ _ => rfl
 obtain ⟨τ, rτ⟩ := r.inv
 cases h1 : canS s hs with
 | true => exact (key r h h' h1).symm
 | false =>
  cases h2 : canS s' hs with
  | false => rfl
  | true => rw [key rτ h' h h2] at h1; cases h1
theorem Renum.fire {s s' : St} {σ : Nat → Nat} (r : Renum s s' σ) (h : Ok s) (h' : Ok s') (e : s'.top = s.top ∧ s'.rise = s.rise ∧ s'.now = s.now) : fireS s' = fireS s := by
 unfold fireS heatsS
 rw [e.1, e.2.1, e.2.2, r.days]
 congr 1
 exact List.filter_congr fun x _ => (r.can h h' x).symm
end Go.Mz


set_option maxRecDepth 100000
namespace Go.Mz
open Go.Conc Go.Proofs
abbrev Rw (α : Type) := Rf × List α
def encRw {α : Type} (x : Rw α) : List Value := [slV x.1]
theorem encRw_len {α : Type} (x : Rw α) : (encRw x).length = 1 := rfl
theorem encRw_sg {α : Type} (x : Rw α) : ∀ u ∈ encRw x, single u = true := fun u hu => by rw [List.mem_singleton.1 hu]; rfl
structure RwOk {α : Type} (L : LH) (k : Nat) (enc : α → List Value) (x : Rw α) : Prop where
 sl : SlAt L x.1.1 k enc x.2
 len : x.1.2.1 = x.2.length
theorem RwOk.le {α : Type} {L L' : LH} {k : Nat} {enc : α → List Value} {x : Rw α} (h : RwOk L k enc x) (hl : Le L L') : RwOk L' k enc x := ⟨h.sl.le hl, h.len⟩
def RowsAt {α : Type} (L : LH) (ad : Option Addr) (k : Nat) (enc : α → List Value) (ls : List (List α)) : Prop := ∃ rs : List (Rw α), rs.map Prod.snd = ls ∧ SlAt L ad 1 encRw rs ∧ ∀ x ∈ rs, RwOk L k enc x
def GrowL {α : Type} (I : LH) (e k : Nat) (enc : α → List Value) (L : LH) (v : Value) (ls : List (List α)) : Prop := ∃ J, ∃ rs : List (Rw α), Le I J ∧ rs.map Prod.snd = ls ∧ Grow J 1 e encRw L v rs ∧ ∀ x ∈ rs, RwOk J k enc x
section
variable {β : Type} {F F' I L L' L2 : LH} {e k : Nat} {enc : β → List Value} {v : Value} {l : List β}
theorem Grow.foot {ad : Option Addr} {len cap : Nat} (h : Grow I k e enc L (.slice ad len cap) l) (hk : ∀ x, (enc x).length = k) (hF : Le F I) : ∃ F', Le F F' ∧ Le F' L ∧ SlAt F' ad k enc l ∧ ∀ b, F' b ≠ none → F b ≠ none ∨ I b = none := by
 obtain ⟨hI, ob, ho, hn⟩ := h
 obtain ⟨ad', cap', e1, -⟩ := ho.slice
 cases e1
 classical
 refine ⟨fun b => if ob = some b then L b else F b, fun b x hx => ?_, fun b x hx => ?_, (ho.keep (L' := fun b => if ob = some b then L b else F b) fun b hb => ?_).at hk, fun b hb => ?_⟩
 ·simp only
  split
  ·rename_i e2; have := hF _ _ hx; rw [hn b e2] at this; cases this
  ·exact hx
 ·simp only at hx
  split at hx
  ·exact hx
  ·exact hI _ _ (hF _ _ hx)
 ·rw [if_pos hb]
 ·simp only at hb
  split at hb
  ·rename_i e2; exact .inr (hn b e2)
  ·exact .inl hb
theorem Own.some_blk {v : Value} {n : Nat} {cs : List Value} {ob : Option Nat} (h : Own L k e v n cs ob) {b : Nat} (hb : ob = some b) : L b ≠ none := by subst hb; exact h.blk
theorem Grow.rebase (h : Grow F k e enc L v l) (hl : Le L L') (hF : Le F' L') (hn : ∀ b, F' b ≠ none → F b ≠ none ∨ L b = none) : Grow F' k e enc L' v l := by
 obtain ⟨_, ob, ho, hf⟩ := h
 refine ⟨hF, ob, ho.le hl, fun b hb => ?_⟩
 cases hx : F' b with
 | none => rfl
 | some y =>
  rcases hn b (by rw [hx]; simp) with e1 | e1
  ·exact absurd (hf b hb) e1
  ·exact absurd e1 (ho.some_blk hb)
theorem Grow.call (h : Grow F k e enc L v l) (p : Post F L F' L2) : Grow F' k e enc L2 v l := by
 obtain ⟨_, ob, ho, hf⟩ := h
 refine ⟨p.le, ob, ho.keep fun b hb => ?_, fun b hb => ?_⟩
 ·cases hx : L b with
  | none => exact absurd hx (ho.some_blk hb)
  | some y => exact p.keep b y (hf b hb) hx
 ·cases hx : F' b with
  | none => rfl
  | some y =>
   rcases p.fresh b (by rw [hx]; simp) with e1 | e1
   ·exact absurd (hf b hb) e1
   ·exact absurd e1 (ho.some_blk hb)
end
section
variable {α : Type} {I L L' : LH} {e k : Nat} {enc : α → List Value} {v : Value} {ls : List (List α)}
theorem GrowL.hle (h : GrowL I e k enc L v ls) : Le I L := let ⟨_, _, h1, _, h, _⟩ := h; h1.trans h.1
theorem GrowL.le (h : GrowL I e k enc L v ls) (hl : Le L L') : GrowL I e k enc L' v ls := let ⟨J, rs, h0, h1, h2, h3⟩ := h; ⟨J, rs, h0, h1, h2.le hl, h3⟩
theorem GrowL.less {I' : LH} (h : GrowL I e k enc L v ls) (hl : Le I' I) : GrowL I' e k enc L v ls := let ⟨J, rs, h0, h1, h2, h3⟩ := h; ⟨J, rs, hl.trans h0, h1, h2, h3⟩
theorem GrowL.nil (h : Le I L) : GrowL I e k enc L (.slice none 0 0) ([] : List (List α)) := ⟨L, [], h, rfl, Grow.nil (Le.refl _), fun x hx => by cases hx⟩
theorem GrowL.slice (h : GrowL I e k enc L v ls) : ∃ ad cap, v = .slice ad ls.length cap := by
 obtain ⟨J, rs, _, rfl, h2, _⟩ := h
 obtain ⟨ad, cap, rfl, -⟩ := h2.slice
 exact ⟨ad, cap, by rw [List.length_map]⟩
theorem GrowL.at {ad : Option Addr} {len cap : Nat} (h : GrowL I e k enc L (.slice ad len cap) ls) : len = ls.length ∧ RowsAt L ad k enc ls := by
 obtain ⟨J, rs, _, rfl, h2, h3⟩ := h
 obtain ⟨rfl, h4⟩ := h2.at encRw_len
 exact ⟨(List.length_map ..).symm, rs, rfl, h4, fun x hx => (h3 x hx).le h2.1⟩
theorem RowsAt.le {ad : Option Addr} (h : RowsAt L ad k enc ls) (hl : Le L L') : RowsAt L' ad k enc ls := let ⟨rs, h1, h2, h3⟩ := h; ⟨rs, h1, h2.le hl, fun x hx => (h3 x hx).le hl⟩
theorem RowsAt.addr {ad : Option Addr} (h : RowsAt L ad k enc ls) {i : Nat} (hi : i < ls.length) : ∃ a, ad = some a := by
 obtain ⟨rs, rfl, h2, _⟩ := h
 exact h2.addr (by simpa using hi)
theorem RowsAt.row {ad : Addr} (h : RowsAt L (some ad) k enc ls) {i : Nat} {l : List α} (hl : ls[i]? = some l) : ∃ a c, L.cell? (ad.add i) = some (.slice a l.length c) ∧ SlAt L a k enc l := by
 obtain ⟨rs, rfl, h2, h3⟩ := h
 rw [List.getElem?_map] at hl
 obtain ⟨⟨⟨a, n, c⟩, l'⟩, hx, rfl⟩ := Option.map_eq_some_iff.1 hl
 have hk := h3 _ (List.mem_of_getElem? hx)
 have hn : n = l'.length := hk.len
 subst hn
 refine ⟨a, c, ?_, hk.sl⟩
 have := h2.get hx (j := 0) (v := slV (a, l'.length, c)) rfl
 simpa using this
theorem Grow.lit {β : Type} {encB : β → List Value} {l : List β} {b : Nat} (hk : ∀ x, (encB x).length = k) (h : Le I L) (hb : L b = some (.cells (l.flatMap encB).toArray e (0, 0), true)) (hn : I b = none) : Grow I k e encB L (.slice (some ⟨b, 0, none⟩) l.length l.length) l :=
 ⟨h, some b, ⟨l.length, (l.flatMap encB).toArray, rfl, hb, by simp [flat_len hk], Nat.le_refl _, flat_len hk l, fun i x hx => by simpa using hx⟩, fun b' hb' => by cases hb'; exact hn⟩
theorem GrowL.one {b : Nat} {a : Option Addr} {c : Nat} {l : List α} (hl : SlAt I a k enc l) (hI : Le I L) (hb : L b = some (.cells #[.slice a l.length c] e (0, 0), true)) (hn : I b = none) : GrowL I e k enc L (.slice (some ⟨b, 0, none⟩) 1 1) [l] :=
 ⟨I, [((a, l.length, c), l)], Le.refl _, rfl, Grow.lit (l := [((a, l.length, c), l)]) encRw_len hI hb hn, fun x hx => by rw [List.mem_singleton.1 hx]; exact ⟨hl, rfl⟩⟩
end
section
variable {X : Logic Tryz.prog}
end
end Go.Mz


set_option maxRecDepth 100000
namespace Go.Mz
open Go.Conc Go.Proofs
variable {X : Logic Tryz.prog}
def Got {α : Type} (L : LH) (k : Nat) (enc : α → List Value) (l : List α) (v : Value) (L' : LH) : Prop := ∃ ad cap, v = .slice ad l.length cap ∧ Le L L' ∧ SlAt L' ad k enc l
theorem Got.nil {α : Type} {L L' : LH} {k : Nat} {enc : α → List Value} (h : Le L L') : Got L k enc ([] : List α) (.slice none 0 0) L' := ⟨none, 0, rfl, h, SlAt.empty⟩
end Go.Mz


set_option maxRecDepth 100000
namespace Go.Mz
open Go
def choS (n k i : Nat) (out : List (List Nat)) : List (List Nat) := out.flatMap fun x => (List.range' (match x.getLast? with | some y => y + 1 | none => 0) (n - k + i + 1 - (match x.getLast? with | some y => y + 1 | none => 0))).map fun y => x ++ [y]
def choL (n k : Nat) : List (List Nat) := (List.range k).foldl (fun out i => choS n k i out) [[]]
def ordL (n : Nat) : List (List Nat) := (List.range n).flatMap fun m => choL n (m + 1)
def maskL (n : Nat) : List Nat := match n with
 | 1 => [1]
 | 2 => [1, 2, 3]
 | 3 => [1, 2, 4, 3, 5, 6, 7]
 | _ => []
theorem ord_mask {n : Nat} (h : n ≤ 3) : ordL n = (maskL n).map bitsL := by
 match n, h with
 | 0, _ | 1, _ | 2, _ | 3, _ => decide
theorem mask_lt {n m : Nat} (h : n ≤ 3) (hm : m ∈ maskL n) : m < 2 ^ n := by
 match n, h with
 | 0, _ => cases hm
 | 1, _ => revert m; decide
 | 2, _ => revert m; decide
 | 3, _ => revert m; decide
def crowdG (n : Nat) (f : Nat → Bool) : Option (List Nat) := (List.range (2 ^ n)).foldl (fun b m => if f m then b else takeC b (bitsL m)) none
def firstG (n : Nat) (f : Nat → Bool) : Option (List Nat) := ((maskL n).find? fun m => !f m).map bitsL
def tab (a1 a2 a3 a4 a5 a6 a7 : Bool) : Nat → Bool
 | 1 => a1
 | 2 => a2
 | 3 => a3
 | 4 => a4
 | 5 => a5
 | 6 => a6
 | 7 => a7
 | _ => true
theorem tab_first {n : Nat} (h : n ≤ 3) : ∀ a1 a2 a3 a4 a5 a6 a7, crowdG n (tab a1 a2 a3 a4 a5 a6 a7) = firstG n (tab a1 a2 a3 a4 a5 a6 a7) := by
 match n, h with
 | 0, _ | 1, _ | 2, _ | 3, _ => decide +kernel
theorem foldl_same {α β : Type} {f g : β → α → β} : ∀ {l : List α} {b : β}, (∀ a ∈ l, ∀ b, f b a = g b a) → l.foldl f b = l.foldl g b
 | [], _, _ => rfl
 | a :: l, b, h => by
  rw [List.foldl_cons, List.foldl_cons, h a (List.mem_cons_self ..)]
  exact foldl_same fun x hx => h x (List.mem_cons_of_mem _ hx)
theorem find_congr {α : Type} {p q : α → Bool} : ∀ {l : List α}, (∀ a ∈ l, p a = q a) → l.find? p = l.find? q
 | [], _ => rfl
 | a :: l, h => by
  rw [List.find?_cons, List.find?_cons, h a (List.mem_cons_self ..), find_congr fun x hx => h x (List.mem_cons_of_mem _ hx)]
theorem tab_of {f : Nat → Bool} (h0 : f 0 = true) {m : Nat} (hm : m < 8) : tab (f 1) (f 2) (f 3) (f 4) (f 5) (f 6) (f 7) m = f m := by
 match m, hm with
 | 0, _ => exact h0.symm
 | 1, _ | 2, _ | 3, _ | 4, _ | 5, _ | 6, _ | 7, _ => rfl
theorem crowd_first {n : Nat} (h : n ≤ 3) {f : Nat → Bool} (h0 : f 0 = true) : crowdG n f = firstG n f := by
 have h8 : 2 ^ n ≤ 2 ^ 3 := Nat.pow_le_pow_right (by omega) h
 have e1 : crowdG n f = crowdG n (tab (f 1) (f 2) (f 3) (f 4) (f 5) (f 6) (f 7)) := by
  unfold crowdG
  refine foldl_same fun m hm b => ?_
  have := List.mem_range.1 hm
  rw [tab_of h0 (by omega)]
 have e2 : firstG n f = firstG n (tab (f 1) (f 2) (f 3) (f 4) (f 5) (f 6) (f 7)) := by
  unfold firstG
  congr 1
  refine find_congr fun m hm => ?_
  have := mask_lt h hm
  rw [tab_of h0 (by omega)]
 rw [e1, e2]
 exact tab_first h _ _ _ _ _ _ _
section
variable {s : St} {hs : List Int}
theorem bits_filter {n m : Nat} (h : n ≤ 3) (hm : m < 2 ^ n) : bitsL m = (List.range n).filter fun i => m.testBit i := by
 match n, h with
 | 0, _ => revert m; decide
 | 1, _ => revert m; decide
 | 2, _ => revert m; decide
 | 3, _ => revert m; decide
theorem crowd_find (h : Ok s) : crowdS s hs = (ordL s.cones.length).find? fun l => !canS (onlyS s l) hs := by
 have h3 := h.c3
 have e : crowdS s hs = crowdG s.cones.length (fun m => driesS s hs fun i => m.testBit i) := rfl
 have h0 : driesS s hs (fun i => (0 : Nat).testBit i) = true := by
  have : (fun i => (0 : Nat).testBit i) = fun _ => false := funext fun i => Nat.zero_testBit i
  rw [this]; exact dries_none h
 rw [e, crowd_first h3 h0, ord_mask h3]
 unfold firstG
 rw [List.find?_map]
 congr 1
 refine find_congr fun m hm => ?_
 have hm := mask_lt h3 hm
 simp only [Function.comp]
 rw [dries_only h (bits_filter h3 hm)]
end
end Go.Mz


set_option maxRecDepth 100000
namespace Go.Mz
open Go
theorem cho_len {n m : Nat} (h : n ≤ 3) (hm : m ≤ n) : (choL n m).length ≤ 3 ∧ ∀ l ∈ choL n m, l.length = m ∧ ∀ i ∈ l, i < n := by
 match n, h, m, hm with
 | 0, _, 0, _ => decide
 | 1, _, 0, _ | 1, _, 1, _ => decide
 | 2, _, 0, _ | 2, _, 1, _ | 2, _, 2, _ => decide
 | 3, _, 0, _ | 3, _, 1, _ | 3, _, 2, _ | 3, _, 3, _ => decide
theorem find_flat_none {β : Type} {n : Nat} {g : Nat → List β} {p : β → Bool} (h : ∀ m, m < n → ∀ x ∈ g m, p x = false) : ((List.range n).flatMap g).find? p = none := by
 rw [List.find?_eq_none]
 intro x hx
 obtain ⟨m, hm, hx⟩ := List.mem_flatMap.1 hx
 rw [h m (List.mem_range.1 hm) x hx]; simp
theorem find_at {β : Type} {p : β → Bool} : ∀ {l : List β} {k : Nat} {y : β}, l[k]? = some y → p y = true → (∀ j x, j < k → l[j]? = some x → p x = false) → l.find? p = some y
 | [], k, y, h, _, _ => by simp at h
 | a :: l, 0, y, h, hp, _ => by
  cases h
  rw [List.find?_cons, hp]
 | a :: l, k + 1, y, h, hp, hn => by
  rw [List.find?_cons, hn 0 a (by omega) rfl]
  exact find_at (by simpa using h) hp fun j x hj hx => hn (j + 1) x (by omega) (by simpa using hx)
theorem find_flat_some {β : Type} {n m k : Nat} {g : Nat → List β} {p : β → Bool} {y : β} (hm : m < n) (h : ∀ j, j < m → ∀ x ∈ g j, p x = false) (hy : (g m)[k]? = some y) (hp : p y = true) (hk : ∀ j x, j < k → (g m)[j]? = some x → p x = false) : ((List.range n).flatMap g).find? p = some y := by
 have e : List.range n = List.range m ++ m :: List.range' (m + 1) (n - m - 1) := by
  rw [List.range_eq_range', List.range_eq_range', show n = m + (1 + (n - m - 1)) by omega, ← List.range'_append_1, ← List.range'_append_1]
  simp [List.range'_succ]
 rw [e, List.flatMap_append, List.find?_append, find_flat_none h, Option.none_or, List.flatMap_cons, List.find?_append, find_at hy hp hk]
 rfl
section
variable {s : St} {hs : List Int}
theorem crowd_none (h : Ok s) (hn : ∀ m, m < s.cones.length → ∀ l ∈ choL s.cones.length (m + 1), canS (onlyS s l) hs = true) : crowdS s hs = none := by
 rw [crowd_find h]
 exact find_flat_none fun m hm l hl => by rw [hn m hm l hl]; rfl
theorem crowd_some (h : Ok s) {m k : Nat} {y : List Nat} (hm : m < s.cones.length) (hn : ∀ j, j < m → ∀ l ∈ choL s.cones.length (j + 1), canS (onlyS s l) hs = true) (hy : (choL s.cones.length (m + 1))[k]? = some y) (hp : canS (onlyS s y) hs = false)
  (hk : ∀ j x, j < k → (choL s.cones.length (m + 1))[j]? = some x → canS (onlyS s x) hs = true) : crowdS s hs = some y := by
 rw [crowd_find h]
 exact find_flat_some hm (fun j hj l hl => by rw [hn j hj l hl]; rfl) hy (by rw [hp]; rfl) fun j x hj hx => by rw [hk j x hj hx]; rfl
end
end Go.Mz


set_option maxRecDepth 100000
namespace Go.Mz
open Go.Conc Go.Proofs
variable {X : Logic Tryz.prog}
theorem Only_sp (s : St) (p : Pt) (la : Option Addr) (lc : Nat) (l : List Nat) (L : LH) (h : StAt L s p) (hl : IntsAt L la (natI l)) (hlt : ∀ i ∈ l, i < s.cones.length) (hll : l.length ≤ 1000) (hsc : s.cones.length ≤ 1000) :
  Sp X 52 [stA s p, .slice la (natI l).length lc] L (fun v L' => ∃ ca cc, v = stA (onlyS s l) ⟨p.sa, ca, p.c1, cc⟩ ∧ Le L L' ∧ StAt L' (onlyS s l) ⟨p.sa, ca, p.c1, cc⟩) := by
 have hnl : (natI l).length = l.length := by simp [natI]
 refine Sp.enter (n := 27) Tryz.func52 rfl rfl rfl rfl fun C hX _ hL0 r => ?_
 refine W.go 99 rfl ?_
 refine W.loop (fun w E B L' => ∃ (j : Nat) (v : Value), w = l.length - j ∧ j ≤ l.length ∧ Grow L 4 27 encCo L' v ((l.take j).filterMap fun i => s.cones[i]?) ∧ ((l.take j).filterMap fun i => s.cones[i]?).length = j ∧
   E = [(1, .v (.slice la (natI l).length lc)), (2, .p 0 0), (4, .p 1 0), (5, .v v), (6, .v (.int .i64 j))] ∧ B = [some ⟨cellsS (.v (stA s p)), 25⟩, some ⟨List.map SV.v ti25.z.cells.toList, 25⟩])
  ⟨0, .slice none 0 0, rfl, by omega, Grow.nil (Le.refl _), rfl, rfl, rfl⟩ (by exact ⟨rfl, rfl, rfl, rfl, rfl, trivial⟩) (by exact ⟨rfl, rfl, trivial⟩) ?_
 rintro _ _ _ L1 ⟨j, v, rfl, hj, hg, hgl, rfl, rfl⟩ again
 obtain ⟨va, vc, rfl, -⟩ := hg.slice
 refine W.go 99 rfl ?_
 refine W.split rfl rfl rfl (fun e1 => W.go 99 rfl ?_) (fun e1 => W.go 99 rfl ?_)
 ·have hjl : j < l.length := by simp at e1; omega
  obtain ⟨i, hi⟩ : ∃ i, l[j]? = some i := ⟨_, List.getElem?_eq_getElem hjl⟩
  have hil := hlt i (List.mem_of_getElem? hi)
  obtain ⟨c, hc⟩ : ∃ c, s.cones[i]? = some c := ⟨_, List.getElem?_eq_getElem hil⟩
  obtain ⟨p1, p2, n1, n2⟩ := p
  obtain ⟨ca, hca⟩ := h.co.addr hil
  obtain rfl : p2 = some ca := hca
  obtain ⟨la', rfl⟩ := hl.addr (i := j) (by omega)
  have hic : L.cell? (la'.add j) = some (.int .i64 i) := hl.int (by simp [natI, hi])
  have htk : (l.take (j + 1)).filterMap (fun i => s.cones[i]?) = (l.take j).filterMap (fun i => s.cones[i]?) ++ [c] := by
   obtain ⟨_, rfl⟩ := List.getElem?_eq_some_iff.1 hi
   rw [List.take_succ_eq_append_getElem hjl, List.filterMap_append]
   simp [hc]
  refine W.drawn (by kernel_rfl) L hg.1 ?_
  refine DD.run' [0, 1, 2, 3, 4] rfl ?_
  refine DD.vf 5 rfl rfl rfl rfl rfl (Vf.idx1 rfl rfl rfl rfl rfl rfl rfl ((show j < (natI l).length by omega))) ?_
  refine DD.vf 6 rfl rfl rfl rfl rfl (Vf.load rfl rfl rfl (hic)) ?_
  refine DD.vf 7 rfl rfl rfl rfl rfl (Vf.idx rfl rfl rfl rfl rfl rfl (hil)) ?_
  refine DD.vf 8 rfl rfl rfl rfl rfl (Vf.loadN rfl rfl rfl (h.co.whole hc rfl)) ?_
  refine DD.run' [9] rfl ?_
  refine DD.act 10 rfl rfl rfl rfl rfl (Ef.grow rfl rfl rfl rfl rfl rfl rfl rfl rfl encCo_len encCo_sg hg (ls := [c]) (.own rfl rfl rfl rfl) (by simp; omega)) ((by rintro _ _ _ ⟨_, rfl, rfl, hg2, _⟩; exact ⟨hg2.1, rfl, .inl rfl⟩)) ?_
  rintro _ _ _ ⟨v2, rfl, rfl, hg2, -⟩
  refine DD.run' [11] rfl ?_
  refine .fin rfl ?_
  refine W.go 99 rfl ?_
  exact W.again (again _ _ _ _ (by omega) ⟨j + 1, v2, rfl, by omega, by rw [htk]; exact hg2, by rw [htk, List.length_append, hgl]; rfl, rfl, rfl⟩) ⟨rfl, rfl, rfl, rfl, congrArg some (inc64 (by omega)), trivial⟩ ⟨rfl, rfl, trivial⟩
 ·have hje : j = l.length := by simp at e1; omega
  rw [hje, List.take_length] at hg hgl
  have hol : (onlyS s l).cones.length = l.length := only_len hlt
  refine W.ret r rfl rfl ?_
  exact ⟨va, vc, by rw [hje, List.take_length]; rfl, hg.1, h.sh.le hg.1, (hg.at encCo_len).2, h.l1, by show (onlyS s l).cones.length ≤ _; omega⟩
end Go.Mz


set_option maxRecDepth 100000
namespace Go.Mz
open Go
def strL (n : Nat) : Nat → List (List Int)
 | 0 => [[]]
 | k + 1 => (strL n k).flatMap fun x => (List.range n).map fun (y : Nat) => x ++ [(y : Int)]
section
variable {s : St}
def okHB (s : St) (l : List Int) : Bool := heatsE s l == 0 && canS s l
end
end Go.Mz


set_option maxRecDepth 100000
namespace Go.Mz
open Go.Conc Go.Proofs
variable {X : Logic Tryz.prog}
theorem GrowL.one_at {α : Type} {L : LH} {k b : Nat} {enc : α → List Value} {l : List α} {a : Option Addr} {c e : Nat} (hl : SlAt L a k enc l) (hb : L b = none) : RowsAt (L.put b (.cells #[.slice a l.length c] e)) (some ⟨b, 0, none⟩) k enc [l] :=
 ((GrowL.one (e := e) (c := c) hl (Le.put hb _) (put_same _ _ _) hb).at).2
end Go.Mz


set_option maxRecDepth 100000
namespace Go.Mz
open Go.Conc Go.Proofs
variable {X : Logic Tryz.prog}
def choI (n k i : Nat) : List (List Nat) := (List.range i).foldl (fun out i => choS n k i out) [[]]
def fstC (x : List Nat) : Nat := match x.getLast? with | some y => y + 1 | none => 0
theorem choI_succ (n k i : Nat) : choI n k (i + 1) = (choI n k i).flatMap fun x => (List.range' (fstC x) (n - k + i + 1 - fstC x)).map fun y => x ++ [y] := by
 unfold choI
 rw [List.range_succ, List.foldl_append]
 rfl
theorem choI_bd {n k i : Nat} (h : n ≤ 3) (hk : k ≤ n) (hi : i ≤ k) : (choI n k i).length ≤ 3 ∧ ∀ x ∈ choI n k i, x.length = i ∧ fstC x ≤ 3 := by
 match n, h, k, hk, i, hi with
 | 0, _, 0, _, 0, _ => decide
 | 1, _, 0, _, 0, _ => decide
 | 1, _, 1, _, 0, _ | 1, _, 1, _, 1, _ => decide
 | 2, _, 0, _, 0, _ => decide
 | 2, _, 1, _, 0, _ | 2, _, 1, _, 1, _ => decide
 | 2, _, 2, _, 0, _ | 2, _, 2, _, 1, _ | 2, _, 2, _, 2, _ => decide
 | 3, _, 0, _, 0, _ => decide
 | 3, _, 1, _, 0, _ | 3, _, 1, _, 1, _ => decide
 | 3, _, 2, _, 0, _ | 3, _, 2, _, 1, _ | 3, _, 2, _, 2, _ => decide
 | 3, _, 3, _, 0, _ | 3, _, 3, _, 1, _ | 3, _, 3, _, 2, _ | 3, _, 3, _, 3, _ => decide
theorem Choose_sp (n k : Nat) (L : LH) (hn : n ≤ 3) (hk : k ≤ n) :
  Sp X 51 [.int .i64 n, .int .i64 k] L (fun v L' => ∃ a c, v = .slice a ((choL n k).map natI).length c ∧ Le L L' ∧ RowsAt L' a 1 encI ((choL n k).map natI)) := by
 refine Sp.enter (n := 57) Tryz.func51 rfl rfl rfl rfl fun C hX _ hL0 r => ?_
 refine W.go 99 rfl ?_
 refine W.pub 5 (.inr ⟨_, _, _, rfl⟩) rfl rfl ?_
 intro b0 hb0 _
 have hr0 : RowsAt (L.put b0 (.cells #[.slice none 0 0] 28)) (some ⟨b0, 0, none⟩) 1 encI ((choI n k 0).map natI) := GrowL.one_at (l := ([] : List Int)) SlAt.empty hb0
 refine W.loop (fun w E B L' => ∃ (i : Nat) (a : Option Addr) (c : Nat), w = k - i ∧ i ≤ k ∧ Le L L' ∧ RowsAt L' a 1 encI ((choI n k i).map natI) ∧
   E = [(0, .v (.int .i64 n)), (1, .v (.int .i64 k)), (5, .v (.slice a ((choI n k i).map natI).length c)), (6, .v (.int .i64 i))] ∧ B = [])
  ⟨0, _, 1, rfl, by omega, Le.put hb0 _, hr0, rfl, rfl⟩ (by exact ⟨rfl, rfl, rfl, rfl, trivial⟩) trivial ?_
 rintro _ _ _ L1 ⟨i, a, c, rfl, hi, hl1, hrows, rfl, rfl⟩ again
 refine W.go 99 rfl ?_
 refine W.split rfl rfl rfl (fun e1 => W.go 99 rfl ?_) (fun e1 => W.go 99 rfl ?_)
 ·have hik : i < k := by simpa using e1
  obtain ⟨hsl, hmem⟩ := choI_bd hn hk hi
  have hstep := choI_succ n k i
  generalize choI n k i = S at hrows hsl hmem hstep
  refine W.loop (fun w E B L' => ∃ (j : Nat) (v : Value) (F : LH) (rs : List (Rw Int)), w = S.length - j ∧ j ≤ S.length ∧ Le L1 F ∧ rs.map Prod.snd = ((S.take j).flatMap fun x => (List.range' (fstC x) (n - k + i + 1 - fstC x)).map fun y => x ++ [y]).map natI ∧ rs.length ≤ j * 4 ∧ Grow F 1 28 encRw L' v rs ∧ (∀ x ∈ rs, RwOk F 1 encI x) ∧
    E = [(0, .v (.int .i64 n)), (1, .v (.int .i64 k)), (5, .v (.slice a (S.map natI).length c)), (6, .v (.int .i64 i)), (7, .v v), (8, .v (.int .i64 j))] ∧ B = [])
   ⟨0, _, L1, [], rfl, by omega, Le.refl _, rfl, by simp, Grow.nil (Le.refl _), (fun x hx => by cases hx), rfl, rfl⟩ (by exact ⟨rfl, rfl, rfl, rfl, rfl, rfl, trivial⟩) trivial ?_
  rintro _ _ _ L2 ⟨j, v, F, rs, rfl, hj, hLF, hrs, hrl, hgr, hrk, rfl, rfl⟩ again2
  refine W.go 99 rfl ?_
  refine W.split rfl rfl rfl (fun e2 => W.go 99 rfl ?_) (fun e2 => W.go 99 rfl ?_)
  ·have hjl : j < S.length := by simp at e2; omega
   obtain ⟨x, hx⟩ : ∃ x, S[j]? = some x := ⟨_, List.getElem?_eq_getElem hjl⟩
   obtain ⟨hxl, hxf⟩ := hmem x (List.mem_of_getElem? hx)
   have hjm : j < (S.map natI).length := by simpa using hjl
   obtain ⟨a', rfl⟩ := hrows.addr hjm
   obtain ⟨xa, xc, hxc, hxs⟩ := hrows.row (i := j) (l := natI x) (by rw [List.getElem?_map, hx]; rfl)
   have hnx : (natI x).length = x.length := by simp [natI]
   have hL12 : Le L1 L2 := hLF.trans hgr.1
   apply W.cut (fun E B L' => L2 = L' ∧ SubE E [(0, .v (.int .i64 n)), (1, .v (.int .i64 k)), (5, .v (.slice (some a') (S.map natI).length c)), (6, .v (.int .i64 i)), (7, .v v), (8, .v (.int .i64 j)), (10, .v (.int .i64 (fstC x)))] ∧ PreB B [])
   rotate_left
   ·intro rest
    refine W.split rfl rfl rfl (fun e3 => W.go 99 rfl ?_) (fun e3 => W.go 99 rfl ?_)
    ·have hi0 : 0 < i := by simpa using e3
     have hix : i - 1 < (natI x).length := by omega
     refine W.vf rfl rfl rfl rfl (Vf.idx1 rfl rfl rfl rfl rfl rfl rfl (hjm)) ?_
     refine W.vf rfl rfl rfl rfl (Vf.load rfl rfl rfl (hL12.cell hxc)) ?_
     refine W.go 99 rfl ?_
     rw [wrap64_in _ (by omega) (by omega), show (i : Int) - 1 = ((i - 1 : Nat) : Int) by omega]
     obtain ⟨xa', rfl⟩ := hxs.addr hix
     refine W.vf rfl rfl rfl rfl (Vf.idx1 rfl rfl rfl rfl rfl rfl rfl (hix)) ?_
     have hlast : fstC x = x[i - 1]'(by omega) + 1 := by unfold fstC; rw [List.getLast?_eq_getElem?, show x.length - 1 = i - 1 by omega, List.getElem?_eq_getElem (by omega)]
     refine W.vf rfl rfl rfl rfl (Vf.load rfl rfl rfl ((hxs.le hL12).int (x := ((x[i - 1]'(by omega) : Nat) : Int)) (by rw [natI, List.getElem?_map, List.getElem?_eq_getElem (show i - 1 < x.length by omega)]; rfl))) ?_
     refine W.go 99 rfl ?_
     have hw : IntKind.i64.wrap (((x[i - 1]'(by omega) : Nat) : Int) + 1) = (fstC x : Int) := by rw [hlast, wrap64_in _ (by omega) (by omega)]; omega
     rw [hw]
     exact rest _ _ _ ⟨rfl, by exact ⟨rfl, rfl, rfl, rfl, rfl, rfl, rfl, trivial⟩, by trivial⟩
    ·have hi0 : i = 0 := by simp at e3; omega
     have hx0 : fstC x = 0 := by
      have : x = [] := List.length_eq_zero_iff.1 (by omega)
      rw [this]; rfl
     exact rest _ _ _ ⟨rfl, by exact ⟨rfl, rfl, rfl, rfl, rfl, rfl, congrArg (fun (n : Nat) => some (SV.v (.int .i64 n))) hx0.symm, trivial⟩, by trivial⟩
   rintro E B _ ⟨rfl, hE, hB⟩
   refine W.weak hE hB ?_
   refine W.loop (fun w E B L' => ∃ (y : Nat) (v : Value) (F' : LH) (rs' : List (Rw Int)), w = n - k + i + 1 - fstC x - y ∧ y ≤ n - k + i + 1 - fstC x ∧ Le F F' ∧ rs'.map Prod.snd = rs.map Prod.snd ++ ((List.range' (fstC x) y).map fun y => x ++ [y]).map natI ∧ rs'.length = rs.length + y ∧ Grow F' 1 28 encRw L' v rs' ∧ (∀ x ∈ rs', RwOk F' 1 encI x) ∧
     E = [(0, .v (.int .i64 n)), (1, .v (.int .i64 k)), (5, .v (.slice (some a') (S.map natI).length c)), (6, .v (.int .i64 i)), (7, .v v), (8, .v (.int .i64 j)), (10, .v (.int .i64 ((fstC x + y : Nat) : Int)))] ∧ B = [])
    ⟨0, v, F, rs, rfl, by omega, Le.refl _, by simp, by omega, hgr, hrk, rfl, rfl⟩ (by exact ⟨rfl, rfl, rfl, rfl, rfl, rfl, rfl, trivial⟩) trivial ?_
   clear hgr hrk
   rintro _ _ _ L3 ⟨y, v, F3, rs3, rfl, hy, hFF3, hrs3, hrl3, hgr3, hrk3, rfl, rfl⟩ again3
   have hL13 : Le L1 L3 := hLF.trans (hFF3.trans hgr3.1)
   refine W.go 99 rfl ?_
   rw [wrap64_in ((n : Int) - k) (by omega) (by omega), wrap64_in ((n : Int) - k + i) (by omega) (by omega)]
   refine W.split rfl rfl rfl (fun e3 => W.go 99 rfl ?_) (fun e3 => W.go 99 rfl ?_)
   ·have hyn : y < n - k + i + 1 - fstC x := by simp at e3; omega
    refine W.vf rfl rfl rfl rfl (Vf.idx1 rfl rfl rfl rfl rfl rfl rfl (hjm)) ?_
    refine W.vf rfl rfl rfl rfl (Vf.load rfl rfl rfl (hL13.cell hxc)) ?_
    refine W.go 99 rfl ?_
    refine W.eff rfl rfl rfl (Ef.call rfl (DupInts_sp xa xc (natI x) L3 (hxs.le hL13) (by omega))) ?_
    rintro _ _ _ ⟨_, rfl, rfl, hg1⟩
    rename_i L4 _
    obtain ⟨da, dc, rfl, -⟩ := hg1.slice
    refine W.go 99 rfl ?_
    refine W.eff rfl rfl rfl (Ef.grow rfl rfl rfl rfl rfl rfl rfl rfl rfl encI_len encI_sg hg1 (ls := [((fstC x + y : Nat) : Int)]) (.own rfl rfl rfl rfl) (by simp; omega)) ?_
    rintro _ _ _ ⟨v1, rfl, rfl, hg2, -⟩
    rename_i L5
    have hg2 : Grow L3 1 3 encI L5 v1 (natI (x ++ [fstC x + y])) := by rw [natI_snoc]; exact hg2
    obtain ⟨wa, wc, rfl, -⟩ := hg2.slice
    obtain ⟨F5, hFF5, hF5L, hw5, hf5⟩ := hg2.foot encI_len hgr3.1
    have hgr5 : Grow F5 1 28 encRw L5 v rs3 := hgr3.rebase hg2.1 hF5L hf5
    refine W.go 99 rfl ?_
    refine W.eff rfl rfl rfl (Ef.grow rfl rfl rfl rfl rfl rfl rfl rfl rfl encRw_len encRw_sg hgr5 (ls := [((wa, (natI (x ++ [fstC x + y])).length, wc), natI (x ++ [fstC x + y]))]) (.own rfl rfl rfl rfl) (by simp; omega)) ?_
    rintro _ _ _ ⟨v2, rfl, rfl, hg6, -⟩
    refine W.go 99 rfl ?_
    refine W.again (again3 _ _ _ _ (by omega) ⟨y + 1, v2, F5, _, rfl, by omega, hFF3.trans hFF5, ?_, by simp; omega, hg6, ?_, rfl, rfl⟩) ⟨rfl, rfl, rfl, rfl, rfl, rfl, congrArg some (inc64 (by omega)), trivial⟩ trivial
    ·rw [List.map_append, hrs3, List.range'_concat]
     simp only [List.map_append, List.map_cons, List.map_nil, List.append_assoc, Nat.one_mul]
    ·intro z hz
     rcases List.mem_append.1 hz with hz | hz
     ·exact (hrk3 z hz).le hFF5
     ·rw [List.mem_singleton.1 hz]; exact ⟨hw5, rfl⟩
   ·have hye : y = n - k + i + 1 - fstC x := by simp at e3; omega
    refine W.again (again2 _ _ _ _ (by omega) ⟨j + 1, v, F3, rs3, rfl, by omega, hLF.trans hFF3, ?_, by omega, hgr3, hrk3, rfl, rfl⟩) ⟨rfl, rfl, rfl, rfl, rfl, congrArg some (inc64 (by omega)), trivial⟩ trivial
    obtain ⟨_, rfl⟩ := List.getElem?_eq_some_iff.1 hx
    rw [hrs3, hrs, List.take_succ_eq_append_getElem hjl, List.flatMap_append, List.flatMap_singleton, List.map_append, hye]
  ·have hje : j = S.length := by simp at e2; omega
   subst hje
   rw [List.take_length, ← hstep] at hrs
   have hgL : GrowL L1 28 1 encI L2 v ((choI n k (i + 1)).map natI) := ⟨F, rs, hLF, hrs, hgr, hrk⟩
   obtain ⟨va, vc, rfl⟩ := hgL.slice
   refine W.again (again _ _ _ _ (by omega) ⟨i + 1, va, vc, rfl, by omega, hl1.trans hgL.hle, hgL.at.2, rfl, rfl⟩) ⟨rfl, rfl, rfl, congrArg some (inc64 (by omega)), trivial⟩ trivial
 ·have hie : i = k := by simp at e1; omega
  subst hie
  refine W.ret r rfl rfl ?_
  exact ⟨a, c, rfl, hl1, hrows⟩
end Go.Mz


set_option maxRecDepth 100000
namespace Go.Mz
open Go.Conc Go.Proofs
theorem crowdE_none {s : St} {hs : List Int} (h : Ok s) (hh : heatsE s hs = 0) (hc : crowdS s hs = none) : CrowdE s hs = ([], 11) := by
 unfold CrowdE; rw [if_neg (by rw [openE_0 h hh]; simp), hc]
theorem crowdE_some {s : St} {hs : List Int} {l : List Nat} (h : Ok s) (hh : heatsE s hs = 0) (hc : crowdS s hs = some l) : CrowdE s hs = (natI l, 0) := by
 unfold CrowdE; rw [if_neg (by rw [openE_0 h hh]; simp), hc]
variable {Post : Value → World → Prop} {W0 : World}
theorem ScC_run (na : Option Addr) (nc : Nat) (nums : List Int) (L : LH) (hn : IntsAt L na nums) (hgl : GlOk L) (hl2 : nums.length ≤ 140737488355328)
  (hQ : ∀ v L' w, (v = .bool true ∧ Dim L L') → Sub L' w → Same W0 w → Post v w) :
  FGo Tryz.prog Post W0 (G (Frame.enter Tryz.prog 9 [.slice na nums.length nc].toArray .normal) []) L := by
 refine root_enter (n := 82) (s := 2) Tryz.func9 rfl rfl (by kernel_rfl) rfl rfl hQ fun C hX _ hL0 r => ?_
 have drd : ∀ L2, GlOk L2 → Sp C.X 21 [] L2 (fun v L' => v = .bool true ∧ Dim L2 L') := fun L2 h => by rw [hX]; exact dried_sp L2 h
 refine W.go 99 rfl ?_
 refine W.eff rfl rfl rfl (Ef.call rfl (NewHat_sp na nc nums L hn)) ?_
 rintro _ _ _ ⟨_, rfl, rfl, b, rfl, hb, hle1, hh1⟩
 refine W.go 99 rfl ?_
 rename_i L1
 have hb1 := le_but hb hle1
 refine W.eff rfl rfl rfl (Ef.call rfl (made_sp b na nc nums 0 L1 hh1 (by omega) hl2)) ?_
 rintro _ _ _ ⟨_, rfl, rfl, s, p, m, rfl, hs, hm, hle2, hh2, hst2⟩
 refine W.go 99 rfl ?_
 rename_i L2
 have hok : Ok s := hs.elim (fun h => h.ok) (fun h => h.ok)
 have hc3 := hok.c3
 have o3 := hok.s3
 have o4 := hok.d4
 have o5 := hok.d1
 refine W.eff rfl rfl rfl (Ef.call rfl (HeatsOf_sp s p b na nc nums m L2 hh2 (by omega) hl2 hok)) ?_
 rintro _ _ _ ⟨_, rfl, rfl, t, I3, m2, ht, hm2, hg3⟩
 rename_i L3 _
 have hhk := hok_of ht
 have htl := hhk.len
 obtain ⟨ta, tc, rfl, _⟩ := hg3.g.slice
 obtain ⟨sd3, hb3⟩ := hg3.hat.blk
 have ht3 := (hg3.g.sl_but encI_len hb3 (by decide)).2
 have hst3 : StAt (L3.but b) s p := hst2.le (but_but hg3.le)
 have hL3 : Le L (L3.but b) := hb1.trans (but_but (but_trans hle2 hg3.le))
 have hask : AskAt L3 s p ta t := ⟨hst3.le (but_le _ _), ht3.le (but_le _ _), hgl.le (hL3.trans (but_le _ _)), by omega⟩
 refine W.go 99 rfl ?_
 refine W.eff rfl rfl rfl (Ef.call rfl (Crowd_sp s p ta tc t L3 hask)) ?_
 rintro _ _ _ ⟨_, rfl, rfl, _, rfl, ga, gc, rfl, hl5, hgs, -⟩
 refine W.go 99 rfl ?_
 rename_i L5
 have h := hask.le hl5
 have hd5 : Dim L L5 := Dim.of_le ((hL3.trans (but_le _ _)).trans hl5)
 refine W.loop (fun w E B L' => ∃ m : Nat, w = s.cones.length - m ∧ m ≤ s.cones.length ∧ Le L5 L' ∧ (∀ j, j < m → ∀ l ∈ choL s.cones.length (j + 1), canS (onlyS s l) t = true) ∧
   E = [(4, .p 0 0), (5, .v (.slice ta t.length tc)), (6, .v (.slice ga (CrowdE s t).1.length gc)), (7, .v (.int .i64 (CrowdE s t).2)), (8, .v (.int .i64 ((m + 1 : Nat) : Int)))] ∧ B = [some ⟨cellsS (.v (stA s p)), 25⟩])
  ⟨0, rfl, by omega, Le.refl _, fun j hj => absurd hj (by omega), rfl, rfl⟩ (by exact ⟨rfl, rfl, rfl, rfl, rfl, trivial⟩) (by exact ⟨rfl, trivial⟩) ?_
 rintro _ _ _ L6 ⟨m, rfl, hm, hl1, hall, rfl, rfl⟩ again
 refine W.go 99 rfl ?_
 refine W.split rfl rfl rfl (fun e2 => W.go 99 rfl ?_) (fun e2 => W.go 99 rfl ?_)
 ·have hmn : m < s.cones.length := by simp at e2; omega
  refine W.eff rfl rfl rfl (Ef.call rfl (Choose_sp s.cones.length (m + 1) L6 hc3 (by omega))) ?_
  rintro _ _ _ ⟨_, rfl, rfl, qa, qc, rfl, hl7, hrows⟩
  rename_i L7
  obtain ⟨hPl, hPm⟩ := cho_len (m := m + 1) hc3 (by omega)
  have hnone : (∀ l ∈ choL s.cones.length (m + 1), canS (onlyS s l) t = true) → ∀ j, j < m + 1 → ∀ l ∈ choL s.cones.length (j + 1), canS (onlyS s l) t = true := fun hh j hj => by
   rcases Nat.lt_succ_iff_lt_or_eq.1 hj with hj | rfl
   ·exact hall j hj
   ·exact hh
  have hsome := fun (k : Nat) (y : List Nat) hy hp hk => crowd_some (hs := t) (k := k) (y := y) hok hmn hall hy hp hk
  generalize choL s.cones.length (m + 1) = P at hrows hPl hPm hnone hsome
  have hl2' := hl1.trans hl7
  refine W.go 99 rfl ?_
  refine W.loop (fun w E B L' => ∃ k : Nat, w = P.length - k ∧ k ≤ P.length ∧ Le L7 L' ∧ (∀ j x, j < k → P[j]? = some x → canS (onlyS s x) t = true) ∧
    E = [(4, .p 0 0), (5, .v (.slice ta t.length tc)), (6, .v (.slice ga (CrowdE s t).1.length gc)), (7, .v (.int .i64 (CrowdE s t).2)), (8, .v (.int .i64 ((m + 1 : Nat) : Int))), (9, .v (.slice qa (P.map natI).length qc)), (10, .v (.int .i64 k))] ∧ B = [some ⟨cellsS (.v (stA s p)), 25⟩])
   ⟨0, rfl, by omega, Le.refl _, fun j x hj => absurd hj (by omega), rfl, rfl⟩ (by exact ⟨rfl, rfl, rfl, rfl, rfl, rfl, rfl, trivial⟩) (by exact ⟨rfl, trivial⟩) ?_
  rintro _ _ _ L8 ⟨k, rfl, hk, hl3, hsofar, rfl, rfl⟩ again2
  refine W.go 99 rfl ?_
  refine W.split rfl rfl rfl (fun e3 => W.go 99 rfl ?_) (fun e3 => W.go 99 rfl ?_)
  ·have hkl : k < P.length := by simp at e3; omega
   obtain ⟨x, hx⟩ : ∃ x, P[k]? = some x := ⟨_, List.getElem?_eq_getElem hkl⟩
   obtain ⟨hxm, hxl⟩ := hPm x (List.mem_of_getElem? hx)
   obtain ⟨qa', rfl⟩ := hrows.addr (i := k) (by simpa using hkl)
   obtain ⟨xa, xc, hxc, hxs⟩ := (hrows.le hl3).row (i := k) (l := natI x) (by rw [List.getElem?_map, hx]; rfl)
   have hkn : k < (P.map natI).length := by simpa using hkl
   have hxn : (natI x).length = x.length := by simp [natI]
   have h3 := h.le (hl2'.trans hl3)
   have hoko := only_ok hok hxl (by omega)
   have hto : heatsE (onlyS s x) t = 0 := ht
   have hall2 := allE_can hoko hto
   refine W.drawn (by kernel_rfl) _ (Le.refl _) ?_
   refine DD.run' [0, 1, 2, 6] rfl ?_
   refine DD.vf 3 rfl rfl rfl rfl rfl (Vf.idx1 rfl rfl rfl rfl rfl rfl rfl (hkn)) ?_
   refine DD.vf 4 rfl rfl rfl rfl rfl (Vf.load rfl rfl rfl (hxc)) ?_
   refine DD.act 5 rfl rfl rfl rfl rfl (Ef.call rfl ((Only_sp s p xa xc x L8 h3.st hxs hxl (by omega) (by omega)))) ((by rintro _ _ _ ⟨_, rfl, rfl, _, _, rfl, hl, _⟩; exact ⟨hl, rfl, .inl rfl⟩)) ?_
   rintro _ _ _ ⟨_, rfl, rfl, oa, oc, rfl, hl9, hst9⟩
   rename_i L9
   refine DD.act 7 rfl rfl rfl rfl rfl (Ef.call rfl ((All_sp (onlyS s x) ⟨p.sa, oa, p.c1, oc⟩ ta tc t L9 ⟨hst9, h3.he.le hl9, h3.gl.le hl9, h3.hn⟩))) ((by rintro _ _ _ ⟨_, rfl, rfl, _, rfl, _, _, rfl, hl, _⟩; exact ⟨hl9.trans hl, rfl, .inl rfl⟩)) ?_
   rintro _ _ _ ⟨_, rfl, rfl, _, rfl, wa, wc, rfl, hl10, -, -⟩
   rename_i L10
   have hl810 := hl9.trans hl10
   have hd10 := hd5.trans (Dim.of_le (hl2'.trans (hl3.trans hl810)))
   refine DD.run' [8, 9, 10, 11, 12] rfl ?_
   refine .fin rfl ?_
   rw [hall2]
   cases hcan : canS (onlyS s x) t with
   | true =>
    refine W.go 99 rfl ?_
    refine W.split rfl rfl rfl (fun c => absurd c (by decide)) (fun c => ?_)
    refine W.go 99 rfl ?_
    refine W.split rfl rfl rfl (fun c => absurd c (by decide)) (fun c => ?_)
    refine W.go 99 rfl ?_
    exact W.again (again2 _ _ _ _ (by omega) ⟨k + 1, rfl, by omega, hl3.trans hl810, (fun j y hj hy => by
     rcases Nat.lt_succ_iff_lt_or_eq.1 hj with hj | rfl
     ·exact hsofar j y hj hy
     ·rw [hx] at hy; cases hy; exact hcan), rfl, rfl⟩) ⟨rfl, rfl, rfl, rfl, rfl, rfl, congrArg some (inc64 (by omega)), trivial⟩ ⟨rfl, trivial⟩
   | false =>
    have hcr := crowdE_some hok ht (hsome k x hx hcan hsofar)
    rw [hcr] at hgs ⊢
    refine W.go 99 rfl ?_
    refine W.split rfl rfl rfl (fun c => ?_) (fun c => absurd c (by decide))
    refine W.go 99 rfl ?_
    refine W.split rfl rfl rfl (fun _ => W.go 99 rfl ?_) (fun h => absurd h (by simp))
    refine W.vf rfl rfl rfl rfl (Vf.idx1 rfl rfl rfl rfl rfl rfl rfl (hkn)) ?_
    refine W.vf rfl rfl rfl rfl (Vf.load rfl rfl rfl (hl810.cell hxc)) ?_
    refine W.go 99 rfl ?_
    refine W.eff rfl rfl rfl (Ef.call rfl (EqInts_sp ga xa gc xc (natI x) (natI x) L10 (hgs.le (hl2'.trans (hl3.trans hl810))) (hxs.le hl810) (by omega) (by omega))) ?_
    rintro _ _ _ ⟨_, rfl, rfl, rfl, rfl⟩
    rw [show decide (natI x = natI x) = true from decide_eq_true rfl]
    refine W.go 99 rfl ?_
    refine W.split rfl rfl rfl (fun c => ?_) (fun c => absurd c (by decide))
    refine W.go 99 rfl ?_
    refine W.eff rfl rfl rfl (Ef.call rfl (drd L10 (hd10.cell hgl))) ?_
    rintro _ _ _ ⟨_, rfl, rfl, rfl, hdm⟩
    refine W.go 99 rfl ?_
    exact W.retO r rfl ⟨rfl, hd10.trans hdm⟩
  ·have hke : k = P.length := by simp at e3; omega
   exact W.again (again _ _ _ _ (by omega) ⟨m + 1, rfl, by omega, hl2'.trans hl3, hnone (fun l hl => by
    obtain ⟨j, hj⟩ := List.mem_iff_getElem?.1 hl
    have hjl := (List.getElem?_eq_some_iff.1 hj).1
    exact hsofar j l (by omega) hj), rfl, rfl⟩) ⟨rfl, rfl, rfl, rfl, congrArg some (inc64 (by omega)), trivial⟩ ⟨rfl, trivial⟩
 ·have hme : m = s.cones.length := by simp at e2; omega
  have hcr := crowdE_none hok ht (crowd_none hok fun j hj => hall j (by omega))
  rw [hcr] at hgs ⊢
  refine W.go 99 rfl ?_
  refine W.split rfl rfl rfl (fun _ => W.go 99 rfl ?_) (fun h => absurd h (by simp))
  refine W.split rfl rfl rfl (fun _ => W.go 99 rfl ?_) (fun h => absurd h (by simp))
  refine W.eff rfl rfl rfl (Ef.call rfl (drd L6 (h.le hl1).gl)) ?_
  rintro _ _ _ ⟨_, rfl, rfl, rfl, hdm⟩
  refine W.go 99 rfl ?_
  exact W.retO r rfl ⟨rfl, (hd5.trans (Dim.of_le hl1)).trans hdm⟩
end Go.Mz

