/- Lemmas on which the claim leans. -/
import Derived.Test.YtnhckcgdmolgcaaGreatDoorMzAw
set_option maxRecDepth 100000
namespace Go.Mz
open Go.Conc Go.Proofs
theorem flat_at {α : Type} {enc : α → List Value} {k : Nat} (hk : ∀ x, (enc x).length = k) {l : List α} {d f : Nat} (hd : d < l.length) (hf : f < k) : (l.flatMap enc)[d * k + f]? = (enc l[d])[f]? := by
 have hv : (enc l[d])[f]? = some ((enc l[d])[f]'(by rw [hk]; exact hf)) := List.getElem?_eq_getElem _
 rw [flat_get hk (List.getElem?_eq_getElem hd) hv, hv]
theorem Grow.setF {α : Type} {I L : LH} {k : Nat} {e : TypeId} {enc : α → List Value} {v : Value} {l : List α} {d f : Nat} (h : Grow I k e enc L v l) (hk : ∀ x, (enc x).length = k) (hd : d < l.length) (hf : f < k) (x : α) {w : Value} (hw : (enc x)[f]? = some w) (hx : ∀ j, j ≠ f → (enc x)[j]? = (enc l[d])[j]?) :
  ∃ b cap c, v = .slice (some ⟨b, 0, none⟩) l.length cap ∧ I b = none ∧ L b = some (.cells c e (0, 0), true) ∧ d * k + f + 1 ≤ c.size ∧ Grow I k e enc (L.put b (.cells (putRow c (d * k + f) [w]) e)) v (l.set d x) := by
 obtain ⟨hI, ob, ho, hn⟩ := h
 cases ob with
 | none => obtain ⟨_, h, _⟩ := ho; omega
 | some b =>
  obtain ⟨cap, c, h1, h2, h3, h4, h5, h6⟩ := ho
  have hsz : d * k + k ≤ c.size := by
   rw [h3, ← Nat.succ_mul]
   exact Nat.mul_le_mul_right _ (by omega)
  have hb := hn b rfl
  refine ⟨b, cap, c, h1, hb, h2, by omega, fun b' y hy => ?_, some b, ⟨cap, putRow c (d * k + f) [w], ?_, put_same _ _ _, ?_, ?_, ?_, fun i y hy => ?_⟩, fun b' hb' => by cases hb'; exact hb⟩
  ·rw [put_ne _ _ (fun e => by subst e; rw [hb] at hy; cases hy)]; exact hI _ _ hy
  ·rw [List.length_set]; exact h1
  ·rw [putRow_size]; exact h3
  ·rw [List.length_set]; exact h4
  ·exact flat_len hk _
  ·rw [flat_set_get hk l d x i hd] at hy
   rw [putRow_get]
   by_cases he : i = d * k + f
   ·subst he
    rw [if_pos (by omega), show d * k + f - d * k = f by omega, hw] at hy
    cases hy
    rw [if_neg (by omega), dif_pos ⟨by simp, by omega⟩]
    simp
   ·have hold : (l.flatMap enc)[i]? = some y := by
     split at hy
     ·rename_i h7
      rw [hx _ (by omega)] at hy
      rw [show i = d * k + (i - d * k) by omega, flat_at hk hd (by omega)]
      exact hy
     ·exact hy
    have := h6 i y hold
    split
    ·exact this
    ·rw [dif_neg (by simp; omega)]; exact this
theorem but_self (L : LH) (b : Nat) : L.but b b = none := by unfold LH.but; rw [if_pos rfl]
theorem SlAt.conv {α β : Type} {L : LH} {ad : Option Addr} {k : Nat} {enc : α → List Value} {enc2 : β → List Value} {l : List α} {l2 : List β} (h : SlAt L ad k enc l) (he : l2.map enc2 = l.map enc) : SlAt L ad k enc2 l2 := fun i x hx => by
 have h1 : (l2.map enc2)[i]? = some (enc2 x) := by rw [List.getElem?_map, hx]; rfl
 rw [he, List.getElem?_map] at h1
 obtain ⟨y, hy, e⟩ := Option.map_eq_some_iff.1 h1
 rw [← e]
 exact h i y hy
end Go.Mz


set_option maxRecDepth 100000
namespace Go.Mz
open Go Go.Conc Go.Proofs
def plansG (s : St) (hs : List Int) (each : Bool) (b : List Stand) : List (List Stand) := if fitsS s hs b then grow (fitsS s hs) ((optsS s hs allC each).drop b.length) b else []
section
variable {s : St} {hs : List Int} {each : Bool} {b : List Stand}
theorem plansG_no (h : fitsS s hs b = false) : plansG s hs each b = [] := by unfold plansG; rw [h]; rfl
theorem plansG_end (h : fitsS s hs b = true) (hb : s.cones.length ≤ b.length) : plansG s hs each b = [b] := by
 unfold plansG
 rw [if_pos h, List.drop_of_length_le (by rw [opts_len]; exact hb)]
 rfl
theorem plansG_step (h : fitsS s hs b = true) {c : Cone} (hc : s.cones[b.length]? = some c) : plansG s hs each b = (optS s hs true each c).flatMap fun a => plansG s hs each (b ++ [a]) := by
 have hi := (List.getElem?_eq_some_iff.1 hc).1
 have ho : (optsS s hs allC each)[b.length]? = some (optS s hs true each c) := opts_get hc
 have hl : b.length < (optsS s hs allC each).length := (List.getElem?_eq_some_iff.1 ho).1
 have hg : (optsS s hs allC each)[b.length] = optS s hs true each c := Option.some.inj ((List.getElem?_eq_getElem hl).symm.trans ho)
 unfold plansG
 rw [if_pos h, List.drop_eq_getElem_cons hl, hg]
 simp only [grow, List.length_append, List.length_cons, List.length_nil, Nat.zero_add]
theorem plansG_nil (h : Ok s) : plansG s hs each [] = plansS s hs allC each := by
 unfold plansG plansS
 rw [if_pos (fits_nil h hs), List.length_nil, List.drop_zero]
end
def heatsG (s : St) (b : List Int) : List (List Int) := (heatsAll s.top s.rise (s.days.toNat - b.length) (b.getLast?.getD s.now)).map (b ++ ·)
section
variable {s : St} {b : List Int}
end
def fireStep (s : St) (b : Option (List Int)) (x : List Int) : Option (List Int) := if canS s x then takeLess sumL b x else b
end Go.Mz


set_option maxRecDepth 100000
namespace Go.Mz
open Go
theorem grow_len {fit : List Stand → Bool} {k : Nat} : ∀ {os : List (List Stand)} {b : List Stand}, (∀ o ∈ os, o.length ≤ k) → (grow fit os b).length ≤ k ^ os.length
 | [], b, _ => by simp [grow]
 | o :: os, b, h => by
  simp only [grow]
  have h1 := h o (List.mem_cons_self ..)
  have h2 : ∀ a ∈ o, (if fit (b ++ [a]) then grow fit os (b ++ [a]) else []).length ≤ k ^ os.length := fun a _ => by
   split
   ·exact grow_len fun x hx => h x (List.mem_cons_of_mem _ hx)
   ·simp
  have h3 := flatMap_le o h2
  rw [List.length_cons, Nat.pow_succ, Nat.mul_comm]
  exact Nat.le_trans h3 (Nat.mul_le_mul_right _ h1)
section
variable {s : St} {hs : List Int}
theorem opt_len (h : Ok s) {so each : Bool} {c : Cone} : (optS s hs so each c).length ≤ 13 := by
 unfold optS
 rw [List.length_append]
 have h1 := grid_len h
 have h2 : (standsS s hs c).length ≤ (grid s).length := List.length_filter_le ..
 split <;> split <;> simp <;> omega
theorem plansG_len (h : Ok s) {each : Bool} {b : List Stand} : (plansG s hs each b).length ≤ 2197 := by
 unfold plansG
 split
 ·have h1 : ((optsS s hs allC each).drop b.length).length ≤ 3 := by rw [List.length_drop, opts_len]; have := h.c3; omega
  have h2 := grow_len (fit := fitsS s hs) (k := 13) (os := (optsS s hs allC each).drop b.length) (b := b) (fun o ho => by
   have := List.mem_of_mem_drop ho
   unfold optsS at this
   obtain ⟨x, _, rfl⟩ := List.mem_map.1 this
   exact opt_len h)
  have h3 : 13 ^ ((optsS s hs allC each).drop b.length).length ≤ 13 ^ 3 := Nat.pow_le_pow_right (by omega) h1
  omega
 ·simp
theorem plans_lenX (h : Ok s) {each : Bool} : (plansS s hs allC each).length ≤ 2197 := by rw [← plansG_nil h]; exact plansG_len h
end
theorem best_next {α : Type} {f : α → Int} {l : List α} {i b : Nat} {x y : α} (hx : l[i]? = some x) (hy : l[b]? = some y) (h : (i = 0 ∧ b = 0) ∨ firstMin f (l.take i) = some y) : firstMin f (l.take (i + 1)) = some (if f x < f y then x else y) := by
 have ht : l.take (i + 1) = l.take i ++ [x] := by
  obtain ⟨hi, rfl⟩ := List.getElem?_eq_some_iff.1 hx
  exact List.take_succ_eq_append_getElem hi
 rw [ht, firstMin_add]
 rcases h with ⟨rfl, rfl⟩ | h
 ·rw [hx] at hy; cases hy
  simp [firstMin, takeLess]
 ·rw [h]; unfold takeLess; simp only; split <;> rfl
def pickL (n : Nat) : Nat → Nat → List (List Nat)
 | 0, _ => [[]]
 | m + 1, first => (List.range' first (n - first)).flatMap fun i => (pickL n m (i + 1)).map (i :: ·)
end Go.Mz


namespace Go.Mz
open Go
theorem mem_grow {fit : List Stand → Bool} : ∀ {os : List (List Stand)} {b x : List Stand}, x ∈ grow fit os b ↔ ∃ t, x = b ++ t ∧ t.length = os.length ∧ (∀ (i : Nat) (o : List Stand) (a : Stand), os[i]? = some o → t[i]? = some a → a ∈ o) ∧ ∀ i, i < t.length → fit (b ++ t.take (i + 1)) = true
 | [], b, x => by
  simp only [grow, List.mem_singleton]
  constructor
  ·rintro rfl; exact ⟨[], by simp, rfl, fun i o a h => by simp at h, fun i h => by simp at h⟩
  ·rintro ⟨t, rfl, h, _⟩
   obtain rfl := List.length_eq_zero_iff.1 h
   simp
 | o :: os, b, x => by
  simp only [grow, List.mem_flatMap]
  constructor
  ·rintro ⟨a, ha, hx⟩
   by_cases hf : fit (b ++ [a]) = true
   ·rw [if_pos hf] at hx
    obtain ⟨t, rfl, h1, h2, h3⟩ := mem_grow.1 hx
    refine ⟨a :: t, by simp, by simp [h1], fun i o' a' ho ha' => ?_, fun i hi => ?_⟩
    ·cases i with
     | zero => simp at ho ha'; subst ho; subst ha'; exact ha
     | succ i => exact h2 i o' a' (by simpa using ho) (by simpa using ha')
    ·cases i with
     | zero => simpa using hf
     | succ i => have := h3 i (by simpa using hi); simpa using this
   ·rw [if_neg hf] at hx; cases hx
  ·rintro ⟨t, rfl, h1, h2, h3⟩
   cases t with
   | nil => simp at h1
   | cons a t =>
    have hf : fit (b ++ [a]) = true := by have := h3 0 (by simp); simpa using this
    refine ⟨a, h2 0 o a rfl rfl, ?_⟩
    rw [if_pos hf]
    refine mem_grow.2 ⟨t, by simp, by simpa using h1, fun i o' a' ho ha' => h2 (i + 1) o' a' (by simpa using ho) (by simpa using ha'), fun i hi => ?_⟩
    have := h3 (i + 1) (by simpa using hi)
    simpa using this
theorem filter_le {α : Type} {p q : α → Bool} {l : List α} (h : ∀ x ∈ l, p x = true → q x = true) : (l.filter p).length ≤ (l.filter q).length := by
 rw [← List.countP_eq_length_filter, ← List.countP_eq_length_filter]
 exact List.countP_mono_left h
theorem fits_iff {s : St} {hs : List Int} {l : List Stand} : fitsS s hs l = true ↔ ∀ k, k < s.shelves.length → ∀ d, d < s.days.toNat → ((onS s hs l k d).length : Int) ≤ roomOf s k := by
 unfold fitsS
 simp only [List.all_eq_true, List.mem_range, decide_eq_true_eq]
theorem on_mono {s : St} {hs : List Int} {l m : List Stand} {k d : Nat} : (onS s hs l k d).length ≤ (onS s hs (l ++ m) k d).length := by
 unfold onS
 refine filter_le fun i _ h => ?_
 unfold onB at h ⊢
 cases hl : l[i]? with
 | none => rw [hl] at h; cases h
 | some a =>
  have : (l ++ m)[i]? = some a := by rw [List.getElem?_append_left (List.getElem?_eq_some_iff.1 hl).1]; exact hl
  rw [hl] at h
  rw [this]
  exact h
theorem fits_pre {s : St} {hs : List Int} {l m : List Stand} (h : fitsS s hs (l ++ m) = true) : fitsS s hs l = true := by
 rw [fits_iff] at h ⊢
 intro k hk d hd
 have h1 := h k hk d hd
 have h2 := on_mono (s := s) (hs := hs) (l := l) (m := m) (k := k) (d := d)
 omega
theorem mem_plans {s : St} (h : Ok s) {hs : List Int} {so : Nat → Bool} {each : Bool} {x : List Stand} :
  x ∈ plansS s hs so each ↔ x.length = s.cones.length ∧ (∀ (i : Nat) (c : Cone) (a : Stand), s.cones[i]? = some c → x[i]? = some a → a ∈ optS s hs (so i) each c) ∧ fitsS s hs x = true := by
 unfold plansS
 rw [mem_grow]
 constructor
 ·rintro ⟨t, ht, h1, h2, h3⟩
  have ht : x = t := by simpa using ht
  subst ht
  rw [opts_len] at h1
  refine ⟨h1, fun i c a hc ha => h2 i _ a (opts_get hc) ha, ?_⟩
  cases ht : x.length with
  | zero =>
   obtain rfl := List.length_eq_zero_iff.1 ht
   exact fits_nil h hs
  | succ m =>
   have := h3 m (by omega)
   rw [List.take_of_length_le (by omega)] at this
   exact this
 ·rintro ⟨h1, h2, h3⟩
  refine ⟨x, rfl, by rw [opts_len]; exact h1, fun i o a ho ha => ?_, fun i hi => ?_⟩
  ·have hi : i < s.cones.length := by
    have := (List.getElem?_eq_some_iff.1 ho).1
    rw [opts_len] at this; exact this
   have hc : s.cones[i]? = some s.cones[i] := List.getElem?_eq_getElem hi
   rw [opts_get hc] at ho
   cases ho
   exact h2 i _ a hc ha
  ·refine fits_pre (m := x.drop (i + 1)) ?_
   rw [List.nil_append, List.take_append_drop]
   exact h3
theorem most_mem {s : St} (h : Ok s) (hs : List Int) : mostS s hs ∈ plansS s hs allC false := by
 obtain ⟨y, hy⟩ := firstMin_some (f := fun p => - cnt p) (plans_ne h hs allC)
 unfold mostS
 rw [hy]
 exact firstMin_mem hy
theorem most_max {s : St} (h : Ok s) {hs : List Int} {x : List Stand} (hx : x ∈ plansS s hs allC false) : cnt x ≤ cnt (mostS s hs) := by
 obtain ⟨y, hy⟩ := firstMin_some (f := fun p => - cnt p) (plans_ne h hs allC)
 have := firstMin_le hy x hx
 unfold mostS
 rw [hy]
 simp only [Option.getD_some]
 omega
end Go.Mz


namespace Go.Mz
open Go
structure Harder (c c' : Cone) : Prop where
 cold : c.cold ≤ c'.cold
 jump : c.jump ≤ c'.jump
 most : c.most ≤ c'.most
 wet : c'.wet ≤ c.wet
theorem Harder.refl (c : Cone) : Harder c c := ⟨Int.le_refl _, Int.le_refl _, Int.le_refl _, Int.le_refl _⟩
structure Wider (s s' : St) : Prop where
 sh : s'.shelves.length = s.shelves.length
 lift : ∀ k, liftOf s' k = liftOf s k
 room : ∀ k, k < s.shelves.length → roomOf s k ≤ roomOf s' k
 days : s'.days = s.days
 len : s'.cones.length = s.cones.length
 co : ∀ (i : Nat) c c', s.cones[i]? = some c → s'.cones[i]? = some c' → Harder c c'
theorem opt_dry {s : St} {hs : List Int} {so each : Bool} {c : Cone} {a : Stand} (h : a ∈ optS s hs so each c) : a = none1 ∨ (a ∈ grid s ∧ (fateS s hs c a).1 = 0) := by
 unfold optS at h
 rcases List.mem_append.1 h with h | h
 ·left
  split at h
  ·exact List.mem_singleton.1 h
  ·cases h
 ·right
  split at h
  ·have := List.mem_filter.1 h; exact ⟨this.1, by simpa using this.2⟩
  ·cases h
end Go.Mz


namespace Go.Mz
open Go
structure Renum (s s' : St) (σ : Nat → Nat) : Prop where
 sh : s'.shelves.length = s.shelves.length
 rng : ∀ k, k < s.shelves.length → σ k < s.shelves.length
 inj : ∀ j k, j < s.shelves.length → k < s.shelves.length → σ j = σ k → j = k
 sur : ∀ k, k < s.shelves.length → ∃ j, j < s.shelves.length ∧ σ j = k
 get : ∀ k, k < s.shelves.length → s'.shelves[σ k]? = s.shelves[k]?
 days : s'.days = s.days
 cones : s'.cones = s.cones
def mapSt (σ : Nat → Nat) (a : Stand) : Stand := if a.shelf < 0 then a else ⟨(σ a.shelf.toNat : Nat), a.day⟩
theorem map_none (σ : Nat → Nat) : mapSt σ none1 = none1 := rfl
theorem mem_grid {s : St} {a : Stand} : a ∈ grid s ↔ ∃ k d : Nat, k < s.shelves.length ∧ d < s.days.toNat ∧ a = ⟨k, d⟩ := by
 unfold grid
 simp only [List.mem_flatMap, List.mem_map, List.mem_range]
 constructor
 ·rintro ⟨k, hk, d, hd, rfl⟩; exact ⟨k, d, hk, hd, rfl⟩
 ·rintro ⟨k, d, hk, hd, rfl⟩; exact ⟨k, hk, d, hd, rfl⟩
theorem map_grid (σ : Nat → Nat) (k d : Nat) : mapSt σ ⟨k, d⟩ = ⟨(σ k : Nat), d⟩ := by
 unfold mapSt
 rw [if_neg (by simp only; omega)]
 simp
theorem Renum.lift {s s' : St} {σ : Nat → Nat} (r : Renum s s' σ) {k : Nat} (hk : k < s.shelves.length) : liftOf s' (σ k : Nat) = liftOf s (k : Nat) := by
 unfold liftOf
 simp only [Int.toNat_natCast]
 rw [r.get k hk]
theorem Renum.fate {s s' : St} {σ : Nat → Nat} (r : Renum s s' σ) {k : Nat} (hk : k < s.shelves.length) (hs : List Int) (c : Cone) (d : Nat) : fateS s' hs c ⟨(σ k : Nat), d⟩ = fateS s hs c ⟨k, d⟩ := by
 unfold fateS
 simp only
 rw [r.lift hk]
theorem Renum.plans {s s' : St} {σ : Nat → Nat} (r : Renum s s' σ) (h : Ok s) (h' : Ok s') {hs : List Int} {so : Nat → Bool} {each : Bool} {x : List Stand} (hx : x ∈ plansS s hs so each) : x.map (mapSt σ) ∈ plansS s' hs so each := by
 obtain ⟨h1, h2, h3⟩ := (mem_plans h).1 hx
 refine (mem_plans h').2 ⟨by rw [r.cones]; simpa using h1, fun i c a hc ha => ?_, ?_⟩
 ·rw [r.cones] at hc
  rw [List.getElem?_map] at ha
  obtain ⟨a0, ha0, rfl⟩ := Option.map_eq_some_iff.1 ha
  have := h2 i c a0 hc ha0
  unfold optS at this ⊢
  rcases List.mem_append.1 this with this | this
  ·refine List.mem_append_left _ ?_
   split at this
   ·rename_i hh
    rw [if_pos hh]
    rw [List.mem_singleton.1 this]
    exact List.mem_singleton.2 rfl
   ·cases this
  ·refine List.mem_append_right _ ?_
   split at this
   ·rename_i hso
    rw [if_pos hso]
    obtain ⟨g1, g2⟩ := List.mem_filter.1 this
    obtain ⟨k, d, hk, hd, rfl⟩ := mem_grid.1 g1
    rw [map_grid]
    refine List.mem_filter.2 ⟨mem_grid.2 ⟨σ k, d, by rw [r.sh]; exact r.rng k hk, by rw [r.days]; exact hd, rfl⟩, ?_⟩
    rw [r.fate hk]
    exact g2
   ·cases this
 ·rw [fits_iff] at h3 ⊢
  intro k' hk' d hd
  rw [r.sh] at hk'
  rw [r.days] at hd
  obtain ⟨k, hk, rfl⟩ := r.sur k' hk'
  have hon : onS s' hs (x.map (mapSt σ)) (σ k) d = onS s hs x k d := by
   unfold onS
   rw [r.cones]
   refine List.filter_congr fun i hi => ?_
   have hi := List.mem_range.1 hi
   have hc : s.cones[i]? = some s.cones[i] := List.getElem?_eq_getElem hi
   unfold onB
   rw [r.cones, hc, List.getElem?_map]
   cases ha : x[i]? with
   | none => rfl
   | some a =>
    simp only [Option.map_some]
    rcases opt_dry (h2 i _ a hc ha) with rfl | ⟨hg, _⟩
    ·have e1 : ((mapSt σ none1).shelf == ((σ k : Nat) : Int)) = false := by rw [map_none]; simp [none1]
     have e2 : (none1.shelf == ((k : Nat) : Int)) = false := by simp [none1]
     rw [e1, e2]; simp
    ·obtain ⟨j, e, hj, he, rfl⟩ := mem_grid.1 hg
     rw [map_grid, r.fate hj]
     have e1 : (((σ j : Nat) : Int) == ((σ k : Nat) : Int)) = ((j : Int) == (k : Int)) := by
      by_cases e : j = k
      ·subst e; simp
      ·have : σ j ≠ σ k := fun g => e (r.inj j k hj hk g)
       rw [beq_eq_false_iff_ne.2 (by omega), beq_eq_false_iff_ne.2 (by omega)]
     rw [e1]
  have hr : roomOf s' (σ k) = roomOf s k := by unfold roomOf; rw [r.get k hk]
  rw [hon, hr]
  exact h3 k hk d hd
theorem cnt_map {s : St} (h : Ok s) {hs : List Int} {so : Nat → Bool} {each : Bool} {x : List Stand} (hx : x ∈ plansS s hs so each) (σ : Nat → Nat) : cnt (x.map (mapSt σ)) = cnt x := by
 unfold cnt
 rw [List.countP_map]
 congr 1
 refine List.countP_congr fun a ha => ?_
 simp only [Function.comp, decide_eq_true_eq]
 unfold mapSt
 split
 ·rfl
 ·rename_i hh
  constructor
  ·intro _; omega
  ·intro _; simp only; omega
theorem Renum.inv {s s' : St} {σ : Nat → Nat} (r : Renum s s' σ) : ∃ τ, Renum s' s τ := by
 classical
 have hc : ∀ k, ∃ j, k < s.shelves.length → j < s.shelves.length ∧ σ j = k := fun k => by
  by_cases hk : k < s.shelves.length
  ·obtain ⟨j, hj⟩ := r.sur k hk; exact ⟨j, fun _ => hj⟩
  ·exact ⟨0, fun h => absurd h hk⟩
 obtain ⟨τ, hτ⟩ := Classical.axiomOfChoice hc
 refine ⟨τ, r.sh.symm, fun k hk => ?_, fun j k hj hk e => ?_, fun k hk => ?_, fun k hk => ?_, r.days.symm, r.cones.symm⟩
 ·rw [r.sh] at hk ⊢; exact (hτ k hk).1
 ·rw [r.sh] at hj hk; rw [← (hτ j hj).2, ← (hτ k hk).2, e]
 ·rw [r.sh] at hk ⊢
  exact ⟨σ k, r.rng k hk, r.inj _ _ (hτ _ (r.rng k hk)).1 hk (hτ _ (r.rng k hk)).2⟩
 ·rw [r.sh] at hk
  have := r.get (τ k) (hτ k hk).1
  rw [(hτ k hk).2] at this
  exact this.symm
theorem Renum.most {s s' : St} {σ : Nat → Nat} (r : Renum s s' σ) (h : Ok s) (h' : Ok s') (hs : List Int) : cnt (mostS s hs) = cnt (mostS s' hs) := by
 have key : ∀ {s s' : St} {σ : Nat → Nat}, Renum s s' σ → Ok s → Ok s' → cnt (mostS s hs) ≤ cnt (mostS s' hs) := fun {s s' σ} r h h' => by
  have h1 := most_mem h hs
  rw [← cnt_map h h1 σ]
  exact most_max h' (r.plans h h' h1)
 obtain ⟨τ, rτ⟩ := r.inv
 have h1 := key r h h'
 have h2 := key rτ h' h
 omega
theorem Renum.can {s s' : St} {σ : Nat → Nat} (r : Renum s s' σ) (h : Ok s) (h' : Ok s') (hs : List Int) : canS s hs = canS s' hs := by
 have key : ∀ {s s' : St} {σ : Nat → Nat}, Renum s s' σ → Ok s → Ok s' → canS s hs = true → canS s' hs = true := fun {s s' σ} r h h' hc => by
  unfold canS at hc ⊢
  cases hp : plansS s hs allC true with
  | nil => rw [hp] at hc; simp at hc
  | cons x l =>
   have hx : x ∈ plansS s hs allC true := by rw [hp]; exact List.mem_cons_self ..
   have := r.plans h h' hx
   cases hp' : plansS s' hs allC true with
   | nil => rw [hp'] at this; cases this
   | cons _ _ => rfl
 obtain ⟨τ, rτ⟩ := r.inv
 cases h1 : canS s hs with
 | true => exact (key r h h' h1).symm
 | false =>
  cases h2 : canS s' hs with
  | false => rfl
  | true => rw [key rτ h' h h2] at h1; cases h1
theorem Renum.fire {s s' : St} {σ : Nat → Nat} (r : Renum s s' σ) (h : Ok s) (h' : Ok s') (e : s'.top = s.top ∧ s'.rise = s.rise ∧ s'.now = s.now) : fireS s' = fireS s := by
 unfold fireS heatsS
 rw [e.1, e.2.1, e.2.2, r.days]
 congr 1
 exact List.filter_congr fun x _ => (r.can h h' x).symm
end Go.Mz


set_option maxRecDepth 100000
namespace Go.Mz
open Go.Conc Go.Proofs
abbrev Rw (α : Type) := Rf × List α
def encRw {α : Type} (x : Rw α) : List Value := [slV x.1]
theorem encRw_len {α : Type} (x : Rw α) : (encRw x).length = 1 := rfl
theorem encRw_sg {α : Type} (x : Rw α) : ∀ u ∈ encRw x, single u = true := fun u hu => by rw [List.mem_singleton.1 hu]; rfl
structure RwOk {α : Type} (L : LH) (k : Nat) (enc : α → List Value) (x : Rw α) : Prop where
 sl : SlAt L x.1.1 k enc x.2
 len : x.1.2.1 = x.2.length
theorem RwOk.le {α : Type} {L L' : LH} {k : Nat} {enc : α → List Value} {x : Rw α} (h : RwOk L k enc x) (hl : Le L L') : RwOk L' k enc x := ⟨h.sl.le hl, h.len⟩
def RowsAt {α : Type} (L : LH) (ad : Option Addr) (k : Nat) (enc : α → List Value) (ls : List (List α)) : Prop := ∃ rs : List (Rw α), rs.map Prod.snd = ls ∧ SlAt L ad 1 encRw rs ∧ ∀ x ∈ rs, RwOk L k enc x
def GrowL {α : Type} (I : LH) (e k : Nat) (enc : α → List Value) (L : LH) (v : Value) (ls : List (List α)) : Prop := ∃ J, ∃ rs : List (Rw α), Le I J ∧ rs.map Prod.snd = ls ∧ Grow J 1 e encRw L v rs ∧ ∀ x ∈ rs, RwOk J k enc x
section
variable {β : Type} {F F' I L L' L2 : LH} {e k : Nat} {enc : β → List Value} {v : Value} {l : List β}
theorem Grow.foot {ad : Option Addr} {len cap : Nat} (h : Grow I k e enc L (.slice ad len cap) l) (hk : ∀ x, (enc x).length = k) (hF : Le F I) : ∃ F', Le F F' ∧ Le F' L ∧ SlAt F' ad k enc l ∧ ∀ b, F' b ≠ none → F b ≠ none ∨ I b = none := by
 obtain ⟨hI, ob, ho, hn⟩ := h
 obtain ⟨ad', cap', e1, -⟩ := ho.slice
 cases e1
 classical
 refine ⟨fun b => if ob = some b then L b else F b, fun b x hx => ?_, fun b x hx => ?_, (ho.keep (L' := fun b => if ob = some b then L b else F b) fun b hb => ?_).at hk, fun b hb => ?_⟩
 ·simp only
  split
  ·rename_i e2; have := hF _ _ hx; rw [hn b e2] at this; cases this
  ·exact hx
 ·simp only at hx
  split at hx
  ·exact hx
  ·exact hI _ _ (hF _ _ hx)
 ·rw [if_pos hb]
 ·simp only at hb
  split at hb
  ·rename_i e2; exact .inr (hn b e2)
  ·exact .inl hb
theorem Own.some_blk {v : Value} {n : Nat} {cs : List Value} {ob : Option Nat} (h : Own L k e v n cs ob) {b : Nat} (hb : ob = some b) : L b ≠ none := by subst hb; exact h.blk
theorem Grow.rebase (h : Grow F k e enc L v l) (hl : Le L L') (hF : Le F' L') (hn : ∀ b, F' b ≠ none → F b ≠ none ∨ L b = none) : Grow F' k e enc L' v l := by
 obtain ⟨_, ob, ho, hf⟩ := h
 refine ⟨hF, ob, ho.le hl, fun b hb => ?_⟩
 cases hx : F' b with
 | none => rfl
 | some y =>
  rcases hn b (by rw [hx]; simp) with e1 | e1
  ·exact absurd (hf b hb) e1
  ·exact absurd e1 (ho.some_blk hb)
theorem Grow.call (h : Grow F k e enc L v l) (p : Post F L F' L2) : Grow F' k e enc L2 v l := by
 obtain ⟨_, ob, ho, hf⟩ := h
 refine ⟨p.le, ob, ho.keep fun b hb => ?_, fun b hb => ?_⟩
 ·cases hx : L b with
  | none => exact absurd hx (ho.some_blk hb)
  | some y => exact p.keep b y (hf b hb) hx
 ·cases hx : F' b with
  | none => rfl
  | some y =>
   rcases p.fresh b (by rw [hx]; simp) with e1 | e1
   ·exact absurd (hf b hb) e1
   ·exact absurd e1 (ho.some_blk hb)
end
section
variable {α : Type} {I L L' : LH} {e k : Nat} {enc : α → List Value} {v : Value} {ls : List (List α)}
theorem GrowL.hle (h : GrowL I e k enc L v ls) : Le I L := let ⟨_, _, h1, _, h, _⟩ := h; h1.trans h.1
theorem GrowL.le (h : GrowL I e k enc L v ls) (hl : Le L L') : GrowL I e k enc L' v ls := let ⟨J, rs, h0, h1, h2, h3⟩ := h; ⟨J, rs, h0, h1, h2.le hl, h3⟩
theorem GrowL.less {I' : LH} (h : GrowL I e k enc L v ls) (hl : Le I' I) : GrowL I' e k enc L v ls := let ⟨J, rs, h0, h1, h2, h3⟩ := h; ⟨J, rs, hl.trans h0, h1, h2, h3⟩
theorem GrowL.nil (h : Le I L) : GrowL I e k enc L (.slice none 0 0) ([] : List (List α)) := ⟨L, [], h, rfl, Grow.nil (Le.refl _), fun x hx => by cases hx⟩
theorem GrowL.slice (h : GrowL I e k enc L v ls) : ∃ ad cap, v = .slice ad ls.length cap := by
 obtain ⟨J, rs, _, rfl, h2, _⟩ := h
 obtain ⟨ad, cap, rfl, -⟩ := h2.slice
 exact ⟨ad, cap, by rw [List.length_map]⟩
theorem GrowL.at {ad : Option Addr} {len cap : Nat} (h : GrowL I e k enc L (.slice ad len cap) ls) : len = ls.length ∧ RowsAt L ad k enc ls := by
 obtain ⟨J, rs, _, rfl, h2, h3⟩ := h
 obtain ⟨rfl, h4⟩ := h2.at encRw_len
 exact ⟨(List.length_map ..).symm, rs, rfl, h4, fun x hx => (h3 x hx).le h2.1⟩
theorem RowsAt.le {ad : Option Addr} (h : RowsAt L ad k enc ls) (hl : Le L L') : RowsAt L' ad k enc ls := let ⟨rs, h1, h2, h3⟩ := h; ⟨rs, h1, h2.le hl, fun x hx => (h3 x hx).le hl⟩
theorem RowsAt.addr {ad : Option Addr} (h : RowsAt L ad k enc ls) {i : Nat} (hi : i < ls.length) : ∃ a, ad = some a := by
 obtain ⟨rs, rfl, h2, _⟩ := h
 exact h2.addr (by simpa using hi)
theorem RowsAt.row {ad : Addr} (h : RowsAt L (some ad) k enc ls) {i : Nat} {l : List α} (hl : ls[i]? = some l) : ∃ a c, L.cell? (ad.add i) = some (.slice a l.length c) ∧ SlAt L a k enc l := by
 obtain ⟨rs, rfl, h2, h3⟩ := h
 rw [List.getElem?_map] at hl
 obtain ⟨⟨⟨a, n, c⟩, l'⟩, hx, rfl⟩ := Option.map_eq_some_iff.1 hl
 have hk := h3 _ (List.mem_of_getElem? hx)
 have hn : n = l'.length := hk.len
 subst hn
 refine ⟨a, c, ?_, hk.sl⟩
 have := h2.get hx (j := 0) (v := slV (a, l'.length, c)) rfl
 simpa using this
theorem Grow.lit {β : Type} {encB : β → List Value} {l : List β} {b : Nat} (hk : ∀ x, (encB x).length = k) (h : Le I L) (hb : L b = some (.cells (l.flatMap encB).toArray e (0, 0), true)) (hn : I b = none) : Grow I k e encB L (.slice (some ⟨b, 0, none⟩) l.length l.length) l :=
 ⟨h, some b, ⟨l.length, (l.flatMap encB).toArray, rfl, hb, by simp [flat_len hk], Nat.le_refl _, flat_len hk l, fun i x hx => by simpa using hx⟩, fun b' hb' => by cases hb'; exact hn⟩
theorem GrowL.one {b : Nat} {a : Option Addr} {c : Nat} {l : List α} (hl : SlAt I a k enc l) (hI : Le I L) (hb : L b = some (.cells #[.slice a l.length c] e (0, 0), true)) (hn : I b = none) : GrowL I e k enc L (.slice (some ⟨b, 0, none⟩) 1 1) [l] :=
 ⟨I, [((a, l.length, c), l)], Le.refl _, rfl, Grow.lit (l := [((a, l.length, c), l)]) encRw_len hI hb hn, fun x hx => by rw [List.mem_singleton.1 hx]; exact ⟨hl, rfl⟩⟩
end
section
variable {X : Logic Tryz.prog}
theorem planV_snoc {s : St} {hs : List Int} {b : List Stand} {c : Cone} {a : Stand} {each : Bool} (h : PlanV s b) (hb : b.length < s.cones.length) (ha : a ∈ optS s hs true each c) : PlanV s (b ++ [a]) := by
 refine ⟨by simp; omega, fun x hx => ?_⟩
 rcases List.mem_append.1 hx with hx | hx
 ·exact h.2 x hx
 ·rw [List.mem_singleton.1 hx]
  rcases opt_dry ha with rfl | ⟨hg, _⟩
  ·exact .inl rfl
  ·obtain ⟨k, d, hk, hd, rfl⟩ := mem_grid.1 hg
   right
   unfold isStand inB
   simp
   omega
theorem rPlans_sp (s : St) (p : Pt) (ha : Option Addr) (hc : Nat) (hs : List Int) (each : Bool) (hok : Ok s) (hhk : HOk s hs) : ∀ (n : Nat) (ba : Option Addr) (bc : Nat) (b : List Stand) (L : LH), s.cones.length - b.length = n → AskAt L s p ha hs → SlAt L ba 2 encSt b → PlanV s b →
  Sp X 102 [stA s p, .slice ha hs.length hc, .bool each, .slice ba b.length bc] L (fun v L' => GrowL L 41 2 encSt L' v (plansG s hs each b)) := by
 intro n
 induction n using Nat.strongRecOn with
 | _ n ih => ?_
 intro ba bc b L hn h hb hv
 have hc3 := hok.c3
 have hv1 := hv.1
 refine Sp.enter (n := 60) Tryz.func102 rfl rfl rfl rfl fun C hX _ hL0 r => ?_
 refine W.go 99 rfl ?_
 refine W.eff rfl rfl rfl (Ef.call rfl (rFits_sp s p ha ba hc bc hs b L h hok hhk hb hv)) ?_
 rintro _ _ _ ⟨_, rfl, rfl, rfl, hl0⟩
 refine W.go 99 rfl ?_
 rename_i L0
 have h := h.le hl0
 have hb := hb.le hl0
 refine W.split rfl rfl rfl (fun e1 => W.go 99 rfl ?_) (fun e1 => W.go 99 rfl ?_)
 ·have hf : fitsS s hs b = false := by simpa using e1
  refine W.ret r rfl rfl ?_
  rw [plansG_no hf]
  exact GrowL.nil hl0
 have hf : fitsS s hs b = true := by simpa using e1
 refine W.split rfl rfl rfl (fun e2 => W.go 99 rfl ?_) (fun e2 => W.go 99 rfl ?_)
 ·have hbl : s.cones.length ≤ b.length := by simp at e2; omega
  refine W.pub 8 (.inr ⟨_, _, _, rfl⟩) rfl rfl ?_
  intro b1 hb1 _
  refine W.ret r rfl rfl ?_
  rw [plansG_end hf hbl]
  exact (GrowL.one hb (Le.put hb1 _) (put_same _ _ _) hb1).less hl0
 have hbl : b.length < s.cones.length := by simp at e2; omega
 obtain ⟨c, hcc⟩ : ∃ c, s.cones[b.length]? = some c := ⟨_, List.getElem?_eq_getElem hbl⟩
 have hopt : (if (!each) = true then [none1] else []) ++ standsS s hs c = optS s hs true each c := by unfold optS; cases each <;> rfl
 refine W.cutI (fun E B L1 => ∃ v : Value, Grow L0 2 30 encSt L1 v (if (!each) = true then [none1] else []) ∧ SubE E [(1, .v (.slice ha hs.length hc)), (2, .v (.bool each)), (3, .v (.slice ba b.length bc)), (4, .p 0 0), (9, .v v)] ∧ PreB B [some ⟨cellsS (.v (stA s p)), 25⟩]) ?_ ?_
 ·rintro E B L1 ⟨v, hg, hE, hB⟩
  refine W.weak hE hB ?_
  refine W.go 99 rfl ?_
  refine W.eff rfl rfl rfl (Ef.call rfl (rStands_sp s p ha hc hs c b.length L1 (h.le hg.1) hok hhk hcc)) ?_
  rintro _ _ _ ⟨_, rfl, rfl, hg2⟩
  refine W.go 99 rfl ?_
  rename_i L2
  have hol := opt_len (hs := hs) (so := true) (each := each) (c := c) hok
  rw [← hopt, List.length_append] at hol
  obtain ⟨ad, cap, rfl, -⟩ := hg2.slice
  refine W.eff rfl rfl rfl (Ef.grow rfl rfl rfl rfl rfl rfl rfl rfl rfl encSt_len encSt_sg (hg.le hg2.1) (ls := standsS s hs c) (.sl (hg2.at encSt_len).2 encSt_len rfl) (by omega)) ?_
  rintro _ _ _ ⟨v', rfl, rfl, hg3, -⟩
  refine W.go 99 rfl ?_
  rename_i L3
  have hg3 : Grow L0 2 30 encSt L3 v' ((if (!each) = true then [none1] else []) ++ standsS s hs c) := hg3
  rw [← List.length_append] at hol
  rw [hopt] at hg3 hol
  have ho1 : ∀ a ∈ optS s hs true each c, PlanV s (b ++ [a]) := fun a ha => planV_snoc hv hbl ha
  rw [plansG_step hf hcc] at r
  generalize optS s hs true each c = o at hg3 hol ho1 r
  clear hopt
  obtain ⟨la, lc, rfl, -⟩ := hg3.slice
  have ho3 := (hg3.at encSt_len).2
  refine W.loop (fun m E B L' => ∃ (i : Nat) (v : Value) (F : LH) (rs : List (Rw Stand)), m = o.length - i ∧ i ≤ o.length ∧ Le L3 F ∧ rs.map Prod.snd = (o.take i).flatMap (fun a => plansG s hs each (b ++ [a])) ∧ Grow F 1 41 encRw L' v rs ∧ (∀ x ∈ rs, RwOk F 2 encSt x) ∧
    E = [(1, .v (.slice ha hs.length hc)), (2, .v (.bool each)), (3, .v (.slice ba b.length bc)), (4, .p 0 0), (9, .v (.slice la o.length lc)), (10, .v v), (11, .v (.int .i64 i))] ∧ B = [some ⟨cellsS (.v (stA s p)), 25⟩])
   ⟨0, _, L3, [], rfl, by omega, Le.refl _, rfl, Grow.nil (Le.refl _), (fun x hx => by cases hx), rfl, rfl⟩ (by exact ⟨rfl, rfl, rfl, rfl, rfl, rfl, rfl, trivial⟩) (by exact ⟨rfl, trivial⟩) ?_
  rintro _ _ _ L4 ⟨i, v, F, rs, rfl, hi, hLF, hrs, hgr, hrk, rfl, rfl⟩ again
  have hF4 := hgr.1
  refine W.go 99 rfl ?_
  refine W.split rfl rfl rfl (fun e4 => W.go 99 rfl ?_) (fun e4 => W.go 99 rfl ?_)
  ·have hio : i < o.length := by simpa using e4
   obtain ⟨a, hai⟩ : ∃ a, o[i]? = some a := ⟨_, List.getElem?_eq_getElem hio⟩
   obtain ⟨la', rfl⟩ := ho3.addr hio
   have hrl : rs.length ≤ 13 * 2197 := by
    have h1 := congrArg List.length hrs
    rw [List.length_map] at h1
    have h2 := flatMap_le (f := fun a => plansG s hs each (b ++ [a])) (k := 2197) (o.take i) fun x _ => plansG_len hok
    rw [List.length_take] at h2
    have h3 : min i o.length * 2197 ≤ 13 * 2197 := Nat.mul_le_mul_right _ (by omega)
    omega
   have hLF0 : Le L0 F := hg3.1.trans hLF
   refine W.drawn (by kernel_rfl) F hF4 ?_
   refine DD.run' [0, 1, 2, 3, 4, 5, 7, 8] rfl ?_
   refine DD.vf 9 rfl rfl rfl rfl rfl (Vf.idx rfl rfl rfl rfl rfl rfl (hio)) ?_
   refine DD.vf 10 rfl rfl rfl rfl rfl (Vf.loadN rfl rfl rfl ((ho3.le hLF).whole hai rfl)) ?_
   refine DD.run' [11] rfl ?_
   refine DD.act 6 rfl rfl rfl rfl rfl (Ef.pub 48 (.inr ⟨_, _, _, rfl⟩) rfl rfl (fun b1 hb1 _ => Ef.grow rfl rfl rfl rfl rfl rfl rfl rfl rfl encSt_len encSt_sg (Grow.new (Le.put hb1 _) (put_same _ _ _) hb1) (ls := b) (.sl ((hb.le (hLF0.trans hF4)).le (Le.put hb1 _)) encSt_len rfl) (by simp; omega))) ((by rintro _ _ _ ⟨b1, hb1, _, _, rfl, rfl, hg, _⟩; exact ⟨hF4.trans hg.1, rfl, .inl rfl⟩)) ?_
   rintro _ _ _ ⟨b1, hb1, _, v1, rfl, rfl, hg1, -⟩
   rw [List.nil_append] at hg1
   refine DD.act 12 rfl rfl rfl rfl rfl (Ef.grow rfl rfl rfl rfl rfl rfl rfl rfl rfl encSt_len encSt_sg hg1 (ls := [a]) (.own rfl rfl rfl rfl) (by simp; omega)) ((by rintro _ _ _ ⟨_, rfl, rfl, hg, _⟩; exact ⟨hF4.trans hg.1, rfl, .inl rfl⟩)) ?_
   rintro _ _ _ ⟨v2, rfl, rfl, hg2, -⟩
   rename_i L5
   have hg2 : Grow L4 2 30 encSt L5 v2 (b ++ [a]) := hg2
   obtain ⟨xa, xc, rfl, -⟩ := hg2.slice
   obtain ⟨F5, hFF5, hF5L, hx5, hf5⟩ := hg2.foot encSt_len hF4
   have hrec := (ih (n - 1) (by omega) xa xc (b ++ [a]) F5 (by simp; omega) (h.le (hLF0.trans hFF5)) hx5 (ho1 a (List.mem_of_getElem? hai))).frame hF5L
   rw [← hX] at hrec
   refine DD.act 13 rfl rfl rfl rfl rfl (Ef.call rfl hrec) ((by rintro _ _ _ ⟨_, _, rfl, L1', hq, hp⟩; exact ⟨(hFF5.trans hq.hle).trans hp.le, rfl, .inl rfl⟩)) ?_
   rintro _ _ _ ⟨_, rfl, rfl, F6, ⟨J, rs2, hJ, hrs2, hgr2, hrk2⟩, hp⟩
   rename_i L6 _
   have hgr6 : Grow F6 1 41 encRw L6 v rs := (hgr.rebase hg2.1 hF5L hf5).call hp
   obtain ⟨ra, rc, rfl, -⟩ := hgr2.slice
   have hFF6 : Le F F6 := hFF5.trans (hJ.trans hgr2.1)
   have hrl2 : rs2.length ≤ 2197 := by
    have h1 := congrArg List.length hrs2
    rw [List.length_map] at h1
    have h2 := plansG_len (hs := hs) hok (each := each) (b := b ++ [a])
    omega
   refine DD.act 14 rfl rfl rfl rfl rfl (Ef.grow rfl rfl rfl rfl rfl rfl rfl rfl rfl encRw_len encRw_sg hgr6 (ls := rs2) (.sl ((hgr2.at encRw_len).2.le hp.le) encRw_len rfl) (by omega)) ((by rintro _ _ _ ⟨_, rfl, rfl, hg, _⟩; exact ⟨hFF6.trans hg.1, rfl, .inl rfl⟩)) ?_
   rintro _ _ _ ⟨v3, rfl, rfl, hgr7, -⟩
   refine DD.run' [15] rfl ?_
   refine .fin rfl ?_
   refine W.go 99 rfl ?_
   refine W.again (again _ _ _ _ (by omega) ⟨i + 1, v3, F6, rs ++ rs2, rfl, by omega, hLF.trans hFF6, ?_, hgr7, ?_, rfl, rfl⟩) ⟨rfl, rfl, rfl, rfl, rfl, rfl, congrArg some (inc64 (by omega)), trivial⟩ ⟨rfl, trivial⟩
   ·obtain ⟨_, rfl⟩ := List.getElem?_eq_some_iff.1 hai
    rw [List.map_append, hrs, hrs2, List.take_succ_eq_append_getElem hio, List.flatMap_append, List.flatMap_singleton]
   ·intro x hx
    rcases List.mem_append.1 hx with hx | hx
    ·exact (hrk x hx).le hFF6
    ·exact (hrk2 x hx).le hgr2.1
  ·have hie : i = o.length := by simp at e4; omega
   rw [hie, List.take_length] at hrs
   refine W.ret r rfl rfl ?_
   exact ⟨F, rs, hl0.trans (hg3.1.trans hLF), hrs, hgr, hrk⟩
 ·intro rest
  refine W.split rfl rfl rfl (fun e3 => ?_) (fun e3 => ?_)
  ·refine W.go 99 rfl ?_
   refine W.eff rfl rfl rfl (Ef.grow rfl rfl rfl rfl rfl rfl rfl rfl rfl encSt_len encSt_sg (Grow.nil (Le.refl L0)) (ls := [none1]) (.own rfl rfl rfl rfl) (by simp)) ?_
   rintro _ _ _ ⟨v', rfl, rfl, hg', -⟩
   refine W.go 2 rfl ?_
   exact rest _ _ _ ⟨v', by rw [if_pos (by simpa using e3)]; exact hg', ⟨rfl, rfl, rfl, rfl, rfl, trivial⟩, ⟨rfl, trivial⟩⟩
  ·refine W.go 2 rfl ?_
   exact rest _ _ _ ⟨_, by rw [if_neg (by simpa using e3)]; exact Grow.nil (Le.refl _), ⟨rfl, rfl, rfl, rfl, rfl, trivial⟩, ⟨rfl, trivial⟩⟩
end
end Go.Mz


set_option maxRecDepth 100000
namespace Go.Mz
open Go.Conc Go.Proofs
variable {X : Logic Tryz.prog}
def Got {α : Type} (L : LH) (k : Nat) (enc : α → List Value) (l : List α) (v : Value) (L' : LH) : Prop := ∃ ad cap, v = .slice ad l.length cap ∧ Le L L' ∧ SlAt L' ad k enc l
theorem Got.nil {α : Type} {L L' : LH} {k : Nat} {enc : α → List Value} (h : Le L L') : Got L k enc ([] : List α) (.slice none 0 0) L' := ⟨none, 0, rfl, h, SlAt.empty⟩
theorem planV_nil {s : St} : PlanV s [] := ⟨by simp, fun a ha => by cases ha⟩
theorem open_ask0 (s : St) (hs : List Int) : openE s hs [] [] = askE s hs := by
 rw [open_ask]
 split
 ·rfl
 ·rename_i h; simp at h; simp [h]
theorem rMost_sp (s : St) (p : Pt) (ha : Option Addr) (hc : Nat) (hs : List Int) (L : LH) (h : AskAt L s p ha hs) :
  Sp X 44 [stA s p, .slice ha hs.length hc] L (fun v L' => ∃ u, v = .tuple #[u, .int .i64 (MostE s hs).2.1, .int .i64 (MostE s hs).2.2] ∧ Got L 2 encSt (MostE s hs).1 u L') := by
 unfold MostE
 rw [open_ask0]
 refine Sp.enter (n := 47) Tryz.func44 rfl rfl rfl rfl fun C hX _ hL0 r => ?_
 refine W.go 99 rfl ?_
 refine W.eff rfl rfl rfl (Ef.call rfl (asked_sp s p ha hc hs L h)) ?_
 rintro _ _ _ ⟨_, rfl, rfl, rfl, rfl⟩
 refine W.go 99 rfl ?_
 refine W.split rfl rfl rfl (fun e1 => W.go 99 rfl ?_) (fun e1 => W.go 99 rfl ?_)
 ·refine W.ret r rfl rfl ?_
  have h1 : askE s hs ≠ 0 := by simpa using e1
  rw [if_pos h1]
  exact ⟨_, rfl, Got.nil (Le.refl _)⟩
 have h1 : askE s hs = 0 := by simpa using e1
 rw [if_neg (by rw [h1]; simp)] at r
 obtain ⟨hok, hhk⟩ := ask_ok h1
 have hc3 := hok.c3
 refine W.eff rfl rfl rfl (Ef.call rfl (rPlans_sp s p ha hc hs false hok hhk _ none 0 [] L rfl h SlAt.empty planV_nil)) ?_
 rintro _ _ _ ⟨_, rfl, rfl, hg⟩
 refine W.go 99 rfl ?_
 rename_i L1 _
 rw [plansG_nil hok] at hg
 have hlen : ∀ x ∈ plansS s hs allC false, x.length ≤ 3 := fun x hx => by have := plan_len hx; omega
 have hll := plans_lenX (hs := hs) hok (each := false)
 have hne := plans_ne hok hs allC
 have hmost : ∀ y, firstMin negC (plansS s hs allC false) = some y → mostS s hs = y := fun y hy => by
  unfold mostS
  change (firstMin negC _).getD [] = _
  rw [hy]; rfl
 generalize plansS s hs allC false = l at hg hlen hll hne hmost
 obtain ⟨ad, cap, rfl⟩ := hg.slice
 have hrows := hg.at.2
 have hl0 : 0 < l.length := List.length_pos_iff.2 hne
 obtain ⟨a, rfl⟩ := hrows.addr hl0
 refine W.loop (fun m E B L' => ∃ (i b : Nat), m = l.length - i ∧ i ≤ l.length ∧ b < l.length ∧ (∀ y, l[b]? = some y → (i = 0 ∧ b = 0) ∨ firstMin negC (l.take i) = some y) ∧ L1 = L' ∧
   E = [(8, .v (.slice (some a) l.length cap)), (9, .v (.int .i64 b)), (10, .v (.int .i64 i))] ∧ B = [])
  ⟨0, 0, rfl, by omega, hl0, fun y hy => .inl ⟨rfl, rfl⟩, rfl, rfl, rfl⟩ (by exact ⟨rfl, rfl, rfl, trivial⟩) trivial ?_
 rintro _ _ _ _ ⟨i, b, rfl, hi, hb, hinv, rfl, rfl, rfl⟩ again
 obtain ⟨y, hy⟩ : ∃ y, l[b]? = some y := ⟨_, List.getElem?_eq_getElem hb⟩
 obtain ⟨ya, yc, hyc, hys⟩ := hrows.row hy
 have hyl := hlen y (List.mem_of_getElem? hy)
 have hyn := cnt_le y
 refine W.go 99 rfl ?_
 refine W.split rfl rfl rfl (fun e2 => W.go 99 rfl ?_) (fun e2 => W.go 99 rfl ?_)
 ·have hil : i < l.length := by simpa using e2
  obtain ⟨x, hx⟩ : ∃ x, l[i]? = some x := ⟨_, List.getElem?_eq_getElem hil⟩
  obtain ⟨xa, xc, hxc, hxs⟩ := hrows.row hx
  have hxl := hlen x (List.mem_of_getElem? hx)
  have hnext := best_next (f := negC) hx hy (hinv y hy)
  refine W.drawn (by kernel_rfl) _ (Le.refl _) ?_
  refine DD.run' [0, 1, 5, 6] rfl ?_
  refine DD.vf 2 rfl rfl rfl rfl rfl (Vf.idx1 rfl rfl rfl rfl rfl rfl rfl (hil)) ?_
  refine DD.vf 3 rfl rfl rfl rfl rfl (Vf.load rfl rfl rfl (hxc)) ?_
  refine DD.vf 7 rfl rfl rfl rfl rfl (Vf.idx1 rfl rfl rfl rfl rfl rfl rfl (hb)) ?_
  refine DD.vf 8 rfl rfl rfl rfl rfl (Vf.load rfl rfl rfl (hyc)) ?_
  refine DD.act 4 rfl rfl rfl rfl rfl (Ef.call rfl (rCount_sp xa xc x L1 hxs (by omega))) (by rintro _ _ _ ⟨_, rfl, rfl, rfl, rfl⟩; exact ⟨Le.refl _, rfl, .inl rfl⟩) ?_
  rintro _ _ _ ⟨_, rfl, rfl, rfl, rfl⟩
  refine DD.act 9 rfl rfl rfl rfl rfl (Ef.call rfl (rCount_sp ya yc y L1 hys (by omega))) (by rintro _ _ _ ⟨_, rfl, rfl, rfl, rfl⟩; exact ⟨Le.refl _, rfl, .inl rfl⟩) ?_
  rintro _ _ _ ⟨_, rfl, rfl, rfl, rfl⟩
  refine DD.run' [10] rfl ?_
  refine .fin rfl ?_
  refine W.go 99 rfl ?_
  refine W.split rfl rfl rfl (fun e3 => W.go 99 rfl ?_) (fun e3 => W.go 99 rfl ?_)
  ·have hlt : negC x < negC y := by unfold negC; simp at e3; omega
   rw [if_pos hlt] at hnext
   exact W.again (again _ _ _ _ (by omega) ⟨i + 1, i, rfl, by omega, hil, fun z hz => .inr (by rw [hx] at hz; cases hz; exact hnext), rfl, rfl, rfl⟩) ⟨rfl, rfl, congrArg some (inc64 (by omega)), trivial⟩ trivial
  ·have hlt : ¬ negC x < negC y := by unfold negC; simp at e3; omega
   rw [if_neg hlt] at hnext
   exact W.again (again _ _ _ _ (by omega) ⟨i + 1, b, rfl, by omega, hb, fun z hz => .inr (by rw [hy] at hz; cases hz; exact hnext), rfl, rfl, rfl⟩) ⟨rfl, rfl, congrArg some (inc64 (by omega)), trivial⟩ trivial
 ·have hie : i = l.length := by simp at e2; omega
  have hfin : firstMin negC l = some y := by
   rcases hinv y hy with ⟨h0, _⟩ | h0
   ·omega
   ·rw [hie, List.take_length] at h0; exact h0
  refine W.drawn (by kernel_rfl) _ (Le.refl _) ?_
  refine DD.run' [0, 1, 4, 5] rfl ?_
  refine DD.vf 2 rfl rfl rfl rfl rfl (Vf.idx1 rfl rfl rfl rfl rfl rfl rfl (hb)) ?_
  refine DD.vf 3 rfl rfl rfl rfl rfl (Vf.load rfl rfl rfl (hyc)) ?_
  refine DD.vf 6 rfl rfl rfl rfl rfl (Vf.idx1 rfl rfl rfl rfl rfl rfl rfl (hb)) ?_
  refine DD.vf 7 rfl rfl rfl rfl rfl (Vf.load rfl rfl rfl (hyc)) ?_
  refine DD.act 8 rfl rfl rfl rfl rfl (Ef.call rfl (rCount_sp ya yc y L1 hys (by omega))) (by rintro _ _ _ ⟨_, rfl, rfl, rfl, rfl⟩; exact ⟨Le.refl _, rfl, .inl rfl⟩) ?_
  rintro _ _ _ ⟨_, rfl, rfl, rfl, rfl⟩
  refine DD.run' [9, 10, 11] rfl ?_
  refine .fin rfl ?_
  refine W.go 99 rfl ?_
  refine W.ret r rfl rfl ?_
  rw [hmost y hfin]
  exact ⟨_, rfl, ya, yc, rfl, hg.hle, hys⟩
end Go.Mz


set_option maxRecDepth 100000
namespace Go.Mz
open Go.Conc Go.Proofs
theorem plan3 {s : St} {hs : List Int} {so : Nat → Bool} {each : Bool} {x : List Stand} (h : askE s hs = 0) (hx : x ∈ plansS s hs so each) : x.length ≤ 3 := by
 have := plan_len hx
 have := (ask_ok h).1.c3
 omega
theorem mostE_len (s : St) (hs : List Int) : (MostE s hs).1.length ≤ 3 := by
 unfold MostE
 rw [open_ask0]
 split
 ·simp
 ·rename_i h; exact plan3 (by simpa using h) (most_mem (ask_ok (by simpa using h)).1 hs)
variable {Post : Value → World → Prop} {W0 : World}
end Go.Mz


namespace Go.Mz
open Go
def onlyS (s : St) (l : List Nat) : St := { s with cones := l.filterMap fun i => s.cones[i]? }
section
variable {s : St} {hs : List Int}
end
end Go.Mz


set_option maxRecDepth 100000
namespace Go.Mz
open Go
section
variable {s : St} {hs : List Int}
end
end Go.Mz


set_option maxRecDepth 100000
namespace Go.Mz
open Go
def strL (n : Nat) : Nat → List (List Int)
 | 0 => [[]]
 | k + 1 => (strL n k).flatMap fun x => (List.range n).map fun (y : Nat) => x ++ [(y : Int)]
section
variable {s : St}
def okHB (s : St) (l : List Int) : Bool := heatsE s l == 0 && canS s l
end
end Go.Mz


set_option maxRecDepth 100000
namespace Go.Mz
open Go.Conc Go.Proofs
variable {X : Logic Tryz.prog}
theorem EqLists_sp (pa pb : Option Addr) (ca cb : Nat) (a b : List (List Int)) (L : LH) (ha : RowsAt L pa 1 encI a) (hb : RowsAt L pb 1 encI b) (na : a.length ≤ 1000000) (nb : b.length ≤ 1000000) (la : ∀ x ∈ a, x.length ≤ 1000000) (lb : ∀ x ∈ b, x.length ≤ 1000000) :
  Sp X 68 [.slice pa a.length ca, .slice pb b.length cb] L (fun v L' => v = .bool (decide (a = b)) ∧ L = L') := by
 refine Sp.enter (n := 33) Tryz.func68 rfl rfl rfl rfl fun C hX _ hL0 r => ?_
 refine W.go 99 rfl ?_
 refine W.loop (fun w E B L' => ∃ (i : Nat), w = a.length - i ∧ i ≤ a.length ∧ i ≤ b.length ∧ a.take i = b.take i ∧ L = L' ∧
   E = [(0, .v (.slice pa a.length ca)), (1, .v (.slice pb b.length cb)), (5, .v (.int .i64 i))] ∧ B = [])
  ⟨0, rfl, by omega, by omega, rfl, rfl, rfl, rfl⟩ (by exact ⟨rfl, rfl, rfl, trivial⟩) trivial ?_
 rintro _ _ _ _ ⟨i, rfl, hi, hib, hpre, rfl, rfl, rfl⟩ again
 refine W.go 99 rfl ?_
 refine W.split rfl rfl rfl (fun e1 => W.go 99 rfl ?_) (fun e1 => W.go 99 rfl ?_)
 ·have hia : i < a.length := by simpa using e1
  refine W.split rfl rfl rfl (fun e2 => W.go 99 rfl ?_) (fun e2 => W.go 99 rfl ?_)
  ·have hibl : i < b.length := by simpa using e2
   obtain ⟨x, hx⟩ : ∃ x, a[i]? = some x := ⟨_, List.getElem?_eq_getElem hia⟩
   obtain ⟨y, hy⟩ : ∃ y, b[i]? = some y := ⟨_, List.getElem?_eq_getElem hibl⟩
   obtain ⟨pa', rfl⟩ := ha.addr hia
   obtain ⟨pb', rfl⟩ := hb.addr hibl
   obtain ⟨xa, xc, hxc, hxs⟩ := ha.row hx
   obtain ⟨ya, yc, hyc, hys⟩ := hb.row hy
   refine W.drawn (by kernel_rfl) _ (Le.refl _) ?_
   refine DD.run' [0, 1, 4, 5] rfl ?_
   refine DD.vf 2 rfl rfl rfl rfl rfl (Vf.idx1 rfl rfl rfl rfl rfl rfl rfl (hia)) ?_
   refine DD.vf 3 rfl rfl rfl rfl rfl (Vf.load rfl rfl rfl (hxc)) ?_
   refine DD.vf 6 rfl rfl rfl rfl rfl (Vf.idx1 rfl rfl rfl rfl rfl rfl rfl (hibl)) ?_
   refine DD.vf 7 rfl rfl rfl rfl rfl (Vf.load rfl rfl rfl (hyc)) ?_
   refine DD.act 8 rfl rfl rfl rfl rfl (Ef.call rfl (EqInts_sp xa ya xc yc x y L hxs hys (la x (List.mem_of_getElem? hx)) (lb y (List.mem_of_getElem? hy)))) (by rintro _ _ _ ⟨_, rfl, rfl, rfl, rfl⟩; exact ⟨Le.refl _, rfl, .inl rfl⟩) ?_
   rintro _ _ _ ⟨_, rfl, rfl, rfl, rfl⟩
   refine DD.run' [9] rfl ?_
   refine .fin rfl ?_
   refine W.go 99 rfl ?_
   refine W.split rfl rfl rfl (fun e3 => W.go 99 rfl ?_) (fun e3 => W.go 99 rfl ?_)
   ·have hne : x ≠ y := by simpa using e3
    exact W.ret r rfl rfl ⟨by rw [decide_eq_false (fun h => hne (by rw [h, hy] at hx; exact (Option.some.inj hx).symm))]; rfl, rfl⟩
   ·have heq : x = y := by simpa using e3
    subst heq
    refine W.again (again _ _ _ _ (by omega) ⟨i + 1, rfl, by omega, by omega, ?_, rfl, rfl, rfl⟩) ⟨rfl, rfl, congrArg some (inc64 (by omega)), trivial⟩ trivial
    obtain ⟨_, h1⟩ := List.getElem?_eq_some_iff.1 hx
    obtain ⟨_, h2⟩ := List.getElem?_eq_some_iff.1 hy
    rw [List.take_succ_eq_append_getElem hia, List.take_succ_eq_append_getElem hibl, hpre, h1, h2]
  ·have hibl : i = b.length := by simp at e2; omega
   refine W.ret r rfl rfl ?_
   refine ⟨?_, rfl⟩
   rw [decide_eq_false (fun h => by rw [h] at hia; omega)]
   simp [retV]
   omega
 ·have hia : i = a.length := by simp at e1; omega
  refine W.ret r rfl rfl ?_
  refine ⟨?_, rfl⟩
  by_cases hl : a.length = b.length
  ·have h : a = b := by rw [hia, List.take_length, hl, List.take_length] at hpre; exact hpre
   rw [decide_eq_true h]
   simp [retV, hl]
  ·rw [decide_eq_false (fun h => hl (by rw [h]))]
   simp [retV]
   omega
end Go.Mz


set_option maxRecDepth 100000
namespace Go.Mz
open Go.Conc Go.Proofs
variable {X : Logic Tryz.prog}
def q0 : Nat → Nat → Nat → Bool := fun _ _ _ => false
theorem putRow_all {c : Array Value} {vs : List Value} (h : c.size = vs.length) : putRow c 0 vs = vs.toArray := by
 apply Array.toList_inj.1
 apply List.ext_getElem?
 intro j
 rw [Array.getElem?_toList, putRow_get, if_neg (Nat.not_lt_zero _)]
 show _ = vs[j]?
 split
 ·rename_i h1
  exact (List.getElem?_eq_getElem (show j < vs.length by have := h1.1; omega)).symm
 ·rename_i h1
  rw [Array.getElem?_eq_none (by omega), List.getElem?_eq_none (by omega)]
theorem caught_sp (bq be : Nat) (q : Nat → Nat → Nat → Bool) (e e0 : Int) (hne : be ≠ bq) (L : LH) (hq : L bq = some (.cells (encQ q).toArray 148 (0, 0), true)) (he : L be = some (.cells #[.int .i64 e0] 44 (0, 0), true)) :
  SpD X 141 [.pointer (some ⟨bq, 0, none⟩), .pointer (some ⟨be, 0, none⟩)] (.panicking [pe1 (badV e)]) L (fun md L' => md = .returning ∧ L' = (L.put bq (.cells (encQ q0).toArray 148)).put be (.cells #[.int .i64 e] 44)) := by
 refine SpD.enter (n := 13) Tryz.func141 rfl rfl rfl rfl fun C hX _ hL0 r => ?_
 refine W.go 99 rfl ?_
 refine W.recoverP (sv := .v (badV e)) r rfl rfl rfl rfl fun C' hX' _ _ _ r => ?_
 refine W.go 99 rfl ?_
 refine W.split rfl rfl rfl (fun _ => W.go 99 rfl ?_) (fun h => absurd h (by simp))
 refine W.drawn (by kernel_rfl) noL (noL_le _) ?_
 refine DD.run' [0, 1, 2] rfl ?_
 refine DD.act 3 rfl rfl rfl rfl rfl (Ef.stoF rfl ⟨_, rfl, rfl⟩ rfl hq rfl (by rw [List.size_toArray, encQ_len]; exact Nat.le_refl _) (singles rfl)) (by rintro _ _ _ ⟨rfl, rfl, rfl⟩; exact ⟨noL_le _, rfl, .inl rfl⟩) ?_
 rintro _ _ _ ⟨rfl, rfl, rfl⟩
 refine DD.act 4 rfl rfl rfl rfl rfl (Ef.stoF rfl ⟨_, rfl, rfl⟩ rfl ((put_ne _ _ hne).trans he) rfl (Nat.le_refl _) (singles rfl)) (by rintro _ _ _ ⟨rfl, rfl, rfl⟩; exact ⟨noL_le _, rfl, .inl rfl⟩) ?_
 rintro _ _ _ ⟨rfl, rfl, rfl⟩
 refine .fin rfl ?_
 refine W.go 99 rfl ?_
 refine W.retD r rfl (.inl rfl) ⟨rfl, ?_⟩
 rw [putRow_all (c := (encQ q).toArray) (by rw [List.size_toArray, encQ_len]; rfl)]
 rfl
theorem calm_sp (bq be : Nat) (L : LH) :
  SpD X 141 [.pointer (some ⟨bq, 0, none⟩), .pointer (some ⟨be, 0, none⟩)] .returning L (fun md L' => md = .returning ∧ L' = L) := by
 refine SpD.enter (n := 13) Tryz.func141 rfl rfl rfl rfl fun C hX _ hL0 r => ?_
 refine W.go 99 rfl ?_
 refine W.recoverN r rfl rfl rfl ?_
 refine W.go 99 rfl ?_
 refine W.split rfl rfl rfl (fun h => absurd h (by simp)) (fun _ => W.go 99 rfl ?_)
 exact W.retD r rfl (.inl rfl) ⟨rfl, rfl⟩
theorem qOf_put {s : St} {hs : List Int} (hhk : HOk s hs) {l : List Stand} {c : Cone} {a : Stand} (hc : s.cones[l.length]? = some c) (h0 : putE s hs c a = 0) :
  (if a.shelf = -1 then qOf s hs l else qUp (qOf s hs l) a.shelf.toNat l.length a.day.toNat ((fateS s hs c a).2 + 1).toNat) = qOf s hs (l ++ [a]) := by
 by_cases e : a.shelf = -1
 ·rw [if_pos e]
  have : a.day = 0 := by
   unfold putE at h0
   rw [if_pos e] at h0
   split at h0
   ·assumption
   ·cases h0
  obtain ⟨a1, a2⟩ := a
  subst e; subst this
  exact (qOf_none s hs l).symm
 ·rw [if_neg e]
  have hst : isStand s a = true := by
   unfold putE at h0
   rw [if_neg e] at h0
   split at h0
   ·cases h0
   ·rename_i h; simpa using h
  obtain ⟨k, d0, rfl, hk, hd⟩ := stand_nat hhk hst
  have hfd := fate_day (s := s) (c := c) (k := k) (d := d0) (hs := hs) (by have := hhk.len; omega)
  simp only [Int.toNat_natCast]
  exact qOf_add s hs l hc (by omega)
theorem placed_sp (b : Nat) (s : St) (p : Pt) (ha la : Option Addr) (hc lc : Nat) (hs : List Int) (t0 t1 t2 mv : Value) (l : List Stand) (L : LH) (h : SvAt L b s p ha hc hs t0 t1 t2 mv) (hg : GlOk L) (hl : SlAt L la 2 encSt l) (hn : l.length ≤ 140737488355328) :
  Sp X 116 [.pointer (some ⟨b, 0, none⟩), .slice la l.length lc] L (fun v L' => v = .tuple #[.agg (encQ (if planE s hs l = 0 then qOf s hs l else q0)).toArray, .int .i64 (planE s hs l)] ∧ Le L L') := by
 have hc3 := h.ok.c3
 refine Sp.enter (n := 46) Tryz.func116 rfl rfl rfl rfl fun C hX _ hL0 r => ?_
 refine W.go 99 rfl ?_
 refine W.drawn (by kernel_rfl) _ (Le.refl _) ?_
 refine DD.run' [0, 1, 2, 3, 4, 5] rfl ?_
 refine DD.vf 6 rfl rfl rfl rfl rfl (Vf.load rfl rfl rfl (h.cell 1 rfl)) ?_
 refine DD.run' [7, 8, 9, 10, 11] rfl ?_
 refine DD.vf 12 rfl rfl rfl rfl rfl (Vf.load rfl rfl rfl (h.cell 1 rfl)) ?_
 refine DD.run' [13] rfl ?_
 refine DD.act 14 rfl rfl rfl rfl rfl (Ef.call rfl (sized_sp _ _ _ _)) (by rintro _ _ _ ⟨_, rfl, rfl, rfl, rfl⟩; exact ⟨Le.refl _, rfl, .inl rfl⟩) ?_
 rintro _ _ _ ⟨_, rfl, rfl, rfl, rfl⟩
 refine DD.run' [15] rfl ?_
 refine .fin rfl ?_
 refine W.go 99 rfl ?_
 refine W.split rfl rfl rfl (fun e1 => W.go 99 rfl ?_) (fun e1 => W.go 99 rfl ?_)
 ·refine W.ret r rfl rfl ?_
  have e2 : sizedE l.length s.cones.length s.cones.length ≠ 0 := by simpa using e1
  have e3 : planE s hs l = sizedE l.length s.cones.length s.cones.length := by unfold planE; rw [if_pos e2]
  rw [e3, if_neg e2]
  exact ⟨rfl, Le.refl _⟩
 have e2 : sizedE l.length s.cones.length s.cones.length = 0 := by simpa using e1
 have hln : l.length = s.cones.length := by rw [sizedE_0] at e2; omega
 have hpE : planE s hs l = if putsE s hs s.cones l ≠ 0 then putsE s hs s.cones l else if fitsS s hs l then 0 else 6 := by
  unfold planE
  rw [e2]; simp
 refine W.pub 4 (.inl ⟨_, rfl⟩) rfl rfl ?_
 intro bq hbq _
 refine W.pub 5 (.inl ⟨_, rfl⟩) rfl rfl ?_
 intro be hbe _
 have hbe' : be ≠ bq := fun e => by subst e; rw [put_same] at hbe; cases hbe
 have hbeL : L be = none := by rw [put_ne _ _ hbe'] at hbe; exact hbe
 refine W.go 99 rfl ?_
 refine W.deferV r.ro rfl rfl rfl rfl ?_
 change W C _ _ _ _ _ ((L.put bq (.cells (encQ q0).toArray 148)).put be (.cells #[.int .i64 0] 44))
 have hle1 : Le L ((L.put bq (.cells (encQ q0).toArray 148)).put be (.cells #[.int .i64 0] 44)) := le_put_none (Le.put hbq _) hbeL _
 have hq1 : ((L.put bq (.cells (encQ q0).toArray 148)).put be (.cells #[.int .i64 0] 44)) bq = some (.cells (encQ q0).toArray 148 (0, 0), true) := (put_ne _ _ hbe'.symm).trans (put_same _ _ _)
 have he1 : ((L.put bq (.cells (encQ q0).toArray 148)).put be (.cells #[.int .i64 0] 44)) be = some (.cells #[.int .i64 0] 44 (0, 0), true) := put_same _ _ _
 generalize (L.put bq (.cells (encQ q0).toArray 148)).put be (.cells #[.int .i64 0] 44) = L1 at hle1 hq1 he1 ⊢
 have bad : ∀ {E : Env} {B : List (Option Bx)} {L2 : LH} {q : Nat → Nat → Nat → Bool} (e : Int), get E 4 = some (.v (pt bq)) → get E 5 = some (.v (pt be)) → planE s hs l = e → e ≠ 0 → Le L L2 → L2 bq = some (.cells (encQ q).toArray 148 (0, 0), true) → L2 be = some (.cells #[.int .i64 0] 44 (0, 0), true) →
   WM C 46 [⟨.fn (.func 141) #[pt bq, pt be], #[]⟩] (.panicking [pe1 (badV e)]) E B L2 := by
  intro E B L2 q e h4 h5 hp h0 hl2 hq he
  refine WM.deferred rfl rfl (caught_sp bq be q e 0 hbe' L2 hq he) ?_
  rintro _ _ ⟨rfl, rfl⟩
  refine WM.ret2 r rfl h4 h5 (loadNF rfl rfl (cellsAt_n ((put_ne _ _ hbe'.symm).trans (put_same _ _ _)) (encQ_len _))) (load1F rfl (cell_of (put_same _ _ _) rfl)) ⟨?_, le_put_none (le_put_none hl2 hbq _) hbeL _⟩
  rw [hp, if_neg h0]; rfl
 refine W.go 99 rfl ?_
 refine W.loop (fun m E B L' => ∃ i : Nat, m = l.length - i ∧ i ≤ l.length ∧ Le L L' ∧ L' bq = some (.cells (encQ (qOf s hs (l.take i))).toArray 148 (0, 0), true) ∧ L' be = some (.cells #[.int .i64 0] 44 (0, 0), true) ∧ putsE s hs (s.cones.drop i) (l.drop i) = putsE s hs s.cones l ∧
   E = [(0, .v (pt b)), (4, .v (pt bq)), (5, .v (pt be)), (29, .v (.slice la l.length lc)), (30, .v (.int .i64 l.length)), (31, .v (.int .i64 i))] ∧ B = [])
  ⟨0, rfl, by omega, hle1, by rw [List.take_zero, qOf_nil]; exact hq1, he1, by simp, rfl, rfl⟩ (by exact ⟨rfl, rfl, rfl, rfl, rfl, rfl, trivial⟩) (by exact trivial) ?_
 rintro _ _ _ L2 ⟨i, rfl, h1, hle2, hq2, he2, hpp, rfl, rfl⟩ again
 refine W.go 99 rfl ?_
 refine W.split rfl rfl rfl (fun d1 => W.go 99 rfl ?_) (fun d1 => W.go 99 rfl ?_)
 ·have hi : i < l.length := by simpa using d1
  have hic : i < s.cones.length := by omega
  have hge := List.getElem?_eq_getElem hi
  have hcc : s.cones[(l.take i).length]? = some s.cones[i] := by rw [List.length_take, Nat.min_eq_left (by omega)]; exact List.getElem?_eq_getElem hic
  obtain ⟨lad, rfl⟩ := hl.addr hi
  rw [List.drop_eq_getElem_cons hi, List.drop_eq_getElem_cons hic, putsE] at hpp
  refine W.vf rfl rfl rfl rfl (Vf.idx rfl rfl rfl rfl rfl rfl (hi)) ?_
  refine W.go 99 rfl ?_
  refine W.vf rfl rfl rfl rfl (Vf.loadN rfl rfl rfl ((hl.le hle2).whole hge rfl)) ?_
  refine W.go 99 rfl ?_
  have hput := put_sp (X := C.X) b bq s p ha hc hs t0 t1 t2 mv s.cones[i] i l[i] (qOf s hs (l.take i)) (List.getElem?_eq_getElem hic) L2 (h.le hle2) (hg.le hle2) hq2
  refine W.callP rfl rfl rfl rfl (hput) ?_ ?_
  ·rintro _ L3 ⟨hp0, rfl, hq3, hk3⟩
   have hle3 : Le L L3 := fun b' x hx => hk3 b' x (fun e => by subst e; rw [hbq] at hx; cases hx) (hle2 _ _ hx)
   have hq4 := qOf_put h.hok hcc hp0
   rw [List.length_take, Nat.min_eq_left (by omega)] at hq4
   rw [hq4, show l.take i ++ [l[i]] = l.take (i + 1) by rw [List.take_add_one, hge]; rfl] at hq3
   refine W.go 99 rfl ?_
   exact W.again (again _ _ _ _ (by omega) ⟨i + 1, rfl, by omega, hle3, hq3, hk3 _ _ hbe' he2, by rw [← hpp, if_neg (by rw [hp0]; simp)], rfl, rfl⟩) (by exact ⟨rfl, rfl, rfl, rfl, rfl, congrArg some (inc64 (by omega)), trivial⟩) (by exact trivial)
  ·rintro ch L3 ⟨hp0, rfl, hle3⟩
   have hpu : putsE s hs s.cones l = putE s hs s.cones[i] l[i] := by rw [← hpp, if_pos hp0]
   exact bad _ rfl rfl (by rw [hpE, hpu, if_pos hp0]) hp0 (hle2.trans hle3) (hle3 _ _ hq2) (hle3 _ _ he2)
 ·have hie : i = l.length := by simp at d1; omega
  subst hie
  rw [List.take_length] at hq2
  have hp0 : putsE s hs s.cones l = 0 := by rw [← hpp, List.drop_length, hln, List.drop_length]; rfl
  rw [hp0] at hpE
  have hpE : planE s hs l = if fitsS s hs l then 0 else 6 := by simpa using hpE
  refine W.vf rfl rfl rfl rfl (Vf.loadN rfl rfl rfl (cellsAt_n hq2 (encQ_len _))) ?_
  refine W.go 99 rfl ?_
  have hr := room_sp (X := C.X) b s p ha hc hs t0 t1 t2 mv (qOf s hs l) L2 (h.le hle2)
  rw [roomB_fits hc3] at hr
  refine W.eff rfl rfl rfl (Ef.call rfl (hr)) ?_
  rintro _ _ _ ⟨_, rfl, rfl, rfl, hle3⟩
  rename_i L3
  cases hf : fitsS s hs l with
  | false =>
   rw [if_neg (by rw [hf]; simp)] at hpE
   refine W.go 99 rfl ?_
   refine W.callP rfl rfl rfl rfl (must_no _ _) ?_ ?_
   ·exact fun _ _ h => h.elim
   ·rintro _ _ ⟨rfl, rfl⟩
    exact bad 6 rfl rfl hpE (by decide) (hle2.trans hle3) (hle3 _ _ hq2) (hle3 _ _ he2)
  | true =>
   rw [if_pos hf] at hpE
   refine W.go 99 rfl ?_
   refine W.eff rfl rfl rfl (Ef.call rfl (must_ok _ _)) ?_
   rintro _ _ _ ⟨_, rfl, rfl, rfl, rfl⟩
   refine W.go 99 rfl ?_
   refine W.vf rfl rfl rfl rfl (Vf.loadN rfl rfl rfl (cellsAt_n (hle3 _ _ hq2) (encQ_len _))) ?_
   refine W.go 99 rfl ?_
   refine W.eff0 rfl rfl (Ef.stoF rfl ⟨_, rfl, rfl⟩ rfl (hle3 _ _ hq2) rfl (by rw [List.size_toArray, encQ_len]; exact Nat.le_refl _) (singles rfl)) ?_
   rintro _ _ _ ⟨rfl, rfl, rfl⟩
   refine W.go 99 rfl ?_
   refine W.eff0 rfl rfl (Ef.stoF rfl ⟨_, rfl, rfl⟩ rfl ((put_ne _ _ hbe').trans (hle3 _ _ he2)) rfl (Nat.le_refl _) (singles rfl)) ?_
   rintro _ _ _ ⟨rfl, rfl, rfl⟩
   refine W.go 99 rfl ?_
   have hrow : putRow (encQ (qOf s hs l)).toArray 0 (Value.agg (encQ (qOf s hs l)).toArray).cells.toList = (encQ (qOf s hs l)).toArray := by
    rw [putRow_all (by rw [List.size_toArray, encQ_len]; rfl)]
    rfl
   refine W.out r.ro (.inr .ret) ?_
   refine WM.deferred rfl rfl (calm_sp bq be _) ?_
   rintro _ _ ⟨rfl, rfl⟩
   refine WM.ret2 r rfl rfl rfl (loadNF rfl rfl (cellsAt_n (vs := encQ (qOf s hs l)) (e := 148) (fz := (0, 0)) (wr := true) ?_ (encQ_len _))) (load1F rfl (cell_of (put_same _ _ _) rfl)) ⟨?_, le_put_none (le_put_none (hle2.trans hle3) hbq _) hbeL _⟩
   ·rw [put_ne _ _ hbe'.symm, put_same, hrow]
   ·rw [hpE]; rfl
end Go.Mz


set_option maxRecDepth 100000
namespace Go.Mz
open Go.Conc Go.Proofs
variable {X : Logic Tryz.prog}
theorem listG_sp (m : Nat) (hm : m < 8) (L : LH) : Sp X 106 [.int .u8 m] L (fun v L' => Grow L 1 3 encI L' v (natI (bitsL m))) := by
 refine Sp.enter (n := 20) Tryz.func106 rfl rfl rfl rfl fun C hX _ hL0 r => ?_
 refine W.go 99 rfl ?_
 refine W.loop (fun n E B L' => ∃ (i : Nat) (v : Value), n = 3 - i ∧ i ≤ 3 ∧ Grow L 1 3 encI L' v (natI ((List.range i).filter (m.testBit ·))) ∧ E = [(3, .v v), (4, .f (.func 134) [.v (.int .u8 m)] []), (8, .v (.int .i64 i))] ∧ B = [])
  ⟨0, _, rfl, by omega, Grow.nil (Le.refl _), rfl, rfl⟩ ⟨rfl, rfl, rfl, trivial⟩ trivial ?_
 rintro _ _ _ L1 ⟨i, v, rfl, h1, hg, rfl, rfl⟩ again
 refine W.go 99 rfl ?_
 refine W.split rfl rfl rfl (fun c1 => W.go 99 rfl ?_) (fun c1 => W.go 99 rfl ?_)
 ·have hi : i < 3 := by simp at c1; omega
  have hb := range_filter (m.testBit ·) i
  refine W.eff rfl rfl rfl (Ef.callS rfl rfl rfl (Sp.toV (f1 := [.int .u8 m]) (f2 := []) (has_sp m i hm hi L1))) ?_
  rintro _ _ _ ⟨_, rfl, rfl, rfl, rfl⟩
  refine W.go 99 rfl ?_
  refine W.split rfl rfl rfl (fun c2 => W.go 99 rfl ?_) (fun c2 => W.go 99 rfl ?_)
  ·refine W.eff rfl rfl rfl (Ef.grow rfl rfl rfl rfl rfl rfl rfl rfl rfl encI_len encI_sg hg (ls := [(i : Int)]) (.own rfl rfl rfl rfl) (by have := natI_flt (m.testBit ·) i; simp only [List.length_singleton]; omega)) ?_
   rintro _ _ _ ⟨v', rfl, rfl, hg', _⟩
   refine W.go 99 rfl ?_
   exact W.again (again _ _ _ _ (by omega) ⟨i + 1, v', rfl, by omega, by rw [hb, if_pos c2, natI_snoc]; exact hg', rfl, rfl⟩) ⟨rfl, rfl, congrArg some (inc64 (by omega)), trivial⟩ trivial
  ·exact W.again (again _ _ _ _ (by omega) ⟨i + 1, v, rfl, by omega, by rw [hb]; simpa [c2] using hg, rfl, rfl⟩) ⟨rfl, rfl, congrArg some (inc64 (by omega)), trivial⟩ trivial
 ·have hi : i = 3 := by simp at c1; omega
  subst hi
  refine W.ret r rfl rfl ?_
  exact hg
theorem Right_sp (s : St) (p : Pt) (ha la : Option Addr) (hc lc : Nat) (hs : List Int) (l : List Stand) (L : LH) (h : AskAt L s p ha hs) (hl : SlAt L la 2 encSt l) (hn : l.length ≤ 140737488355328) :
  Sp X 66 [stA s p, .slice ha hs.length hc, .slice la l.length lc] L (fun v L' => v = .int .i64 (RightE s hs l) ∧ Le L L') := by
 refine Sp.enter (n := 25) Tryz.func66 rfl rfl rfl rfl fun C hX _ hL0 r => ?_
 refine W.go 99 rfl ?_
 have hr := open_sp (X := C.X) s p ha none none hc 0 0 hs [] [] L h ints0 ints0 (by simp) (by simp)
 rw [open_ask0] at hr
 refine W.eff rfl rfl rfl (Ef.call rfl (hr)) ?_
 rintro _ _ _ ⟨_, rfl, rfl, hq⟩
 rcases hq with ⟨h0, rfl, hle⟩ | ⟨h0, u, rfl, z, mr, F, rfl, rfl, rfl, hmv, hLF, hFL, hFm, hsv, hmr⟩
 ·refine W.go 99 rfl ?_
  refine W.split rfl rfl rfl (fun _ => W.go 99 rfl ?_) (fun h => absurd h (by simpa using h0))
  refine W.ret r rfl rfl ?_
  exact ⟨by unfold RightE; rw [if_pos h0]; rfl, hle⟩
 ·rename_i L2
  refine W.go 99 rfl ?_
  refine W.split rfl rfl rfl (fun h => absurd h (by simp)) (fun _ => W.go 99 rfl ?_)
  refine W.eff rfl rfl rfl (Ef.call rfl (placed_sp z.b z.s z.p z.ha la z.hc lc z.hs z.t0 z.t1 z.t2 z.mv l L2 (hsv.le hFL).sv (hsv.le hFL).gl (hl.le (hLF.trans hFL)) hn)) ?_
  rintro _ _ _ ⟨_, rfl, rfl, rfl, hle⟩
  refine W.go 99 rfl ?_
  refine W.ret r rfl rfl ?_
  refine ⟨?_, (hLF.trans hFL).trans hle⟩
  unfold RightE
  rw [if_neg (by rw [h0]; simp)]
  rfl
def rowsP (s : St) (hs : List Int) (l : List Stand) (d : Nat) (n : Nat) : List (List Int) := (List.range n).map fun k => natI (onS s hs l k d)
def PlacesE (s : St) (hs : List Int) (l : List Stand) (d : Int) : List (List Int) × Int := if RightE s hs l ≠ 0 then ([], RightE s hs l) else if inB d 0 (s.days - 1) then (rowsP s hs l d.toNat s.shelves.length, 0) else ([], 3)
def NewRows (L : LH) (ls : List (List Int)) (u : Value) (L' : LH) : Prop := ∃ a c, u = .slice a ls.length c ∧ Le L L' ∧ RowsAt L' a 1 encI ls
theorem NewRows.nil {L L' : LH} (h : Le L L') : NewRows L [] (.slice none 0 0) L' := ⟨none, 0, rfl, h, [], rfl, SlAt.empty, fun x hx => by cases hx⟩
theorem bits_on {s : St} (h3 : s.cones.length ≤ 3) (hs : List Int) (l : List Stand) (k d : Nat) : bitsL (bm (qOf s hs l k d)) = onS s hs l k d := by
 rw [bits_bm]
 unfold onS
 show (List.range 3).filter (onB s hs l k d) = _
 obtain ⟨m, hm⟩ : ∃ m, 3 = s.cones.length + m := ⟨3 - s.cones.length, by omega⟩
 have e : ((List.range m).map (s.cones.length + ·)).filter (onB s hs l k d) = [] := List.filter_eq_nil_iff.2 fun x hx => by
  obtain ⟨y, _, rfl⟩ := List.mem_map.1 hx
  rw [onB_out (by omega)]; simp
 rw [hm, List.range_add, List.filter_append, e, List.append_nil]
theorem Places_sp (s : St) (p : Pt) (ha la : Option Addr) (hc lc : Nat) (hs : List Int) (l : List Stand) (d : Int) (L : LH) (h : AskAt L s p ha hs) (hl : SlAt L la 2 encSt l) (hn : l.length ≤ 140737488355328) :
  Sp X 64 [stA s p, .slice ha hs.length hc, .slice la l.length lc, .int .i64 d] L (fun v L' => ∃ u, v = .tuple #[u, .int .i64 (PlacesE s hs l d).2] ∧ NewRows L (PlacesE s hs l d).1 u L') := by
 obtain ⟨p1, p2, n1, n2⟩ := p
 refine Sp.enter (n := 56) Tryz.func64 rfl rfl rfl rfl fun C hX _ hL0 r => ?_
 refine W.go 99 rfl ?_
 have hr := open_sp (X := C.X) s ⟨p1, p2, n1, n2⟩ ha none none hc 0 0 hs [] [] L h ints0 ints0 (by simp) (by simp)
 rw [open_ask0] at hr
 refine W.eff rfl rfl rfl (Ef.call rfl (hr)) ?_
 rintro _ _ _ ⟨_, rfl, rfl, hq⟩
 rcases hq with ⟨h0, rfl, hle⟩ | ⟨h0, u, rfl, z, mr, F, rfl, e2, e3, hmv, hLF, hFL, hFm, hsv, hmr⟩
 ·refine W.go 99 rfl ?_
  refine W.split rfl rfl rfl (fun _ => W.go 99 rfl ?_) (fun h => absurd h (by simpa using h0))
  refine W.ret r rfl rfl ?_
  have e1 : PlacesE s hs l d = ([], askE s hs) := by
   have : RightE s hs l = askE s hs := by unfold RightE; rw [if_pos h0]
   unfold PlacesE
   rw [this, if_pos h0]
  rw [e1]
  exact ⟨_, rfl, NewRows.nil hle⟩
 rename_i L2
 have hR : RightE s hs l = planE s hs l := by unfold RightE; rw [if_neg (by rw [h0]; simp)]
 obtain ⟨hok, hhk⟩ := ask_ok h0
 have hpl := placed_sp (X := C.X) z.b z.s z.p z.ha la z.hc lc z.hs z.t0 z.t1 z.t2 z.mv l L2 (hsv.le hFL).sv (hsv.le hFL).gl (hl.le (hLF.trans hFL)) hn
 rw [e2, e3] at hpl
 refine W.go 99 rfl ?_
 refine W.split rfl rfl rfl (fun h => absurd h (by simp)) (fun _ => W.go 99 rfl ?_)
 refine W.eff rfl rfl rfl (Ef.call rfl (hpl)) ?_
 rintro _ _ _ ⟨_, rfl, rfl, rfl, hle⟩
 refine W.go 99 rfl ?_
 rename_i L3
 have hl3 := (hLF.trans hFL).trans hle
 refine W.split rfl rfl rfl (fun c1 => W.go 99 rfl ?_) (fun c1 => W.go 99 rfl ?_)
 ·have h1 : planE s hs l ≠ 0 := by simpa using c1
  refine W.ret r rfl rfl ?_
  unfold PlacesE
  rw [hR, if_pos h1]
  exact ⟨_, rfl, NewRows.nil hl3⟩
 have h1 : planE s hs l = 0 := by simpa using c1
 rw [if_pos h1]
 have hd4 := hok.d4
 have hd1 := hok.d1
 have hs3 := hok.s3
 have hc3 := hok.c3
 refine W.go 99 rfl ?_
 rw [wrap64_in _ (by omega) (by omega)]
 refine W.eff rfl rfl rfl (Ef.call rfl (within_sp _ _ _ _)) ?_
 rintro _ _ _ ⟨_, rfl, rfl, rfl, rfl⟩
 refine W.go 99 rfl ?_
 have hPE : PlacesE s hs l d = if inB d 0 (s.days - 1) then (rowsP s hs l d.toNat s.shelves.length, 0) else ([], 3) := by
  unfold PlacesE
  rw [hR, if_neg (by rw [h1]; simp)]
 refine W.split rfl rfl rfl (fun c2 => W.go 99 rfl ?_) (fun c2 => W.go 99 rfl ?_)
 ·refine W.ret r rfl rfl ?_
  rw [hPE, if_neg (by simpa using c2)]
  exact ⟨_, rfl, NewRows.nil hl3⟩
 have hin : inB d 0 (s.days - 1) = true := by simpa using c2
 rw [if_pos hin] at hPE
 rw [inB_iff] at hin
 obtain ⟨d, rfl⟩ : ∃ n : Nat, d = n := ⟨d.toNat, by omega⟩
 have hdn : d < s.days.toNat := by omega
 clear hpl hr
 refine W.loop (fun w E B L' => ∃ (i : Nat) (v : Value) (F : LH) (rs : List (Rw Int)), w = s.shelves.length - i ∧ i ≤ s.shelves.length ∧ Le L3 F ∧ rs.map Prod.snd = rowsP s hs l d i ∧ rs.length = i ∧ Grow F 1 28 encRw L' v rs ∧ (∀ x ∈ rs, RwOk F 1 encI x) ∧
   E = [(3, .v (.int .i64 d)), (12, .p 1 0), (13, .v v), (41, .v (.int .i64 s.shelves.length)), (42, .v (.int .i64 i))] ∧ B = [some ⟨cellsS (.v (stA s ⟨p1, p2, n1, n2⟩)), 25⟩, some ⟨cellsS (.v (.agg (encQ (qOf s hs l)).toArray)), 148⟩])
  ⟨0, _, L3, [], rfl, by omega, Le.refl _, rfl, rfl, Grow.nil (Le.refl _), (fun x hx => by cases hx), rfl, rfl⟩ (by exact ⟨rfl, rfl, rfl, rfl, rfl, trivial⟩) (by exact ⟨rfl, rfl, trivial⟩) ?_
 rintro _ _ _ L4 ⟨i, v, F4, rs, rfl, hi, hLF4, hrs, hrl, hgr, hrk, rfl, rfl⟩ again
 refine W.go 99 rfl ?_
 refine W.split rfl rfl rfl (fun d1 => W.go 99 rfl ?_) (fun d1 => W.go 99 rfl ?_)
 ·have hil : i < s.shelves.length := by simpa using d1
  have hi3 : i < 3 := by omega
  have hd' : d < 4 := by omega
  have hnth : nth (cellsS (.v (.agg (encQ (qOf s hs l)).toArray))) (0 + i * 4 + d * 1) = some (.v (.int .u8 (bm (qOf s hs l i d)))) := by
   show nth ((encQ (qOf s hs l)).map SV.v) _ = _
   rw [nth_map_v, show 0 + i * 4 + d * 1 = i * 4 + d by omega, encQ_get _ hi3 hd']; rfl
  refine W.vf rfl rfl rfl rfl (Vf.idxA rfl rfl rfl rfl rfl rfl hi3) ?_
  refine W.vf rfl rfl rfl rfl (Vf.idxA rfl rfl rfl rfl rfl rfl hd') ?_
  refine W.vf rfl rfl rfl rfl (Vf.loadA rfl rfl rfl rfl hnth) ?_
  refine W.go 99 rfl ?_
  refine W.eff rfl rfl rfl (Ef.call rfl (listG_sp _ (bm_lt _) _)) ?_
  rintro _ _ _ ⟨_, rfl, rfl, hg1⟩
  rename_i L5 _
  rw [bits_on hc3] at hg1
  obtain ⟨wa, wc, rfl, -⟩ := hg1.slice
  obtain ⟨F5, hFF5, hF5L, hw5, hf5⟩ := hg1.foot encI_len hgr.1
  have hgr5 : Grow F5 1 28 encRw L5 v rs := hgr.rebase hg1.1 hF5L hf5
  refine W.go 99 rfl ?_
  refine W.eff rfl rfl rfl (Ef.grow rfl rfl rfl rfl rfl rfl rfl rfl rfl encRw_len encRw_sg hgr5 (ls := [((wa, (natI (onS s hs l i d)).length, wc), natI (onS s hs l i d))]) (.own rfl rfl rfl rfl) (by simp; omega)) ?_
  rintro _ _ _ ⟨v2, rfl, rfl, hg6, -⟩
  refine W.go 99 rfl ?_
  refine W.again (again _ _ _ _ (by omega) ⟨i + 1, v2, F5, _, rfl, by omega, hLF4.trans hFF5, ?_, by simp; omega, hg6, ?_, rfl, rfl⟩) ⟨rfl, rfl, rfl, rfl, congrArg some (inc64 (by omega)), trivial⟩ ⟨rfl, rfl, trivial⟩
  ·rw [List.map_append, hrs, rowsP, rowsP, List.range_succ, List.map_append]; rfl
  ·intro y hy
   rcases List.mem_append.1 hy with hy | hy
   ·exact (hrk y hy).le hFF5
   ·rw [List.mem_singleton.1 hy]; exact ⟨hw5, rfl⟩
 ·have hie : i = s.shelves.length := by simp at d1; omega
  subst hie
  have hgL : GrowL L3 28 1 encI L4 v (rowsP s hs l d s.shelves.length) := ⟨F4, rs, hLF4, hrs, hgr, hrk⟩
  obtain ⟨va, vc, rfl⟩ := hgL.slice
  refine W.ret r rfl rfl ?_
  rw [hPE]
  exact ⟨_, rfl, va, vc, rfl, hl3.trans hgL.hle, hgL.at.2⟩
end Go.Mz


set_option maxRecDepth 100000
namespace Go.Mz
open Go.Conc Go.Proofs
variable {X : Logic Tryz.prog}
theorem putsE_0 {s : St} {hs : List Int} : ∀ {cs : List Cone} {l : List Stand}, putsE s hs cs l = 0 → ∀ (i : Nat) c a, cs[i]? = some c → l[i]? = some a → putE s hs c a = 0
 | [], l, _, i, c, a, hc, _ => by simp at hc
 | c :: cs, [], _, i, c', a, _, ha => by simp at ha
 | c :: cs, a :: l, h, i, c', a', hc, ha => by
  unfold putsE at h
  split at h
  ·rename_i h1; exact absurd h h1
  ·rename_i h1
   cases i with
   | zero => simp at hc ha; subst hc; subst ha; simpa using h1
   | succ i => exact putsE_0 h i c' a' (by simpa using hc) (by simpa using ha)
theorem put_V {s : St} {hs : List Int} {c : Cone} {a : Stand} (h : putE s hs c a = 0) : a.shelf = -1 ∨ isStand s a = true := by
 by_cases e : a.shelf = -1
 ·exact .inl e
 ·right
  unfold putE at h
  rw [if_neg e] at h
  split at h
  ·cases h
  ·rename_i h1; simpa using h1
theorem planE_0 {s : St} {hs : List Int} {l : List Stand} (h : planE s hs l = 0) : l.length = s.cones.length ∧ putsE s hs s.cones l = 0 ∧ fitsS s hs l = true := by
 unfold planE at h
 split at h
 ·rename_i h1; exact absurd h h1
 ·rename_i h1
  simp only [ne_eq, Decidable.not_not, sizedE_0] at h1
  split at h
  ·rename_i h2; exact absurd h h2
  ·rename_i h2
   split at h
   ·rename_i h3; exact ⟨by omega, by simpa using h2, h3⟩
   ·cases h
theorem planE_V {s : St} {hs : List Int} {l : List Stand} (h : planE s hs l = 0) : PlanV s l := by
 obtain ⟨h1, h2, _⟩ := planE_0 h
 refine ⟨by omega, fun a ha => ?_⟩
 obtain ⟨i, hi, rfl⟩ := List.getElem_of_mem ha
 exact put_V (putsE_0 h2 i _ _ (List.getElem?_eq_getElem (by omega)) (List.getElem?_eq_getElem hi))
theorem rPlaces_sp (s : St) (p : Pt) (ha la : Option Addr) (hc lc : Nat) (hs : List Int) (l : List Stand) (d : Int) (L : LH) (h : AskAt L s p ha hs) (hl : SlAt L la 2 encSt l) (hn : l.length ≤ 140737488355328) :
  Sp X 65 [stA s p, .slice ha hs.length hc, .slice la l.length lc, .int .i64 d] L (fun v L' => ∃ u, v = .tuple #[u, .int .i64 (PlacesE s hs l d).2] ∧ NewRows L (PlacesE s hs l d).1 u L') := by
 obtain ⟨p1, p2, n1, n2⟩ := p
 refine Sp.enter (n := 43) Tryz.func65 rfl rfl rfl rfl fun C hX _ hL0 r => ?_
 refine W.go 99 rfl ?_
 refine W.eff rfl rfl rfl (Ef.call rfl (rRight_sp s ⟨p1, p2, n1, n2⟩ ha la hc lc hs l L h hl hn)) ?_
 rintro _ _ _ ⟨_, rfl, rfl, rfl, hl3⟩
 refine W.go 99 rfl ?_
 rename_i L3
 refine W.split rfl rfl rfl (fun c1 => W.go 99 rfl ?_) (fun c1 => W.go 99 rfl ?_)
 ·have h1 : RightE s hs l ≠ 0 := by simpa using c1
  refine W.ret r rfl rfl ?_
  unfold PlacesE
  rw [if_pos h1]
  exact ⟨_, rfl, NewRows.nil hl3⟩
 have h1 : RightE s hs l = 0 := by simpa using c1
 have h0 : askE s hs = 0 ∧ planE s hs l = 0 := by
  unfold RightE at h1
  split at h1
  ·rename_i h2; exact absurd h1 h2
  ·rename_i h2; exact ⟨by simpa using h2, h1⟩
 obtain ⟨hok, hhk⟩ := ask_ok h0.1
 have hpv := planE_V h0.2
 have hll := (planE_0 h0.2).1
 have hd4 := hok.d4
 have hd1 := hok.d1
 have hs3 := hok.s3
 have hc3 := hok.c3
 have hPE : PlacesE s hs l d = if inB d 0 (s.days - 1) then (rowsP s hs l d.toNat s.shelves.length, 0) else ([], 3) := by
  unfold PlacesE
  rw [if_neg (by rw [h1]; simp)]
 rw [wrap64_in _ (by omega) (by omega)]
 refine W.eff rfl rfl rfl (Ef.call rfl (inside_sp _ _ _ _)) ?_
 rintro _ _ _ ⟨_, rfl, rfl, rfl, rfl⟩
 refine W.go 99 rfl ?_
 refine W.split rfl rfl rfl (fun c2 => W.go 99 rfl ?_) (fun c2 => W.go 99 rfl ?_)
 ·refine W.ret r rfl rfl ?_
  rw [hPE, if_neg (by simpa using c2)]
  exact ⟨_, rfl, NewRows.nil hl3⟩
 have hin : inB d 0 (s.days - 1) = true := by simpa using c2
 rw [if_pos hin] at hPE
 rw [inB_iff] at hin
 obtain ⟨d, rfl⟩ : ∃ n : Nat, d = n := ⟨d.toNat, by omega⟩
 refine W.loop (fun w E B L' => ∃ (i : Nat) (v : Value) (F : LH) (rs : List (Rw Int)), w = s.shelves.length - i ∧ i ≤ s.shelves.length ∧ Le L3 F ∧ rs.map Prod.snd = rowsP s hs l d i ∧ rs.length = i ∧ Grow F 1 28 encRw L' v rs ∧ (∀ x ∈ rs, RwOk F 1 encI x) ∧
   E = [(1, .v (.slice ha hs.length hc)), (2, .v (.slice la l.length lc)), (3, .v (.int .i64 d)), (4, .p 0 0), (11, .v v), (12, .v (.int .i64 i))] ∧ B = [some ⟨cellsS (.v (stA s ⟨p1, p2, n1, n2⟩)), 25⟩])
  ⟨0, _, L3, [], rfl, by omega, Le.refl _, rfl, rfl, Grow.nil (Le.refl _), (fun x hx => by cases hx), rfl, rfl⟩ (by exact ⟨rfl, rfl, rfl, rfl, rfl, rfl, trivial⟩) (by exact ⟨rfl, trivial⟩) ?_
 rintro _ _ _ L4 ⟨i, v, F4, rs, rfl, hi, hLF4, hrs, hrl, hgr, hrk, rfl, rfl⟩ again
 have hl4 := (hl3.trans hLF4).trans hgr.1
 refine W.go 99 rfl ?_
 refine W.split rfl rfl rfl (fun d1 => W.go 99 rfl ?_) (fun d1 => W.go 99 rfl ?_)
 ·have hil : i < s.shelves.length := by simpa using d1
  refine W.eff rfl rfl rfl (Ef.call rfl (rOn_sp s ⟨p1, p2, n1, n2⟩ ha la hc lc hs l i d L4 (h.le hl4) hok hhk (hl.le hl4) hpv)) ?_
  rintro _ _ _ ⟨_, rfl, rfl, hg1⟩
  rename_i L5 _
  have e : natI ((List.range l.length).filter (onB s hs l i d)) = natI (onS s hs l i d) := by rw [hll]; rfl
  rw [e] at hg1
  obtain ⟨wa, wc, rfl, -⟩ := hg1.slice
  obtain ⟨F5, hFF5, hF5L, hw5, hf5⟩ := hg1.foot encI_len hgr.1
  have hgr5 : Grow F5 1 28 encRw L5 v rs := hgr.rebase hg1.1 hF5L hf5
  refine W.go 99 rfl ?_
  refine W.eff rfl rfl rfl (Ef.grow rfl rfl rfl rfl rfl rfl rfl rfl rfl encRw_len encRw_sg hgr5 (ls := [((wa, (natI (onS s hs l i d)).length, wc), natI (onS s hs l i d))]) (.own rfl rfl rfl rfl) (by simp; omega)) ?_
  rintro _ _ _ ⟨v2, rfl, rfl, hg6, -⟩
  refine W.go 99 rfl ?_
  refine W.again (again _ _ _ _ (by omega) ⟨i + 1, v2, F5, _, rfl, by omega, hLF4.trans hFF5, ?_, by simp; omega, hg6, ?_, rfl, rfl⟩) ⟨rfl, rfl, rfl, rfl, rfl, congrArg some (inc64 (by omega)), trivial⟩ ⟨rfl, trivial⟩
  ·rw [List.map_append, hrs, rowsP, rowsP, List.range_succ, List.map_append]; rfl
  ·intro y hy
   rcases List.mem_append.1 hy with hy | hy
   ·exact (hrk y hy).le hFF5
   ·rw [List.mem_singleton.1 hy]; exact ⟨hw5, rfl⟩
 ·have hie : i = s.shelves.length := by simp at d1; omega
  subst hie
  have hgL : GrowL L3 28 1 encI L4 v (rowsP s hs l d s.shelves.length) := ⟨F4, rs, hLF4, hrs, hgr, hrk⟩
  obtain ⟨va, vc, rfl⟩ := hgL.slice
  refine W.ret r rfl rfl ?_
  rw [hPE]
  exact ⟨_, rfl, va, vc, rfl, hl3.trans hgL.hle, hgL.at.2⟩
end Go.Mz


namespace Go.Mz
open Go.Conc
end Go.Mz


set_option maxRecDepth 100000
namespace Go.Mz
open Go.Conc Go.Proofs
theorem post_le {F L F' L' : LH} (h : Le F F') (p : Post F L F' L') (hF : Le F L) : Le L L' := fun b x hx => by
 cases hf : F b with
 | none => exact p.keep b x hf hx
 | some y =>
  have := hF _ _ hf
  rw [hx] at this
  cases this
  exact p.le _ _ (h _ _ hf)
theorem placesE_len (s : St) (hs : List Int) (l : List Stand) (d : Int) : (PlacesE s hs l d).1.length ≤ s.shelves.length ∧ ∀ x ∈ (PlacesE s hs l d).1, x.length ≤ s.cones.length := by
 unfold PlacesE
 split
 ·exact ⟨by simp, fun x hx => by cases hx⟩
 ·split
  ·refine ⟨by simp [rowsP], fun x hx => ?_⟩
   obtain ⟨k, _, rfl⟩ := List.mem_map.1 hx
   rw [natI, List.length_map]
   unfold onS
   simpa using List.length_filter_le _ (List.range s.cones.length)
  ·exact ⟨by simp, fun x hx => by cases hx⟩
variable {Post : Value → World → Prop} {W0 : World}
theorem SpL_run (s : St) (p : Pt) (c : Cone) (ha : Option Addr) (hc : Nat) (hs : List Int) (la : Option Addr) (lc : Nat) (pl : List Stand) (i : Int) (na : Option Addr) (nc : Nat) (nums : List Int) (L : LH) (hst : StAt L s p) (hh : IntsAt L ha hs) (hpl : SlAt L la 2 encSt pl) (hn : IntsAt L na nums) (hgl : GlOk L) (hl2 : nums.length ≤ 140737488355328)
    (hQ : ∀ v L' w, (v = .bool true ∧ Dim L L') → Sub L' w → Same W0 w → Post v w) :
    FGo Tryz.prog Post W0 (G (Frame.enter Tryz.prog 15 [stA s p, .agg (encCo c).toArray, .slice ha hs.length hc, .slice la pl.length lc, .int .i64 i, .slice na nums.length nc].toArray .normal) []) L := by
  refine root_enter (n := 218) (s := 12) Tryz.func15 rfl rfl (by kernel_rfl) rfl rfl hQ fun C hX _ hL0 r => ?_
  refine W.go 99 rfl ?_
  refine W.eff rfl rfl rfl (Ef.call rfl (vast_sp s p L)) ?_
  rintro _ _ _ ⟨_, rfl, rfl, rfl, rfl⟩
  refine W.go 99 rfl ?_
  have drd : ∀ L2, GlOk L2 → Sp C.X 21 [] L2 (fun v L' => v = .bool true ∧ Dim L2 L') := fun L2 h => by rw [hX]; exact dried_sp L2 h
  refine W.split rfl rfl rfl (fun e1 => W.go 99 rfl ?_) (fun e1 => W.go 99 rfl ?_)
  · refine W.eff rfl rfl rfl (Ef.call rfl (drd L hgl)) ?_
    rintro _ _ _ ⟨_, rfl, rfl, rfl, hdm⟩
    refine W.go 99 rfl ?_
    refine W.retO r rfl ⟨rfl, hdm⟩
  refine W.split rfl rfl rfl (fun e2 => W.go 99 rfl ?_) (fun e2 => W.go 99 rfl ?_)
  · refine W.eff rfl rfl rfl (Ef.call rfl (drd L hgl)) ?_
    rintro _ _ _ ⟨_, rfl, rfl, rfl, hdm⟩
    refine W.go 99 rfl ?_
    refine W.retO r rfl ⟨rfl, hdm⟩
  refine W.split rfl rfl rfl (fun e3 => W.go 99 rfl ?_) (fun e3 => W.go 99 rfl ?_)
  · refine W.eff rfl rfl rfl (Ef.call rfl (drd L hgl)) ?_
    rintro _ _ _ ⟨_, rfl, rfl, rfl, hdm⟩
    refine W.go 99 rfl ?_
    refine W.retO r rfl ⟨rfl, hdm⟩
  have h20 : hs.length ≤ 20 := by simp at e2; omega
  have p20 : pl.length ≤ 20 := by simp at e3; omega
  obtain ⟨v1, v2⟩ := vast_no e1
  refine W.eff rfl rfl rfl (Ef.call rfl (NewHat_sp na nc nums L hn)) ?_
  rintro _ _ _ ⟨_, rfl, rfl, b, rfl, hb, hle1, hh1⟩
  refine W.go 99 rfl ?_
  rename_i L1
  have hb1 := le_but hb hle1
  refine W.eff rfl rfl rfl (Ef.call rfl (sev_sp s p c ha hc hs b na nc nums 0 L1 (hst.le hb1) (hh.le hb1) hh1 (by omega) hl2 v1 v2 h20)) ?_
  rintro _ _ _ ⟨_, rfl, rfl, own, p1, t, ta, tc, cs2, p2, ba, bb, m, rfl, ho, ht, hc2, hm, hh2, hle2, hsev⟩
  refine W.go 99 rfl ?_
  rename_i L2
  have hok : Ok own := ho.elim (fun h => h.ok) (fun h => h.ok)
  have o1 := hok.s1
  have o3 := hok.s3
  have hc3 := hok.c3
  have o4 := hok.d4
  have o5 := hok.d1
  have hgl2 := hgl.le (hb1.trans (but_but hle2))
  have hpl2 := hpl.le (hb1.trans (but_but hle2))
  have hL2 : Le L (L2.but b) := hb1.trans (but_but hle2)
  generalize hSs : [(s, p), (own, p1), ({ own with cones := cs2 }, p2), (own, p1)] = Ss at hsev
  generalize hHs : [((ha, hs.length, hc), hs), ((ta, t.length, tc), t), ((ta, t.length, tc), t), ((ha, hs.length, hc), hs)] = Hs at hsev
  have hS1 : Ss[1]? = some (own, p1) := by rw [← hSs]; rfl
  have hH1 : Hs[1]? = some ((ta, t.length, tc), t) := by rw [← hHs]; rfl
  have nS : Ss.length = 4 := by rw [← hSs]; rfl
  have nH : Hs.length = 4 := by rw [← hHs]; rfl
  refine W.loop (fun w E B L' => ∃ (i' : Nat) (m' : Nat) (v : Value) (ts : List Stand) (I : LH), w = own.cones.length - i' ∧ i' ≤ own.cones.length ∧ m' ≤ m + 3 * i' ∧ HatGr L2 b na nc nums m' 2 30 encSt L' v ts I ∧ ts.length = i' ∧
      E = [(3, .v (.slice la pl.length lc)), (4, .v (.int .i64 i)), (13, .v (pt b)), (14, .v (.slice (some ⟨ba, 0, none⟩) 4 4)), (15, .v (.slice (some ⟨bb, 0, none⟩) 4 4)), (16, .v v), (17, .v (.int .i64 i'))] ∧ B = [])
    ⟨0, m, _, [], L2, rfl, by omega, by omega, HatGr.nil hh2, rfl, rfl, rfl⟩ (by exact ⟨rfl, rfl, rfl, rfl, rfl, rfl, rfl, trivial⟩) (by exact trivial) ?_
  rintro _ _ _ L3 ⟨i', m', v, ts, I3, rfl, hi, hm', hgr, htl, rfl, rfl⟩ again
  have hsv := hsev.le hgr.le
  refine W.go 99 rfl ?_
  refine W.vf rfl rfl rfl rfl (Vf.idx rfl rfl rfl rfl rfl rfl ((show 1 < 4 by decide))) ?_
  refine W.go 99 rfl ?_
  refine W.vf rfl rfl rfl rfl (Vf.load rfl rfl rfl (hsv.ss.fld hS1 1 rfl)) ?_
  refine W.go 99 rfl ?_
  refine W.split rfl rfl rfl (fun e5 => W.go 99 rfl ?_) (fun e5 => W.go 99 rfl ?_)
  · have hil : i' < own.cones.length := by simpa using e5
    refine W.vf rfl rfl rfl rfl (Vf.idx rfl rfl rfl rfl rfl rfl ((show 1 < 4 by decide))) ?_
    refine W.go 99 rfl ?_
    refine W.vf rfl rfl rfl rfl (Vf.loadN rfl rfl rfl (hsv.ss.whole hS1 rfl)) ?_
    refine W.go 99 rfl ?_
    refine W.eff rfl rfl rfl (Ef.call rfl (StandOf_sp own p1 b na nc nums m' L3 hgr.hat (by omega) hl2 (by omega) (by omega) (by omega) (by omega))) ?_
    rintro _ _ _ ⟨_, rfl, rfl, ⟨a, rfl, _⟩, hk4, m4, hm4, hh4⟩
    rename_i L4
    obtain ⟨I4, hgr4⟩ := hgr.call (but_same hk4) hh4
    obtain ⟨ad, cap, rfl, _⟩ := hgr.g.slice
    refine W.go 99 rfl ?_
    refine W.eff rfl rfl rfl (Ef.grow rfl rfl rfl rfl rfl rfl rfl rfl rfl encSt_len encSt_sg hgr4.g (ls := [a]) (.own rfl rfl rfl rfl) (by simp; omega)) ?_
    rintro _ _ _ ⟨v', rfl, rfl, hg5, -⟩
    refine W.go 99 rfl ?_
    exact W.again (again _ _ _ _ (by omega) ⟨i' + 1, m4, v', ts ++ [a], I4, rfl, by omega, by omega, ⟨hg5, hgr4.h, hgr4.i⟩, by simp [htl], rfl, rfl⟩) (by exact ⟨rfl, rfl, rfl, rfl, rfl, rfl, congrArg some (inc64 (by omega)), trivial⟩) (by exact trivial)
  · have hie : i' = own.cones.length := by simp at e5; omega
    subst hie
    have f23 := but_but hgr.le
    have hgl3 := hgl2.le f23
    have hpl3 := hpl2.le f23
    have hh3 := hgr.hat
    have hL3 : Le L (L3.but b) := hL2.trans f23
    have hsv := hsev.le f23
    obtain ⟨tsa, tsc, rfl, _⟩ := hgr.g.slice
    obtain ⟨sd3, hb3⟩ := hh3.blk
    have hts := (hgr.g.sl_but encSt_len hb3 (by decide)).2
    clear hgr hsev hgl2 hpl2 hL2
    obtain ⟨hsk, -, -⟩ := hsv.so _ (List.mem_of_getElem? hS1)
    obtain ⟨hhk, -, h20t⟩ := hsv.ho _ (List.mem_of_getElem? hH1)
    dsimp only at hsk hhk h20t
    have hcl : (L3.but b).cell? ((Addr.mk bb 0 none).add (1 * 1)) = some (.slice ta t.length tc) := by
      have := hsv.hs.get hH1 (j := 0) (v := slV (ta, t.length, tc)) rfl
      simpa using this
    have hM := (rMost_sp (X := C.X) own p1 ta tc t (L3.but b) ⟨hsk, hhk, hgl3, by omega⟩).frame (but_le L3 b)
    refine W.drawn (by kernel_rfl) _ (Le.refl _) ?_
    refine DD.run' [0, 3] rfl ?_
    refine DD.vf 1 rfl rfl rfl rfl rfl (Vf.idx rfl rfl rfl rfl rfl rfl ((show 1 < 4 by decide))) ?_
    refine DD.vf 2 rfl rfl rfl rfl rfl (Vf.loadN rfl rfl rfl ((hsv.ss.le (but_le _ _)).whole hS1 rfl)) ?_
    refine DD.vf 4 rfl rfl rfl rfl rfl (Vf.idx rfl rfl rfl rfl rfl rfl ((show 1 < 4 by decide))) ?_
    refine DD.vf 5 rfl rfl rfl rfl rfl (Vf.load rfl rfl rfl ((but_le _ _).cell hcl)) ?_
    refine DD.act 6 rfl rfl rfl rfl rfl (Ef.call rfl (hM)) ((by rintro _ _ _ ⟨_, rfl, rfl, _, ⟨_, rfl, _, _, rfl, hl, _⟩, hp⟩; exact ⟨post_le hl hp (but_le _ _), rfl, .inl rfl⟩)) ?_
    rintro _ _ _ ⟨_, rfl, rfl, F1, ⟨_, rfl, ma, mc, rfl, g4, hmo⟩, hp⟩
    rename_i L4
    refine DD.run' [7, 8, 9, 10, 11, 12, 13] rfl ?_
    refine .fin rfl ?_
    refine W.weak (E' := [(3, .v (.slice la pl.length lc)), (4, .v (.int .i64 i)), (13, .v (pt b)), (14, .v (.slice (some ⟨ba, 0, none⟩) 4 4)), (15, .v (.slice (some ⟨bb, 0, none⟩) 4 4)), (16, .v (.slice tsa ts.length tsc)), (18, .v (.slice ma (MostE own t).1.length mc))]) (B' := []) (by exact ⟨rfl, rfl, rfl, rfl, rfl, rfl, rfl, trivial⟩) (by exact trivial) ?_
    have f4 := post_le g4 hp (but_le _ _)
    have f4b : Le (L3.but b) (L4.but b) := but_but ((but_le _ _).trans f4)
    have hF1b : F1 b = none := by
      cases hx : F1 b with
      | none => rfl
      | some y =>
        rcases hp.fresh b (by rw [hx]; simp) with h1 | h1
        · rw [but_self] at h1; exact absurd rfl h1
        · rw [hb3] at h1; cases h1
    have hmo4 : SlAt (L4.but b) ma 2 encSt (MostE own t).1 := hmo.le (le_but hF1b hp.le)
    have hsv4 := (hsv.le f4b).le (but_le _ _)
    have hcl4 := (f4b.trans (but_le _ _)).cell hcl
    subst hSs hHs
    refine W.go 99 rfl ?_
    refine W.drawn (by kernel_rfl) _ (Le.refl _) ?_
    refine DD.run' [0, 1, 6, 7] rfl ?_
    refine DD.vf 2 rfl rfl rfl rfl rfl (Vf.idx rfl rfl rfl rfl rfl rfl ((show 1 < 4 by decide))) ?_
    refine DD.vf 3 rfl rfl rfl rfl rfl (Vf.loadN rfl rfl rfl (hsv4.ss.whole hS1 rfl)) ?_
    refine DD.run' [4] rfl ?_
    refine DD.vf 8 rfl rfl rfl rfl rfl (Vf.idx rfl rfl rfl rfl rfl rfl ((show 1 < 4 by decide))) ?_
    refine DD.vf 9 rfl rfl rfl rfl rfl (Vf.load rfl rfl rfl (hcl4)) ?_
    refine DD.run' [10] rfl ?_
    refine DD.act 5 rfl rfl rfl rfl rfl (Ef.appF rfl rfl rfl rfl rfl rfl rfl rfl rfl encSP_len hsv4.ss (ls := [(own, p1)]) (.own rfl rfl rfl rfl) (by simp) (by simp)) ((by rintro _ _ _ ⟨_, _, _, rfl, rfl, hn, rfl, _⟩; exact ⟨Le.put hn _, rfl, .inl rfl⟩)) ?_
    rintro _ _ _ ⟨b5, c5, cap5, rfl, rfl, hb5, rfl, hown5⟩
    refine DD.act 11 rfl rfl rfl rfl rfl (Ef.appF rfl rfl rfl rfl rfl rfl rfl rfl rfl encHP_len (hsv4.hs.le (Le.put hb5 _)) (ls := [((ta, t.length, tc), t)]) (.own rfl rfl rfl rfl) (by simp) (by simp)) ((by rintro _ _ _ ⟨_, _, _, rfl, rfl, hn, rfl, _⟩; exact ⟨(Le.put hb5 _).trans (Le.put hn _), rfl, .inl rfl⟩)) ?_
    rintro _ _ _ ⟨b6, c6, cap6, rfl, rfl, hb6, rfl, hown6⟩
    refine DD.run' [12, 13] rfl ?_
    refine .fin rfl ?_
    have hh4 := hh3.le f4
    have n5 := hh4.off hb5
    have n6 := (hh4.le (Le.put hb5 _)).off hb6
    have n65 : b6 ≠ b5 := fun e => by subst e; rw [put_same] at hb6; cases hb6
    have f46 : Le L4 ((L4.put b5 (.cells c5 25)).put b6 (.cells c6 28)) := (Le.put hb5 _).trans (Le.put hb6 _)
    have hss := (hown5.keep (L' := ((L4.put b5 (.cells c5 25)).put b6 (.cells c6 28)).but b) (fun b' hb' => by cases hb'; rw [but_get n5, put_ne _ _ n65.symm])).at encSP_len
    have hhs := (hown6.keep (L' := ((L4.put b5 (.cells c5 25)).put b6 (.cells c6 28)).but b) (fun b' hb' => by cases hb'; rw [but_get n6])).at encHP_len
    have f36 := f4b.trans (but_but ((but_le _ _).trans f46))
    have hh6 := hh4.le f46
    have hmo6 := hmo4.le (but_but ((but_le _ _).trans f46))
    change W C _ _ _ _ _ ((L4.put b5 (.cells c5 25)).put b6 (.cells c6 28))
    generalize (L4.put b5 (.cells c5 25)).put b6 (.cells c6 28) = L6 at f46 hss hhs f36 hh6 hmo6 ⊢
    have hsv6 := hsv.le f36
    have hts6 := hts.le f36
    have hpl6 := hpl3.le f36
    have hgl6 := hgl3.le f36
    have hL6 := hL3.trans f36
    clear hsv hts hpl3 hgl3 hL3 hM hp hmo hmo4 hsv4 hcl4 hcl f46 f36 f4b f4 hown5 hown6 hh3 hh4
    refine W.weak (E' := [(3, .v (.slice la pl.length lc)), (4, .v (.int .i64 i)), (13, .v (pt b)), (14, .v (.slice (some ⟨b5, 0, none⟩) 5 cap5)), (15, .v (.slice (some ⟨b6, 0, none⟩) 5 cap6)), (16, .v (.slice tsa ts.length tsc)), (18, .v (.slice ma (MostE own t).1.length mc))]) (B' := []) (by exact ⟨rfl, rfl, rfl, rfl, rfl, rfl, rfl, trivial⟩) (by exact trivial) ?_
    refine W.go 99 rfl ?_
    refine W.eff rfl rfl rfl (Ef.call rfl (To_sp b na nc nums m' 2 L6 hh6 (by omega) hl2 (by omega))) ?_
    rintro _ _ _ ⟨_, rfl, rfl, ⟨y1, rfl, hy1⟩, hk7, hs7⟩
    refine W.go 99 rfl ?_
    rename_i L7
    have hh7 := hh6.next hk7 hs7
    have f7 : Le (L6.but b) L7 := but_same hk7
    refine W.eff rfl rfl rfl (Ef.call rfl (To_sp b na nc nums (m' + 1) 2 L7 hh7 (by omega) hl2 (by omega))) ?_
    rintro _ _ _ ⟨_, rfl, rfl, ⟨y2, rfl, hy2⟩, hk8, hs8⟩
    refine W.go 99 rfl ?_
    rename_i L8
    have hh8 := hh7.next hk8 hs8
    have f8 := but_trans f7 (but_same hk8)
    refine W.eff rfl rfl rfl (Ef.call rfl (To_sp b na nc nums (m' + 1 + 1) 3 L8 hh8 (by omega) hl2 (by omega))) ?_
    rintro _ _ _ ⟨_, rfl, rfl, ⟨y3, rfl, hy3⟩, hk9, hs9⟩
    rename_i L9
    have f9 := but_trans f8 (but_same hk9)
    refine W.go 20 rfl ?_
    have hK9 : Le (L6.but b) L9 := f9
    refine W.pub 21 (.inr ⟨_, _, _, rfl⟩) rfl rfl ?_
    intro bp hbp _
    refine W.pub 22 (.inr ⟨_, _, _, rfl⟩) rfl rfl ?_
    intro bn hbn _
    have nbn : bn ≠ bp := fun e => by subst e; rw [put_same] at hbn; cases hbn
    change W C _ _ _ _ _ ((L9.put bp (.cells ([((la, pl.length, lc), pl), ((tsa, ts.length, tsc), ts), ((tsa, ts.length, tsc), ts), ((la, pl.length, lc), pl), ((ma, (MostE own t).1.length, mc), (MostE own t).1)].flatMap encRw).toArray 41)).put bn (.cells ([i, (y1 : Int), (y2 : Int), i, (y3 : Int)].flatMap encI).toArray 3))
    have q0 : Le L9 ((L9.put bp (.cells ([((la, pl.length, lc), pl), ((tsa, ts.length, tsc), ts), ((tsa, ts.length, tsc), ts), ((la, pl.length, lc), pl), ((ma, (MostE own t).1.length, mc), (MostE own t).1)].flatMap encRw).toArray 41)).put bn (.cells ([i, (y1 : Int), (y2 : Int), i, (y3 : Int)].flatMap encI).toArray 3)) := (Le.put hbp _).trans (Le.put hbn _)
    have hps : SlAt ((L9.put bp (.cells ([((la, pl.length, lc), pl), ((tsa, ts.length, tsc), ts), ((tsa, ts.length, tsc), ts), ((la, pl.length, lc), pl), ((ma, (MostE own t).1.length, mc), (MostE own t).1)].flatMap encRw).toArray 41)).put bn (.cells ([i, (y1 : Int), (y2 : Int), i, (y3 : Int)].flatMap encI).toArray 3)) (some ⟨bp, 0, none⟩) 1 encRw [((la, pl.length, lc), pl), ((tsa, ts.length, tsc), ts), ((tsa, ts.length, tsc), ts), ((la, pl.length, lc), pl), ((ma, (MostE own t).1.length, mc), (MostE own t).1)] := sl_block (e := 41) encRw_len ((put_ne _ _ nbn.symm).trans (put_same _ _ _))
    have hns : SlAt ((L9.put bp (.cells ([((la, pl.length, lc), pl), ((tsa, ts.length, tsc), ts), ((tsa, ts.length, tsc), ts), ((la, pl.length, lc), pl), ((ma, (MostE own t).1.length, mc), (MostE own t).1)].flatMap encRw).toArray 41)).put bn (.cells ([i, (y1 : Int), (y2 : Int), i, (y3 : Int)].flatMap encI).toArray 3)) (some ⟨bn, 0, none⟩) 1 encI [i, (y1 : Int), (y2 : Int), i, (y3 : Int)] := sl_block (e := 3) encI_len (put_same _ _ _)
    generalize (L9.put bp (.cells ([((la, pl.length, lc), pl), ((tsa, ts.length, tsc), ts), ((tsa, ts.length, tsc), ts), ((la, pl.length, lc), pl), ((ma, (MostE own t).1.length, mc), (MostE own t).1)].flatMap encRw).toArray 41)).put bn (.cells ([i, (y1 : Int), (y2 : Int), i, (y3 : Int)].flatMap encI).toArray 3) = L10 at q0 hps hns ⊢
    have hK := hK9.trans q0
    have hss := hss.le hK
    have hhs := hhs.le hK
    change SlAt L10 _ 6 encSP _ at hss
    change SlAt L10 _ 1 encHP _ at hhs
    have hgl10 := hgl6.le hK
    have hL10 := hL6.trans hK
    have hso : ∀ x ∈ ([(s, p), (own, p1), ({ own with cones := cs2 }, p2), (own, p1)] ++ [(own, p1)] : List (St × Pt)), SPOk L10 x := fun x hx => by
      rcases List.mem_append.1 hx with hx | hx
      · exact (hsv6.so x hx).le hK
      · rw [List.mem_singleton.1 hx]; exact (hsv6.so _ (List.mem_of_getElem? hS1)).le hK
    have hho : ∀ x ∈ ([((ha, hs.length, hc), hs), ((ta, t.length, tc), t), ((ta, t.length, tc), t), ((ha, hs.length, hc), hs)] ++ [((ta, t.length, tc), t)] : List HP), HPOk L10 x := fun x hx => by
      rcases List.mem_append.1 hx with hx | hx
      · exact (hsv6.ho x hx).le hK
      · rw [List.mem_singleton.1 hx]; exact (hsv6.ho _ (List.mem_of_getElem? hH1)).le hK
    have hmol := mostE_len own t
    have hro : ∀ x ∈ ([((la, pl.length, lc), pl), ((tsa, ts.length, tsc), ts), ((tsa, ts.length, tsc), ts), ((la, pl.length, lc), pl), ((ma, (MostE own t).1.length, mc), (MostE own t).1)] : List (Rw Stand)), RwOk L10 2 encSt x ∧ x.2.length ≤ 20 := fun x hx => by
      simp only [List.mem_cons, List.not_mem_nil, or_false] at hx
      rcases hx with rfl | rfl | rfl | rfl | rfl
      · exact ⟨⟨hpl6.le hK, rfl⟩, p20⟩
      · exact ⟨⟨hts6.le hK, rfl⟩, by show ts.length ≤ 20; omega⟩
      · exact ⟨⟨hts6.le hK, rfl⟩, by show ts.length ≤ 20; omega⟩
      · exact ⟨⟨hpl6.le hK, rfl⟩, p20⟩
      · exact ⟨⟨hmo6.le hK, rfl⟩, by show (MostE own t).1.length ≤ 20; omega⟩
    generalize hSs : ([(s, p), (own, p1), ({ own with cones := cs2 }, p2), (own, p1)] ++ [(own, p1)] : List (St × Pt)) = Ss at hss hso
    generalize hHs : ([((ha, hs.length, hc), hs), ((ta, t.length, tc), t), ((ta, t.length, tc), t), ((ha, hs.length, hc), hs)] ++ [((ta, t.length, tc), t)] : List HP) = Hs at hhs hho
    generalize hRs : ([((la, pl.length, lc), pl), ((tsa, ts.length, tsc), ts), ((tsa, ts.length, tsc), ts), ((la, pl.length, lc), pl), ((ma, (MostE own t).1.length, mc), (MostE own t).1)] : List (Rw Stand)) = Rs at hps hro
    generalize hNs : [i, (y1 : Int), (y2 : Int), i, (y3 : Int)] = Ns at hns
    have nS : Ss.length = 5 := by rw [← hSs]; rfl
    have nH : Hs.length = 5 := by rw [← hHs]; rfl
    have nR : Rs.length = 5 := by rw [← hRs]; rfl
    have nN : Ns.length = 5 := by rw [← hNs]; rfl
    clear hsv6 hpl6 hts6 hmo6 hgl6 hL6 hK9 q0 hK
    refine W.loop (fun w E B L' => ∃ k : Nat, w = 5 - k ∧ k ≤ 5 ∧ Le L10 L' ∧ E = [(14, .v (.slice (some ⟨b5, 0, none⟩) 5 cap5)), (15, .v (.slice (some ⟨b6, 0, none⟩) 5 cap6)), (21, .v (.slice (some ⟨bp, 0, none⟩) 5 5)), (22, .v (.slice (some ⟨bn, 0, none⟩) 5 5)), (23, .v (.int .i64 k))] ∧ B = [])
      ⟨0, rfl, by omega, Le.refl _, rfl, rfl⟩ (by exact ⟨rfl, rfl, rfl, rfl, rfl, trivial⟩) (by exact trivial) ?_
    rintro _ _ _ L11 ⟨k, rfl, hk, hl11, rfl, rfl⟩ again
    refine W.go 99 rfl ?_
    refine W.split rfl rfl rfl (fun e3 => W.go 99 rfl ?_) (fun e3 => W.go 99 rfl ?_)
    · have hk5 : k < 5 := by have : (k : Int) < 5 := by simpa using e3
                             omega
      obtain ⟨⟨sk, pk⟩, hx⟩ : ∃ x, Ss[k]? = some x := ⟨_, List.getElem?_eq_getElem (by omega)⟩
      obtain ⟨dk, hz⟩ : ∃ x, Ns[k]? = some x := ⟨_, List.getElem?_eq_getElem (by omega)⟩
      obtain ⟨⟨⟨hk1, hk2, hk3⟩, hks⟩, hy⟩ : ∃ x, Hs[k]? = some x := ⟨_, List.getElem?_eq_getElem (by omega)⟩
      obtain ⟨⟨⟨lk1, lk2, lk3⟩, lks⟩, hr⟩ : ∃ x, Rs[k]? = some x := ⟨_, List.getElem?_eq_getElem (by omega)⟩
      obtain ⟨hsk, sk1, sk2⟩ := (hso _ (List.mem_of_getElem? hx)).le hl11
      obtain ⟨hhk, hkl, hk20⟩ := (hho _ (List.mem_of_getElem? hy)).le hl11
      obtain ⟨hlk', lk20⟩ := hro _ (List.mem_of_getElem? hr)
      obtain ⟨hlk, lkl⟩ := hlk'.le hl11
      dsimp only at hsk sk1 sk2 hhk hkl hk20 hlk lkl lk20
      subst hkl lkl
      have hcl : L11.cell? ((Addr.mk b6 0 none).add (k * 1)) = some (.slice hk1 hks.length hk3) := by
        have := (hhs.le hl11).get hy (j := 0) (v := slV (hk1, hks.length, hk3)) rfl
        simpa using this
      have hrl : L11.cell? ((Addr.mk bp 0 none).add (k * 1)) = some (.slice lk1 lks.length lk3) := by
        have := (hps.le hl11).get hr (j := 0) (v := slV (lk1, lks.length, lk3)) rfl
        simpa using this
      obtain ⟨m1, m2⟩ := placesE_len sk hks lks dk
      have m3 : ∀ x ∈ (PlacesE sk hks lks dk).1, x.length ≤ 1000000 := fun x hx => Nat.le_trans (m2 x hx) (by omega)
      refine W.drawn (by kernel_rfl) _ (Le.refl _) ?_
      refine DD.run' [0, 1, 5, 6, 10, 11, 15] rfl ?_
      refine DD.vf 2 rfl rfl rfl rfl rfl (Vf.idx rfl rfl rfl rfl rfl rfl (hk5)) ?_
      refine DD.vf 3 rfl rfl rfl rfl rfl (Vf.loadN rfl rfl rfl ((hss.le hl11).whole hx rfl)) ?_
      refine DD.vf 7 rfl rfl rfl rfl rfl (Vf.idx rfl rfl rfl rfl rfl rfl (hk5)) ?_
      refine DD.vf 8 rfl rfl rfl rfl rfl (Vf.load rfl rfl rfl (hcl)) ?_
      refine DD.vf 12 rfl rfl rfl rfl rfl (Vf.idx rfl rfl rfl rfl rfl rfl (hk5)) ?_
      refine DD.vf 13 rfl rfl rfl rfl rfl (Vf.load rfl rfl rfl (hrl)) ?_
      refine DD.act 4 rfl rfl rfl rfl rfl (Ef.call rfl ((DupStove_sp sk pk L11 hsk (by omega) (by omega)))) ((by rintro _ _ _ ⟨_, rfl, rfl, _, _, _, _, _, rfl, g1, g2⟩; exact ⟨g1.1.trans g2.1, rfl, .inl rfl⟩)) ?_
      rintro _ _ _ ⟨_, rfl, rfl, xa, ya, z1, z2, I1, rfl, hg1, hg2⟩
      rename_i L12
      have f12 := hg1.1.trans hg2.1
      have hst12 : StAt L12 sk ⟨xa, ya, z1, z2⟩ := ⟨(hg1.at encSh_len).2.le hg2.1, (hg2.at encCo_len).2, by omega, by omega⟩
      refine DD.act 9 rfl rfl rfl rfl rfl (Ef.call rfl ((DupInts_sp hk1 hk3 hks L12 (hhk.le f12) (by omega)))) ((by rintro _ _ _ ⟨_, rfl, rfl, g3⟩; exact ⟨f12.trans g3.1, rfl, .inl rfl⟩)) ?_
      rintro _ _ _ ⟨vx, rfl, rfl, hg3⟩
      rename_i L13
      have f13 := f12.trans hg3.1
      obtain ⟨wa, wc, rfl, _⟩ := hg3.slice
      refine DD.act 14 rfl rfl rfl rfl rfl (Ef.call rfl ((DupStands_sp lk1 lk3 lks L13 (hlk.le f13) (by omega)))) ((by rintro _ _ _ ⟨_, rfl, rfl, g3⟩; exact ⟨f13.trans g3.1, rfl, .inl rfl⟩)) ?_
      rintro _ _ _ ⟨vy, rfl, rfl, hg4⟩
      rename_i L14
      have f14 := f13.trans hg4.1
      obtain ⟨ua, uc, rfl, _⟩ := hg4.slice
      refine DD.act 16 rfl rfl rfl rfl rfl (Ef.sto rfl) (by rintro _ _ _ ⟨rfl, rfl, rfl⟩; exact ⟨f14, rfl, .inl rfl⟩) ?_
      rintro _ _ L14 ⟨rfl, rfl, rfl⟩
      refine DD.run' [17, 18] rfl ?_
      refine .fin rfl ?_
      refine W.go 99 rfl ?_
      have hask : ∀ {L'}, Le L14 L' → AskAt L' sk ⟨xa, ya, z1, z2⟩ wa hks := fun hl => ⟨(hst12.le (hg3.1.trans hg4.1)).le hl, ((hg3.at encI_len).2.le hg4.1).le hl, hgl10.le (hl11.trans (f14.trans hl)), by omega⟩
      have hpa : ∀ {L'}, Le L14 L' → SlAt L' ua 2 encSt lks := fun hl => (hg4.at encSt_len).2.le hl
      have hask2 : ∀ {L'}, Le L14 L' → AskAt L' sk pk hk1 hks := fun hl => ⟨hsk.le (f14.trans hl), hhk.le (f14.trans hl), hgl10.le (hl11.trans (f14.trans hl)), by omega⟩
      have hpb : ∀ {L'}, Le L14 L' → SlAt L' lk1 2 encSt lks := fun hl => hlk.le (f14.trans hl)
      have hxs : ∀ {L'}, Le L14 L' → _ := fun {L'} hl => (hss.le (hl11.trans (f14.trans hl))).whole (L := L') hx rfl
      have hcc : ∀ {L'}, Le L14 L' → _ := fun {L'} hl => (f14.trans hl).cell (L' := L') hcl
      have hrr : ∀ {L'}, Le L14 L' → _ := fun {L'} hl => (f14.trans hl).cell (L' := L') hrl
      have hni : ∀ {L'}, Le L14 L' → _ := fun {L'} hl => (hns.le (hl11.trans (f14.trans hl))).int (L := L') hz
      refine W.drawn (by kernel_rfl) _ (Le.refl _) ?_
      refine DD.run' [0, 1, 2, 3, 4] rfl ?_
      refine DD.vf 5 rfl rfl rfl rfl rfl (Vf.idx1 rfl rfl rfl rfl rfl rfl rfl (hk5)) ?_
      refine DD.vf 6 rfl rfl rfl rfl rfl (Vf.load rfl rfl rfl (hni (Le.refl _))) ?_
      refine DD.act 7 rfl rfl rfl rfl rfl (Ef.call rfl ((Places_sp sk ⟨xa, ya, z1, z2⟩ wa ua wc uc hks lks dk L14 (hask (Le.refl _)) (hpa (Le.refl _)) (by omega)))) ((by rintro _ _ _ ⟨_, rfl, rfl, _, rfl, _, _, rfl, hl, _⟩; exact ⟨hl, rfl, .inl rfl⟩)) ?_
      rintro _ _ _ ⟨_, rfl, rfl, _, rfl, a1, c1, rfl, f15, s15⟩
      rename_i L15
      refine DD.run' [8, 9, 10, 11, 12] rfl ?_
      refine .fin rfl ?_
      refine W.go 99 rfl ?_
      refine W.drawn (by kernel_rfl) _ (Le.refl _) ?_
      refine DD.run' [0, 1, 4, 5, 8, 9, 12, 13] rfl ?_
      refine DD.vf 2 rfl rfl rfl rfl rfl (Vf.idx rfl rfl rfl rfl rfl rfl (hk5)) ?_
      refine DD.vf 3 rfl rfl rfl rfl rfl (Vf.loadN rfl rfl rfl (hxs f15)) ?_
      refine DD.vf 6 rfl rfl rfl rfl rfl (Vf.idx rfl rfl rfl rfl rfl rfl (hk5)) ?_
      refine DD.vf 7 rfl rfl rfl rfl rfl (Vf.load rfl rfl rfl (hcc f15)) ?_
      refine DD.vf 10 rfl rfl rfl rfl rfl (Vf.idx rfl rfl rfl rfl rfl rfl (hk5)) ?_
      refine DD.vf 11 rfl rfl rfl rfl rfl (Vf.load rfl rfl rfl (hrr f15)) ?_
      refine DD.vf 14 rfl rfl rfl rfl rfl (Vf.idx1 rfl rfl rfl rfl rfl rfl rfl (hk5)) ?_
      refine DD.vf 15 rfl rfl rfl rfl rfl (Vf.load rfl rfl rfl (hni f15)) ?_
      refine DD.act 16 rfl rfl rfl rfl rfl (Ef.call rfl ((rPlaces_sp sk pk hk1 lk1 hk3 lk3 hks lks dk L15 (hask2 f15) (hpb f15) (by omega)))) ((by rintro _ _ _ ⟨_, rfl, rfl, _, rfl, _, _, rfl, hl, _⟩; exact ⟨hl, rfl, .inl rfl⟩)) ?_
      rintro _ _ _ ⟨_, rfl, rfl, _, rfl, a2, c2, rfl, g16, s16⟩
      rename_i L16
      have f16 := f15.trans g16
      have s15 := s15.le g16
      refine DD.run' [17, 18, 19, 20, 21] rfl ?_
      refine .fin rfl ?_
      refine W.weak (E' := [(14, .v (.slice (some ⟨b5, 0, none⟩) 5 cap5)), (15, .v (.slice (some ⟨b6, 0, none⟩) 5 cap6)), (21, .v (.slice (some ⟨bp, 0, none⟩) 5 5)), (22, .v (.slice (some ⟨bn, 0, none⟩) 5 5)), (23, .v (.int .i64 k)), (24, .p 0 0), (25, .v (.slice wa hks.length wc)), (26, .v (.slice ua lks.length uc)), (27, .v (.slice a1 (PlacesE sk hks lks dk).1.length c1)), (28, .v (.int .i64 (PlacesE sk hks lks dk).2)), (29, .v (.slice a2 (PlacesE sk hks lks dk).1.length c2)), (30, .v (.int .i64 (PlacesE sk hks lks dk).2))]) (B' := [some ⟨cellsS (.v (stA sk ⟨xa, ya, z1, z2⟩)), 25⟩]) (by exact ⟨rfl, rfl, rfl, rfl, rfl, rfl, rfl, rfl, rfl, rfl, rfl, rfl, trivial⟩) (by exact ⟨rfl, trivial⟩) ?_
      refine W.go 99 rfl ?_
      refine W.drawn (by kernel_rfl) _ (Le.refl _) ?_
      refine DD.run' [0, 1, 2, 4, 5, 8, 9, 12, 13] rfl ?_
      refine DD.vf 6 rfl rfl rfl rfl rfl (Vf.idx rfl rfl rfl rfl rfl rfl (hk5)) ?_
      refine DD.vf 7 rfl rfl rfl rfl rfl (Vf.loadN rfl rfl rfl (hxs f16)) ?_
      refine DD.vf 10 rfl rfl rfl rfl rfl (Vf.idx rfl rfl rfl rfl rfl rfl (hk5)) ?_
      refine DD.vf 11 rfl rfl rfl rfl rfl (Vf.load rfl rfl rfl (hcc f16)) ?_
      refine DD.vf 14 rfl rfl rfl rfl rfl (Vf.idx rfl rfl rfl rfl rfl rfl (hk5)) ?_
      refine DD.vf 15 rfl rfl rfl rfl rfl (Vf.load rfl rfl rfl (hrr f16)) ?_
      refine DD.act 3 rfl rfl rfl rfl rfl (Ef.call rfl ((Right_sp sk ⟨xa, ya, z1, z2⟩ wa ua wc uc hks lks L16 (hask f16) (hpa f16) (by omega)))) ((by rintro _ _ _ ⟨_, rfl, rfl, rfl, hl⟩; exact ⟨hl, rfl, .inl rfl⟩)) ?_
      rintro _ _ _ ⟨_, rfl, rfl, rfl, g17⟩
      rename_i L17
      have f17 := f16.trans g17
      refine DD.act 16 rfl rfl rfl rfl rfl (Ef.call rfl ((rRight_sp sk pk hk1 lk1 hk3 lk3 hks lks L17 (hask2 f17) (hpb f17) (by omega)))) ((by rintro _ _ _ ⟨_, rfl, rfl, rfl, hl⟩; exact ⟨g17.trans hl, rfl, .inl rfl⟩)) ?_
      rintro _ _ _ ⟨_, rfl, rfl, rfl, g18⟩
      rename_i L18
      have g18 := g17.trans g18
      have f18 := f16.trans g18
      refine DD.run' [17, 18] rfl ?_
      rw [bne_self_eq_false]
      refine DD.split 179 rfl (fun c => absurd c (by decide)) (fun _ => ?_)
      refine DD.run' [19, 20, 21, 22, 23] rfl ?_
      rw [bne_self_eq_false]
      refine DD.split 184 rfl (fun c => absurd c (by decide)) (fun _ => ?_)
      refine DD.run' [24, 25] rfl ?_
      refine DD.act 26 rfl rfl rfl rfl rfl (Ef.call rfl ((EqLists_sp a1 a2 c1 c2 (PlacesE sk hks lks dk).1 (PlacesE sk hks lks dk).1 L18 (s15.le g18) (s16.le g18) (by omega) (by omega) m3 m3))) ((by rintro _ _ _ ⟨_, rfl, rfl, rfl, rfl⟩; exact ⟨g18, rfl, .inl rfl⟩)) ?_
      rintro _ _ _ ⟨_, rfl, rfl, rfl, rfl⟩
      rw [show decide ((PlacesE sk hks lks dk).1 = (PlacesE sk hks lks dk).1) = true from decide_eq_true rfl]
      refine DD.run' [27, 28, 29] rfl ?_
      refine DD.split 190 rfl (fun c => absurd c (by decide)) (fun _ => ?_)
      refine DD.run' [30, 31, 32] rfl ?_
      refine DD.vf 33 rfl rfl rfl rfl rfl (Vf.idx rfl rfl rfl rfl rfl rfl (hk5)) ?_
      refine DD.vf 34 rfl rfl rfl rfl rfl (Vf.loadN rfl rfl rfl (hxs f16)) ?_
      refine DD.act 35 rfl rfl rfl rfl rfl (Ef.call rfl ((EqStoves_sp sk ⟨xa, ya, z1, z2⟩ pk L18 (hask f18).st (hask2 f18).st))) ((by rintro _ _ _ ⟨_, rfl, rfl, rfl, rfl⟩; exact ⟨g18, rfl, .inl rfl⟩)) ?_
      rintro _ _ _ ⟨_, rfl, rfl, rfl, rfl⟩
      refine DD.run' [36, 37, 38] rfl ?_
      refine DD.split 199 rfl (fun c => absurd c (by decide)) (fun _ => ?_)
      refine DD.run' [39, 40, 41] rfl ?_
      refine DD.vf 42 rfl rfl rfl rfl rfl (Vf.idx rfl rfl rfl rfl rfl rfl (hk5)) ?_
      refine DD.vf 43 rfl rfl rfl rfl rfl (Vf.load rfl rfl rfl (hcc f16)) ?_
      refine DD.act 44 rfl rfl rfl rfl rfl (Ef.call rfl ((EqInts_sp wa hk1 wc hk3 hks hks L18 (hask f18).he (hask2 f18).he (by omega) (by omega)))) ((by rintro _ _ _ ⟨_, rfl, rfl, rfl, rfl⟩; exact ⟨g18, rfl, .inl rfl⟩)) ?_
      rintro _ _ _ ⟨_, rfl, rfl, rfl, rfl⟩
      rw [show decide (hks = hks) = true from decide_eq_true rfl]
      refine DD.run' [45, 46, 47] rfl ?_
      refine DD.split 208 rfl (fun c => absurd c (by decide)) (fun _ => ?_)
      refine DD.run' [48, 49, 50] rfl ?_
      refine DD.vf 51 rfl rfl rfl rfl rfl (Vf.idx rfl rfl rfl rfl rfl rfl (hk5)) ?_
      refine DD.vf 52 rfl rfl rfl rfl rfl (Vf.load rfl rfl rfl (hrr f16)) ?_
      refine DD.act 53 rfl rfl rfl rfl rfl (Ef.call rfl ((EqStands_sp ua lk1 uc lk3 lks lks L18 (hpa f18) (hpb f18) (by omega) (by omega)))) ((by rintro _ _ _ ⟨_, rfl, rfl, rfl, rfl⟩; exact ⟨g18, rfl, .inl rfl⟩)) ?_
      rintro _ _ _ ⟨_, rfl, rfl, rfl, rfl⟩
      rw [show decide (lks = lks) = true from decide_eq_true rfl]
      refine DD.run' [54, 55] rfl ?_
      refine .fin rfl ?_
      refine W.go 99 rfl ?_
      refine W.split rfl rfl rfl (fun c => absurd c (by decide)) (fun c => ?_)
      refine W.go 99 rfl ?_
      exact W.again (again _ _ _ _ (by omega) ⟨k + 1, rfl, by omega, hl11.trans (f14.trans f18), rfl, rfl⟩) (by exact ⟨rfl, rfl, rfl, rfl, congrArg some (inc64 (by omega)), trivial⟩) (by exact trivial)
    · refine W.eff rfl rfl rfl (Ef.call rfl (drd L11 (hgl10.le hl11))) ?_
      rintro _ _ _ ⟨_, rfl, rfl, rfl, hdm⟩
      refine W.go 99 rfl ?_
      exact W.retO r rfl ⟨rfl, (Dim.of_le (hL10.trans hl11)).trans hdm⟩
end Go.Mz

