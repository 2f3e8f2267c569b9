/- Lemmas on which the claim leans. -/
import Derived.Test.YtnhckcgdmolgcaaGreatDoorMzAv
set_option maxRecDepth 100000
namespace Go.Mz
open Go.Conc Go.Proofs
variable {X : Logic Tryz.prog}
theorem rLost_sp (s : St) (p : Pt) (ha : Option Addr) (hc : Nat) (hs : List Int) (L : LH) (h : AskAt L s p ha hs) :
  Sp X 69 [stA s p, .slice ha hs.length hc] L (fun v L' => ∃ u, v = .tuple #[u, .int .i64 (askE s hs)] ∧ NewSl L 1 encI (if askE s hs = 0 then (lostS s hs).map (fun (n : Nat) => (n : Int)) else []) u L') := by
 refine Sp.enter (n := 33) Tryz.func69 rfl rfl rfl rfl fun C hX _ hL0 r => ?_
 refine W.go 99 rfl ?_
 refine W.eff rfl rfl rfl (Ef.call rfl (asked_sp s p ha hc hs L h)) ?_
 rintro _ _ _ ⟨_, rfl, rfl, rfl, rfl⟩
 refine W.go 99 rfl ?_
 refine W.split rfl rfl rfl (fun e1 => W.go 99 rfl ?_) (fun e1 => W.go 99 rfl ?_)
 ·refine W.ret r rfl rfl ?_
  rw [if_neg (by simpa using e1)]
  exact ⟨_, rfl, none, 0, rfl, Le.refl _, fun i x hx => by simp at hx, Nat.le_refl _⟩
 have h1 : askE s hs = 0 := by simpa using e1
 obtain ⟨hok, hhk⟩ := ask_ok h1
 have hc3 := hok.c3
 refine W.loop (fun m E B L' => ∃ (i : Nat) (v : Value), m = s.cones.length - i ∧ i ≤ s.cones.length ∧ Grow L 1 3 encI L' v (natI ((List.range i).filter (lostB s hs))) ∧
   E = [(1, .v (.slice ha hs.length hc)), (2, .p 0 0), (7, .v v), (8, .v (.int .i64 i))] ∧ B = [some ⟨cellsS (.v (stA s p)), 25⟩])
  ⟨0, .slice none 0 0, rfl, by omega, Grow.nil (Le.refl _), rfl, rfl⟩ (by exact ⟨rfl, rfl, rfl, rfl, trivial⟩) (by exact ⟨rfl, trivial⟩) ?_
 rintro _ _ _ L1 ⟨i, v, rfl, hi, hg, rfl, rfl⟩ again
 refine W.go 99 rfl ?_
 refine W.split rfl rfl rfl (fun e2 => W.go 99 rfl ?_) (fun e2 => W.go 99 rfl ?_)
 ·have hil : i < s.cones.length := by simpa using e2
  have hfil : (List.range (i + 1)).filter (lostB s hs) = (List.range i).filter (lostB s hs) ++ if lostB s hs i then [i] else [] := by
   rw [List.range_succ, List.filter_append]
   congr 1
   cases hh : lostB s hs i <;> simp [hh]
  have hlb : lostB s hs i = (standsS s hs s.cones[i]).isEmpty := by unfold lostB; rw [List.getElem?_eq_getElem hil]
  refine W.eff rfl rfl rfl (Ef.call rfl (rStands_sp s p ha hc hs s.cones[i] i L1 (h.le hg.1) hok hhk (List.getElem?_eq_getElem hil))) ?_
  rintro _ _ _ ⟨_, rfl, rfl, hg2⟩
  obtain ⟨ad, cap, rfl, _⟩ := hg2.slice
  have hg3 := hg.le hg2.1
  refine W.go 99 rfl ?_
  refine W.split rfl rfl rfl (fun e3 => W.go 99 rfl ?_) (fun e3 => W.go 99 rfl ?_)
  ·have hy : lostB s hs i = true := by
    rw [hlb]
    cases hh : standsS s hs s.cones[i] with
    | nil => rfl
    | cons _ _ => rw [hh] at e3; simp at e3; omega
   refine W.eff rfl rfl rfl (Ef.grow rfl rfl rfl rfl rfl rfl rfl rfl rfl encI_len encI_sg hg3 (ls := [(i : Int)]) (.own rfl rfl rfl rfl) (by have := List.length_filter_le (lostB s hs) (List.range i); simp [natI] at this ⊢; omega)) ?_
   rintro _ _ _ ⟨v', rfl, rfl, hg', _⟩
   refine W.go 99 rfl ?_
   have hg4 : Grow L 1 3 encI _ v' _ := hg'
   exact W.again (again _ _ _ _ (by omega) ⟨i + 1, v', rfl, by omega, by rw [hfil, hy]; simpa [natI] using hg4, rfl, rfl⟩) ⟨rfl, rfl, rfl, congrArg some (inc64 (by omega)), trivial⟩ ⟨rfl, trivial⟩
  ·have hy : lostB s hs i = false := by
    rw [hlb]
    cases hh : standsS s hs s.cones[i] with
    | nil => rw [hh] at e3; simp at e3
    | cons _ _ => rfl
   exact W.again (again _ _ _ _ (by omega) ⟨i + 1, v, rfl, by omega, by rw [hfil, hy]; simpa using hg3, rfl, rfl⟩) ⟨rfl, rfl, rfl, congrArg some (inc64 (by omega)), trivial⟩ ⟨rfl, trivial⟩
 ·have hie : i = s.cones.length := by simp at e2; omega
  refine W.ret r rfl rfl ?_
  rw [if_pos h1, h1]
  subst hie
  exact ⟨_, rfl, hg.new_sl encI_len⟩
end Go.Mz


set_option maxRecDepth 100000
namespace Go.Mz
open Go Go.Conc Go.Proofs
def plansG (s : St) (hs : List Int) (each : Bool) (b : List Stand) : List (List Stand) := if fitsS s hs b then grow (fitsS s hs) ((optsS s hs allC each).drop b.length) b else []
section
variable {s : St} {hs : List Int} {each : Bool} {b : List Stand}
theorem plansG_no (h : fitsS s hs b = false) : plansG s hs each b = [] := by unfold plansG; rw [h]; rfl
theorem plansG_end (h : fitsS s hs b = true) (hb : s.cones.length ≤ b.length) : plansG s hs each b = [b] := by
 unfold plansG
 rw [if_pos h, List.drop_of_length_le (by rw [opts_len]; exact hb)]
 rfl
theorem plansG_step (h : fitsS s hs b = true) {c : Cone} (hc : s.cones[b.length]? = some c) : plansG s hs each b = (optS s hs true each c).flatMap fun a => plansG s hs each (b ++ [a]) := by
 have hi := (List.getElem?_eq_some_iff.1 hc).1
 have ho : (optsS s hs allC each)[b.length]? = some (optS s hs true each c) := opts_get hc
 have hl : b.length < (optsS s hs allC each).length := (List.getElem?_eq_some_iff.1 ho).1
 have hg : (optsS s hs allC each)[b.length] = optS s hs true each c := Option.some.inj ((List.getElem?_eq_getElem hl).symm.trans ho)
 unfold plansG
 rw [if_pos h, List.drop_eq_getElem_cons hl, hg]
 simp only [grow, List.length_append, List.length_cons, List.length_nil, Nat.zero_add]
theorem plansG_nil (h : Ok s) : plansG s hs each [] = plansS s hs allC each := by
 unfold plansG plansS
 rw [if_pos (fits_nil h hs), List.length_nil, List.drop_zero]
end
def heatsG (s : St) (b : List Int) : List (List Int) := (heatsAll s.top s.rise (s.days.toNat - b.length) (b.getLast?.getD s.now)).map (b ++ ·)
section
variable {s : St} {b : List Int}
end
def fireStep (s : St) (b : Option (List Int)) (x : List Int) : Option (List Int) := if canS s x then takeLess sumL b x else b
end Go.Mz


set_option maxRecDepth 100000
namespace Go.Mz
open Go
theorem grow_len {fit : List Stand → Bool} {k : Nat} : ∀ {os : List (List Stand)} {b : List Stand}, (∀ o ∈ os, o.length ≤ k) → (grow fit os b).length ≤ k ^ os.length
 | [], b, _ => by simp [grow]
 | o :: os, b, h => by
  simp only [grow]
  have h1 := h o (List.mem_cons_self ..)
  have h2 : ∀ a ∈ o, (if fit (b ++ [a]) then grow fit os (b ++ [a]) else []).length ≤ k ^ os.length := fun a _ => by
   split
   ·exact grow_len fun x hx => h x (List.mem_cons_of_mem _ hx)
   ·simp
  have h3 := flatMap_le o h2
  rw [List.length_cons, Nat.pow_succ, Nat.mul_comm]
  exact Nat.le_trans h3 (Nat.mul_le_mul_right _ h1)
section
variable {s : St} {hs : List Int}
theorem opt_len (h : Ok s) {so each : Bool} {c : Cone} : (optS s hs so each c).length ≤ 13 := by
 unfold optS
 rw [List.length_append]
 have h1 := grid_len h
 have h2 : (standsS s hs c).length ≤ (grid s).length := List.length_filter_le ..
 split <;> split <;> simp <;> omega
theorem plansG_len (h : Ok s) {each : Bool} {b : List Stand} : (plansG s hs each b).length ≤ 2197 := by
 unfold plansG
 split
 ·have h1 : ((optsS s hs allC each).drop b.length).length ≤ 3 := by rw [List.length_drop, opts_len]; have := h.c3; omega
  have h2 := grow_len (fit := fitsS s hs) (k := 13) (os := (optsS s hs allC each).drop b.length) (b := b) (fun o ho => by
   have := List.mem_of_mem_drop ho
   unfold optsS at this
   obtain ⟨x, _, rfl⟩ := List.mem_map.1 this
   exact opt_len h)
  have h3 : 13 ^ ((optsS s hs allC each).drop b.length).length ≤ 13 ^ 3 := Nat.pow_le_pow_right (by omega) h1
  omega
 ·simp
theorem plans_lenX (h : Ok s) {each : Bool} : (plansS s hs allC each).length ≤ 2197 := by rw [← plansG_nil h]; exact plansG_len h
end
theorem best_next {α : Type} {f : α → Int} {l : List α} {i b : Nat} {x y : α} (hx : l[i]? = some x) (hy : l[b]? = some y) (h : (i = 0 ∧ b = 0) ∨ firstMin f (l.take i) = some y) : firstMin f (l.take (i + 1)) = some (if f x < f y then x else y) := by
 have ht : l.take (i + 1) = l.take i ++ [x] := by
  obtain ⟨hi, rfl⟩ := List.getElem?_eq_some_iff.1 hx
  exact List.take_succ_eq_append_getElem hi
 rw [ht, firstMin_add]
 rcases h with ⟨rfl, rfl⟩ | h
 ·rw [hx] at hy; cases hy
  simp [firstMin, takeLess]
 ·rw [h]; unfold takeLess; simp only; split <;> rfl
def pickL (n : Nat) : Nat → Nat → List (List Nat)
 | 0, _ => [[]]
 | m + 1, first => (List.range' first (n - first)).flatMap fun i => (pickL n m (i + 1)).map (i :: ·)
end Go.Mz


namespace Go.Mz
open Go
theorem mem_grow {fit : List Stand → Bool} : ∀ {os : List (List Stand)} {b x : List Stand}, x ∈ grow fit os b ↔ ∃ t, x = b ++ t ∧ t.length = os.length ∧ (∀ (i : Nat) (o : List Stand) (a : Stand), os[i]? = some o → t[i]? = some a → a ∈ o) ∧ ∀ i, i < t.length → fit (b ++ t.take (i + 1)) = true
 | [], b, x => by
  simp only [grow, List.mem_singleton]
  constructor
  ·rintro rfl; exact ⟨[], by simp, rfl, fun i o a h => by simp at h, fun i h => by simp at h⟩
  ·rintro ⟨t, rfl, h, _⟩
   obtain rfl := List.length_eq_zero_iff.1 h
   simp
 | o :: os, b, x => by
  simp only [grow, List.mem_flatMap]
  constructor
  ·rintro ⟨a, ha, hx⟩
   by_cases hf : fit (b ++ [a]) = true
   ·rw [if_pos hf] at hx
    obtain ⟨t, rfl, h1, h2, h3⟩ := mem_grow.1 hx
    refine ⟨a :: t, by simp, by simp [h1], fun i o' a' ho ha' => ?_, fun i hi => ?_⟩
    ·cases i with
     | zero => simp at ho ha'; subst ho; subst ha'; exact ha
     | succ i => exact h2 i o' a' (by simpa using ho) (by simpa using ha')
    ·cases i with
     | zero => simpa using hf
     | succ i => have := h3 i (by simpa using hi); simpa using this
   ·rw [if_neg hf] at hx; cases hx
  ·rintro ⟨t, rfl, h1, h2, h3⟩
   cases t with
   | nil => simp at h1
   | cons a t =>
    have hf : fit (b ++ [a]) = true := by have := h3 0 (by simp); simpa using this
    refine ⟨a, h2 0 o a rfl rfl, ?_⟩
    rw [if_pos hf]
    refine mem_grow.2 ⟨t, by simp, by simpa using h1, fun i o' a' ho ha' => h2 (i + 1) o' a' (by simpa using ho) (by simpa using ha'), fun i hi => ?_⟩
    have := h3 (i + 1) (by simpa using hi)
    simpa using this
theorem filter_le {α : Type} {p q : α → Bool} {l : List α} (h : ∀ x ∈ l, p x = true → q x = true) : (l.filter p).length ≤ (l.filter q).length := by
 rw [← List.countP_eq_length_filter, ← List.countP_eq_length_filter]
 exact List.countP_mono_left h
theorem fits_iff {s : St} {hs : List Int} {l : List Stand} : fitsS s hs l = true ↔ ∀ k, k < s.shelves.length → ∀ d, d < s.days.toNat → ((onS s hs l k d).length : Int) ≤ roomOf s k := by
 unfold fitsS
 simp only [List.all_eq_true, List.mem_range, decide_eq_true_eq]
theorem on_mono {s : St} {hs : List Int} {l m : List Stand} {k d : Nat} : (onS s hs l k d).length ≤ (onS s hs (l ++ m) k d).length := by
 unfold onS
 refine filter_le fun i _ h => ?_
 unfold onB at h ⊢
 cases hl : l[i]? with
 | none => rw [hl] at h; cases h
 | some a =>
  have : (l ++ m)[i]? = some a := by rw [List.getElem?_append_left (List.getElem?_eq_some_iff.1 hl).1]; exact hl
  rw [hl] at h
  rw [this]
  exact h
theorem fits_pre {s : St} {hs : List Int} {l m : List Stand} (h : fitsS s hs (l ++ m) = true) : fitsS s hs l = true := by
 rw [fits_iff] at h ⊢
 intro k hk d hd
 have h1 := h k hk d hd
 have h2 := on_mono (s := s) (hs := hs) (l := l) (m := m) (k := k) (d := d)
 omega
theorem mem_plans {s : St} (h : Ok s) {hs : List Int} {so : Nat → Bool} {each : Bool} {x : List Stand} :
  x ∈ plansS s hs so each ↔ x.length = s.cones.length ∧ (∀ (i : Nat) (c : Cone) (a : Stand), s.cones[i]? = some c → x[i]? = some a → a ∈ optS s hs (so i) each c) ∧ fitsS s hs x = true := by
 unfold plansS
 rw [mem_grow]
 constructor
 ·rintro ⟨t, ht, h1, h2, h3⟩
  have ht : x = t := by simpa using ht
  subst ht
  rw [opts_len] at h1
  refine ⟨h1, fun i c a hc ha => h2 i _ a (opts_get hc) ha, ?_⟩
  cases ht : x.length with
  | zero =>
   obtain rfl := List.length_eq_zero_iff.1 ht
   exact fits_nil h hs
  | succ m =>
   have := h3 m (by omega)
   rw [List.take_of_length_le (by omega)] at this
   exact this
 ·rintro ⟨h1, h2, h3⟩
  refine ⟨x, rfl, by rw [opts_len]; exact h1, fun i o a ho ha => ?_, fun i hi => ?_⟩
  ·have hi : i < s.cones.length := by
    have := (List.getElem?_eq_some_iff.1 ho).1
    rw [opts_len] at this; exact this
   have hc : s.cones[i]? = some s.cones[i] := List.getElem?_eq_getElem hi
   rw [opts_get hc] at ho
   cases ho
   exact h2 i _ a hc ha
  ·refine fits_pre (m := x.drop (i + 1)) ?_
   rw [List.nil_append, List.take_append_drop]
   exact h3
theorem most_mem {s : St} (h : Ok s) (hs : List Int) : mostS s hs ∈ plansS s hs allC false := by
 obtain ⟨y, hy⟩ := firstMin_some (f := fun p => - cnt p) (plans_ne h hs allC)
 unfold mostS
 rw [hy]
 exact firstMin_mem hy
theorem most_max {s : St} (h : Ok s) {hs : List Int} {x : List Stand} (hx : x ∈ plansS s hs allC false) : cnt x ≤ cnt (mostS s hs) := by
 obtain ⟨y, hy⟩ := firstMin_some (f := fun p => - cnt p) (plans_ne h hs allC)
 have := firstMin_le hy x hx
 unfold mostS
 rw [hy]
 simp only [Option.getD_some]
 omega
end Go.Mz


namespace Go.Mz
open Go
structure Harder (c c' : Cone) : Prop where
 cold : c.cold ≤ c'.cold
 jump : c.jump ≤ c'.jump
 most : c.most ≤ c'.most
 wet : c'.wet ≤ c.wet
theorem Harder.refl (c : Cone) : Harder c c := ⟨Int.le_refl _, Int.le_refl _, Int.le_refl _, Int.le_refl _⟩
structure Wider (s s' : St) : Prop where
 sh : s'.shelves.length = s.shelves.length
 lift : ∀ k, liftOf s' k = liftOf s k
 room : ∀ k, k < s.shelves.length → roomOf s k ≤ roomOf s' k
 days : s'.days = s.days
 len : s'.cones.length = s.cones.length
 co : ∀ (i : Nat) c c', s.cones[i]? = some c → s'.cones[i]? = some c' → Harder c c'
theorem opt_dry {s : St} {hs : List Int} {so each : Bool} {c : Cone} {a : Stand} (h : a ∈ optS s hs so each c) : a = none1 ∨ (a ∈ grid s ∧ (fateS s hs c a).1 = 0) := by
 unfold optS at h
 rcases List.mem_append.1 h with h | h
 ·left
  split at h
  ·exact List.mem_singleton.1 h
  ·cases h
 ·right
  split at h
  ·have := List.mem_filter.1 h; exact ⟨this.1, by simpa using this.2⟩
  ·cases h
end Go.Mz


namespace Go.Mz
open Go
structure Renum (s s' : St) (σ : Nat → Nat) : Prop where
 sh : s'.shelves.length = s.shelves.length
 rng : ∀ k, k < s.shelves.length → σ k < s.shelves.length
 inj : ∀ j k, j < s.shelves.length → k < s.shelves.length → σ j = σ k → j = k
 sur : ∀ k, k < s.shelves.length → ∃ j, j < s.shelves.length ∧ σ j = k
 get : ∀ k, k < s.shelves.length → s'.shelves[σ k]? = s.shelves[k]?
 days : s'.days = s.days
 cones : s'.cones = s.cones
def mapSt (σ : Nat → Nat) (a : Stand) : Stand := if a.shelf < 0 then a else ⟨(σ a.shelf.toNat : Nat), a.day⟩
theorem map_none (σ : Nat → Nat) : mapSt σ none1 = none1 := rfl
theorem mem_grid {s : St} {a : Stand} : a ∈ grid s ↔ ∃ k d : Nat, k < s.shelves.length ∧ d < s.days.toNat ∧ a = ⟨k, d⟩ := by
 unfold grid
 simp only [List.mem_flatMap, List.mem_map, List.mem_range]
 constructor
 ·rintro ⟨k, hk, d, hd, rfl⟩; exact ⟨k, d, hk, hd, rfl⟩
 ·rintro ⟨k, d, hk, hd, rfl⟩; exact ⟨k, hk, d, hd, rfl⟩
theorem map_grid (σ : Nat → Nat) (k d : Nat) : mapSt σ ⟨k, d⟩ = ⟨(σ k : Nat), d⟩ := by
 unfold mapSt
 rw [if_neg (by simp only; omega)]
 simp
theorem Renum.lift {s s' : St} {σ : Nat → Nat} (r : Renum s s' σ) {k : Nat} (hk : k < s.shelves.length) : liftOf s' (σ k : Nat) = liftOf s (k : Nat) := by
 unfold liftOf
 simp only [Int.toNat_natCast]
 rw [r.get k hk]
theorem Renum.fate {s s' : St} {σ : Nat → Nat} (r : Renum s s' σ) {k : Nat} (hk : k < s.shelves.length) (hs : List Int) (c : Cone) (d : Nat) : fateS s' hs c ⟨(σ k : Nat), d⟩ = fateS s hs c ⟨k, d⟩ := by
 unfold fateS
 simp only
 rw [r.lift hk]
theorem Renum.plans {s s' : St} {σ : Nat → Nat} (r : Renum s s' σ) (h : Ok s) (h' : Ok s') {hs : List Int} {so : Nat → Bool} {each : Bool} {x : List Stand} (hx : x ∈ plansS s hs so each) : x.map (mapSt σ) ∈ plansS s' hs so each := by
 obtain ⟨h1, h2, h3⟩ := (mem_plans h).1 hx
 refine (mem_plans h').2 ⟨by rw [r.cones]; simpa using h1, fun i c a hc ha => ?_, ?_⟩
 ·rw [r.cones] at hc
  rw [List.getElem?_map] at ha
  obtain ⟨a0, ha0, rfl⟩ := Option.map_eq_some_iff.1 ha
  have := h2 i c a0 hc ha0
  unfold optS at this ⊢
  rcases List.mem_append.1 this with this | this
  ·refine List.mem_append_left _ ?_
   split at this
   ·rename_i hh
    rw [if_pos hh]
    rw [List.mem_singleton.1 this]
    exact List.mem_singleton.2 rfl
   ·cases this
  ·refine List.mem_append_right _ ?_
   split at this
   ·rename_i hso
    rw [if_pos hso]
    obtain ⟨g1, g2⟩ := List.mem_filter.1 this
    obtain ⟨k, d, hk, hd, rfl⟩ := mem_grid.1 g1
    rw [map_grid]
    refine List.mem_filter.2 ⟨mem_grid.2 ⟨σ k, d, by rw [r.sh]; exact r.rng k hk, by rw [r.days]; exact hd, rfl⟩, ?_⟩
    rw [r.fate hk]
    exact g2
   ·cases this
 ·rw [fits_iff] at h3 ⊢
  intro k' hk' d hd
  rw [r.sh] at hk'
  rw [r.days] at hd
  obtain ⟨k, hk, rfl⟩ := r.sur k' hk'
  have hon : onS s' hs (x.map (mapSt σ)) (σ k) d = onS s hs x k d := by
   unfold onS
   rw [r.cones]
   refine List.filter_congr fun i hi => ?_
   have hi := List.mem_range.1 hi
   have hc : s.cones[i]? = some s.cones[i] := List.getElem?_eq_getElem hi
   unfold onB
   rw [r.cones, hc, List.getElem?_map]
   cases ha : x[i]? with
   | none => rfl
   | some a =>
    simp only [Option.map_some]
    rcases opt_dry (h2 i _ a hc ha) with rfl | ⟨hg, _⟩
    ·have e1 : ((mapSt σ none1).shelf == ((σ k : Nat) : Int)) = false := by rw [map_none]; simp [none1]
     have e2 : (none1.shelf == ((k : Nat) : Int)) = false := by simp [none1]
     rw [e1, e2]; simp
    ·obtain ⟨j, e, hj, he, rfl⟩ := mem_grid.1 hg
     rw [map_grid, r.fate hj]
     have e1 : (((σ j : Nat) : Int) == ((σ k : Nat) : Int)) = ((j : Int) == (k : Int)) := by
      by_cases e : j = k
      ·subst e; simp
      ·have : σ j ≠ σ k := fun g => e (r.inj j k hj hk g)
       rw [beq_eq_false_iff_ne.2 (by omega), beq_eq_false_iff_ne.2 (by omega)]
     rw [e1]
  have hr : roomOf s' (σ k) = roomOf s k := by unfold roomOf; rw [r.get k hk]
  rw [hon, hr]
  exact h3 k hk d hd
theorem cnt_map {s : St} (h : Ok s) {hs : List Int} {so : Nat → Bool} {each : Bool} {x : List Stand} (hx : x ∈ plansS s hs so each) (σ : Nat → Nat) : cnt (x.map (mapSt σ)) = cnt x := by
 unfold cnt
 rw [List.countP_map]
 congr 1
 refine List.countP_congr fun a ha => ?_
 simp only [Function.comp, decide_eq_true_eq]
 unfold mapSt
 split
 ·rfl
 ·rename_i hh
  constructor
  ·intro _; omega
  ·intro _; simp only; omega
theorem Renum.inv {s s' : St} {σ : Nat → Nat} (r : Renum s s' σ) : ∃ τ, Renum s' s τ := by
 classical
 have hc : ∀ k, ∃ j, k < s.shelves.length → j < s.shelves.length ∧ σ j = k := fun k => by
  by_cases hk : k < s.shelves.length
  ·obtain ⟨j, hj⟩ := r.sur k hk; exact ⟨j, fun _ => hj⟩
  ·exact ⟨0, fun h => absurd h hk⟩
 obtain ⟨τ, hτ⟩ := Classical.axiomOfChoice hc
 refine ⟨τ, r.sh.symm, fun k hk => ?_, fun j k hj hk e => ?_, fun k hk => ?_, fun k hk => ?_, r.days.symm, r.cones.symm⟩
 ·rw [r.sh] at hk ⊢; exact (hτ k hk).1
 ·rw [r.sh] at hj hk; rw [← (hτ j hj).2, ← (hτ k hk).2, e]
 ·rw [r.sh] at hk ⊢
  exact ⟨σ k, r.rng k hk, r.inj _ _ (hτ _ (r.rng k hk)).1 hk (hτ _ (r.rng k hk)).2⟩
 ·rw [r.sh] at hk
  have := r.get (τ k) (hτ k hk).1
  rw [(hτ k hk).2] at this
  exact this.symm
theorem Renum.most {s s' : St} {σ : Nat → Nat} (r : Renum s s' σ) (h : Ok s) (h' : Ok s') (hs : List Int) : cnt (mostS s hs) = cnt (mostS s' hs) := by
 have key : ∀ {s s' : St} {σ : Nat → Nat}, Renum s s' σ → Ok s → Ok s' → cnt (mostS s hs) ≤ cnt (mostS s' hs) := fun {s s' σ} r h h' => by
  have h1 := most_mem h hs
  rw [← cnt_map h h1 σ]
  exact most_max h' (r.plans h h' h1)
 obtain ⟨τ, rτ⟩ := r.inv
 have h1 := key r h h'
 have h2 := key rτ h' h
 omega
theorem Renum.can {s s' : St} {σ : Nat → Nat} (r : Renum s s' σ) (h : Ok s) (h' : Ok s') (hs : List Int) : canS s hs = canS s' hs := by
 have key : ∀ {s s' : St} {σ : Nat → Nat}, Renum s s' σ → Ok s → Ok s' → canS s hs = true → canS s' hs = true := fun {s s' σ} r h h' hc => by
  unfold canS at hc ⊢
  cases hp : plansS s hs allC true with
  | nil => rw [hp] at hc; simp at hc
  | cons x l =>
   have hx : x ∈ plansS s hs allC true := by rw [hp]; exact List.mem_cons_self ..
   have := r.plans h h' hx
   cases hp' : plansS s' hs allC true with
   | nil => rw [hp'] at this; cases this
   | cons _ _ => rfl
 obtain ⟨τ, rτ⟩ := r.inv
 cases h1 : canS s hs with
 | true => exact (key r h h' h1).symm
 | false =>
  cases h2 : canS s' hs with
  | false => rfl
  | true => rw [key rτ h' h h2] at h1; cases h1
theorem Renum.fire {s s' : St} {σ : Nat → Nat} (r : Renum s s' σ) (h : Ok s) (h' : Ok s') (e : s'.top = s.top ∧ s'.rise = s.rise ∧ s'.now = s.now) : fireS s' = fireS s := by
 unfold fireS heatsS
 rw [e.1, e.2.1, e.2.2, r.days]
 congr 1
 exact List.filter_congr fun x _ => (r.can h h' x).symm
end Go.Mz


set_option maxRecDepth 100000
namespace Go.Mz
open Go.Conc Go.Proofs
abbrev Rw (α : Type) := Rf × List α
def encRw {α : Type} (x : Rw α) : List Value := [slV x.1]
theorem encRw_len {α : Type} (x : Rw α) : (encRw x).length = 1 := rfl
theorem encRw_sg {α : Type} (x : Rw α) : ∀ u ∈ encRw x, single u = true := fun u hu => by rw [List.mem_singleton.1 hu]; rfl
structure RwOk {α : Type} (L : LH) (k : Nat) (enc : α → List Value) (x : Rw α) : Prop where
 sl : SlAt L x.1.1 k enc x.2
 len : x.1.2.1 = x.2.length
theorem RwOk.le {α : Type} {L L' : LH} {k : Nat} {enc : α → List Value} {x : Rw α} (h : RwOk L k enc x) (hl : Le L L') : RwOk L' k enc x := ⟨h.sl.le hl, h.len⟩
def RowsAt {α : Type} (L : LH) (ad : Option Addr) (k : Nat) (enc : α → List Value) (ls : List (List α)) : Prop := ∃ rs : List (Rw α), rs.map Prod.snd = ls ∧ SlAt L ad 1 encRw rs ∧ ∀ x ∈ rs, RwOk L k enc x
def GrowL {α : Type} (I : LH) (e k : Nat) (enc : α → List Value) (L : LH) (v : Value) (ls : List (List α)) : Prop := ∃ J, ∃ rs : List (Rw α), Le I J ∧ rs.map Prod.snd = ls ∧ Grow J 1 e encRw L v rs ∧ ∀ x ∈ rs, RwOk J k enc x
section
variable {β : Type} {F F' I L L' L2 : LH} {e k : Nat} {enc : β → List Value} {v : Value} {l : List β}
theorem Grow.foot {ad : Option Addr} {len cap : Nat} (h : Grow I k e enc L (.slice ad len cap) l) (hk : ∀ x, (enc x).length = k) (hF : Le F I) : ∃ F', Le F F' ∧ Le F' L ∧ SlAt F' ad k enc l ∧ ∀ b, F' b ≠ none → F b ≠ none ∨ I b = none := by
 obtain ⟨hI, ob, ho, hn⟩ := h
 obtain ⟨ad', cap', e1, -⟩ := ho.slice
 cases e1
 classical
 refine ⟨fun b => if ob = some b then L b else F b, fun b x hx => ?_, fun b x hx => ?_, (ho.keep (L' := fun b => if ob = some b then L b else F b) fun b hb => ?_).at hk, fun b hb => ?_⟩
 ·simp only
  split
  ·rename_i e2; have := hF _ _ hx; rw [hn b e2] at this; cases this
  ·exact hx
 ·simp only at hx
  split at hx
  ·exact hx
  ·exact hI _ _ (hF _ _ hx)
 ·rw [if_pos hb]
 ·simp only at hb
  split at hb
  ·rename_i e2; exact .inr (hn b e2)
  ·exact .inl hb
theorem Own.some_blk {v : Value} {n : Nat} {cs : List Value} {ob : Option Nat} (h : Own L k e v n cs ob) {b : Nat} (hb : ob = some b) : L b ≠ none := by subst hb; exact h.blk
theorem Grow.rebase (h : Grow F k e enc L v l) (hl : Le L L') (hF : Le F' L') (hn : ∀ b, F' b ≠ none → F b ≠ none ∨ L b = none) : Grow F' k e enc L' v l := by
 obtain ⟨_, ob, ho, hf⟩ := h
 refine ⟨hF, ob, ho.le hl, fun b hb => ?_⟩
 cases hx : F' b with
 | none => rfl
 | some y =>
  rcases hn b (by rw [hx]; simp) with e1 | e1
  ·exact absurd (hf b hb) e1
  ·exact absurd e1 (ho.some_blk hb)
theorem Grow.call (h : Grow F k e enc L v l) (p : Post F L F' L2) : Grow F' k e enc L2 v l := by
 obtain ⟨_, ob, ho, hf⟩ := h
 refine ⟨p.le, ob, ho.keep fun b hb => ?_, fun b hb => ?_⟩
 ·cases hx : L b with
  | none => exact absurd hx (ho.some_blk hb)
  | some y => exact p.keep b y (hf b hb) hx
 ·cases hx : F' b with
  | none => rfl
  | some y =>
   rcases p.fresh b (by rw [hx]; simp) with e1 | e1
   ·exact absurd (hf b hb) e1
   ·exact absurd e1 (ho.some_blk hb)
end
section
variable {α : Type} {I L L' : LH} {e k : Nat} {enc : α → List Value} {v : Value} {ls : List (List α)}
theorem GrowL.hle (h : GrowL I e k enc L v ls) : Le I L := let ⟨_, _, h1, _, h, _⟩ := h; h1.trans h.1
theorem GrowL.le (h : GrowL I e k enc L v ls) (hl : Le L L') : GrowL I e k enc L' v ls := let ⟨J, rs, h0, h1, h2, h3⟩ := h; ⟨J, rs, h0, h1, h2.le hl, h3⟩
theorem GrowL.less {I' : LH} (h : GrowL I e k enc L v ls) (hl : Le I' I) : GrowL I' e k enc L v ls := let ⟨J, rs, h0, h1, h2, h3⟩ := h; ⟨J, rs, hl.trans h0, h1, h2, h3⟩
theorem GrowL.nil (h : Le I L) : GrowL I e k enc L (.slice none 0 0) ([] : List (List α)) := ⟨L, [], h, rfl, Grow.nil (Le.refl _), fun x hx => by cases hx⟩
theorem GrowL.slice (h : GrowL I e k enc L v ls) : ∃ ad cap, v = .slice ad ls.length cap := by
 obtain ⟨J, rs, _, rfl, h2, _⟩ := h
 obtain ⟨ad, cap, rfl, -⟩ := h2.slice
 exact ⟨ad, cap, by rw [List.length_map]⟩
theorem GrowL.at {ad : Option Addr} {len cap : Nat} (h : GrowL I e k enc L (.slice ad len cap) ls) : len = ls.length ∧ RowsAt L ad k enc ls := by
 obtain ⟨J, rs, _, rfl, h2, h3⟩ := h
 obtain ⟨rfl, h4⟩ := h2.at encRw_len
 exact ⟨(List.length_map ..).symm, rs, rfl, h4, fun x hx => (h3 x hx).le h2.1⟩
theorem RowsAt.le {ad : Option Addr} (h : RowsAt L ad k enc ls) (hl : Le L L') : RowsAt L' ad k enc ls := let ⟨rs, h1, h2, h3⟩ := h; ⟨rs, h1, h2.le hl, fun x hx => (h3 x hx).le hl⟩
theorem RowsAt.addr {ad : Option Addr} (h : RowsAt L ad k enc ls) {i : Nat} (hi : i < ls.length) : ∃ a, ad = some a := by
 obtain ⟨rs, rfl, h2, _⟩ := h
 exact h2.addr (by simpa using hi)
theorem RowsAt.row {ad : Addr} (h : RowsAt L (some ad) k enc ls) {i : Nat} {l : List α} (hl : ls[i]? = some l) : ∃ a c, L.cell? (ad.add i) = some (.slice a l.length c) ∧ SlAt L a k enc l := by
 obtain ⟨rs, rfl, h2, h3⟩ := h
 rw [List.getElem?_map] at hl
 obtain ⟨⟨⟨a, n, c⟩, l'⟩, hx, rfl⟩ := Option.map_eq_some_iff.1 hl
 have hk := h3 _ (List.mem_of_getElem? hx)
 have hn : n = l'.length := hk.len
 subst hn
 refine ⟨a, c, ?_, hk.sl⟩
 have := h2.get hx (j := 0) (v := slV (a, l'.length, c)) rfl
 simpa using this
theorem Grow.lit {β : Type} {encB : β → List Value} {l : List β} {b : Nat} (hk : ∀ x, (encB x).length = k) (h : Le I L) (hb : L b = some (.cells (l.flatMap encB).toArray e (0, 0), true)) (hn : I b = none) : Grow I k e encB L (.slice (some ⟨b, 0, none⟩) l.length l.length) l :=
 ⟨h, some b, ⟨l.length, (l.flatMap encB).toArray, rfl, hb, by simp [flat_len hk], Nat.le_refl _, flat_len hk l, fun i x hx => by simpa using hx⟩, fun b' hb' => by cases hb'; exact hn⟩
theorem GrowL.one {b : Nat} {a : Option Addr} {c : Nat} {l : List α} (hl : SlAt I a k enc l) (hI : Le I L) (hb : L b = some (.cells #[.slice a l.length c] e (0, 0), true)) (hn : I b = none) : GrowL I e k enc L (.slice (some ⟨b, 0, none⟩) 1 1) [l] :=
 ⟨I, [((a, l.length, c), l)], Le.refl _, rfl, Grow.lit (l := [((a, l.length, c), l)]) encRw_len hI hb hn, fun x hx => by rw [List.mem_singleton.1 hx]; exact ⟨hl, rfl⟩⟩
end
section
variable {X : Logic Tryz.prog}
theorem planV_snoc {s : St} {hs : List Int} {b : List Stand} {c : Cone} {a : Stand} {each : Bool} (h : PlanV s b) (hb : b.length < s.cones.length) (ha : a ∈ optS s hs true each c) : PlanV s (b ++ [a]) := by
 refine ⟨by simp; omega, fun x hx => ?_⟩
 rcases List.mem_append.1 hx with hx | hx
 ·exact h.2 x hx
 ·rw [List.mem_singleton.1 hx]
  rcases opt_dry ha with rfl | ⟨hg, _⟩
  ·exact .inl rfl
  ·obtain ⟨k, d, hk, hd, rfl⟩ := mem_grid.1 hg
   right
   unfold isStand inB
   simp
   omega
theorem rPlans_sp (s : St) (p : Pt) (ha : Option Addr) (hc : Nat) (hs : List Int) (each : Bool) (hok : Ok s) (hhk : HOk s hs) : ∀ (n : Nat) (ba : Option Addr) (bc : Nat) (b : List Stand) (L : LH), s.cones.length - b.length = n → AskAt L s p ha hs → SlAt L ba 2 encSt b → PlanV s b →
  Sp X 102 [stA s p, .slice ha hs.length hc, .bool each, .slice ba b.length bc] L (fun v L' => GrowL L 41 2 encSt L' v (plansG s hs each b)) := by
 intro n
 induction n using Nat.strongRecOn with
 | _ n ih => ?_
 intro ba bc b L hn h hb hv
 have hc3 := hok.c3
 have hv1 := hv.1
 refine Sp.enter (n := 60) Tryz.func102 rfl rfl rfl rfl fun C hX _ hL0 r => ?_
 refine W.go 99 rfl ?_
 refine W.eff rfl rfl rfl (Ef.call rfl (rFits_sp s p ha ba hc bc hs b L h hok hhk hb hv)) ?_
 rintro _ _ _ ⟨_, rfl, rfl, rfl, hl0⟩
 refine W.go 99 rfl ?_
 rename_i L0
 have h := h.le hl0
 have hb := hb.le hl0
 refine W.split rfl rfl rfl (fun e1 => W.go 99 rfl ?_) (fun e1 => W.go 99 rfl ?_)
 ·have hf : fitsS s hs b = false := by simpa using e1
  refine W.ret r rfl rfl ?_
  rw [plansG_no hf]
  exact GrowL.nil hl0
 have hf : fitsS s hs b = true := by simpa using e1
 refine W.split rfl rfl rfl (fun e2 => W.go 99 rfl ?_) (fun e2 => W.go 99 rfl ?_)
 ·have hbl : s.cones.length ≤ b.length := by simp at e2; omega
  refine W.pub 8 (.inr ⟨_, _, _, rfl⟩) rfl rfl ?_
  intro b1 hb1 _
  refine W.ret r rfl rfl ?_
  rw [plansG_end hf hbl]
  exact (GrowL.one hb (Le.put hb1 _) (put_same _ _ _) hb1).less hl0
 have hbl : b.length < s.cones.length := by simp at e2; omega
 obtain ⟨c, hcc⟩ : ∃ c, s.cones[b.length]? = some c := ⟨_, List.getElem?_eq_getElem hbl⟩
 have hopt : (if (!each) = true then [none1] else []) ++ standsS s hs c = optS s hs true each c := by unfold optS; cases each <;> rfl
 refine W.cutI (fun E B L1 => ∃ v : Value, Grow L0 2 30 encSt L1 v (if (!each) = true then [none1] else []) ∧ SubE E [(1, .v (.slice ha hs.length hc)), (2, .v (.bool each)), (3, .v (.slice ba b.length bc)), (4, .p 0 0), (9, .v v)] ∧ PreB B [some ⟨cellsS (.v (stA s p)), 25⟩]) ?_ ?_
 ·rintro E B L1 ⟨v, hg, hE, hB⟩
  refine W.weak hE hB ?_
  refine W.go 99 rfl ?_
  refine W.eff rfl rfl rfl (Ef.call rfl (rStands_sp s p ha hc hs c b.length L1 (h.le hg.1) hok hhk hcc)) ?_
  rintro _ _ _ ⟨_, rfl, rfl, hg2⟩
  refine W.go 99 rfl ?_
  rename_i L2
  have hol := opt_len (hs := hs) (so := true) (each := each) (c := c) hok
  rw [← hopt, List.length_append] at hol
  obtain ⟨ad, cap, rfl, -⟩ := hg2.slice
  refine W.eff rfl rfl rfl (Ef.grow rfl rfl rfl rfl rfl rfl rfl rfl rfl encSt_len encSt_sg (hg.le hg2.1) (ls := standsS s hs c) (.sl (hg2.at encSt_len).2 encSt_len rfl) (by omega)) ?_
  rintro _ _ _ ⟨v', rfl, rfl, hg3, -⟩
  refine W.go 99 rfl ?_
  rename_i L3
  have hg3 : Grow L0 2 30 encSt L3 v' ((if (!each) = true then [none1] else []) ++ standsS s hs c) := hg3
  rw [← List.length_append] at hol
  rw [hopt] at hg3 hol
  have ho1 : ∀ a ∈ optS s hs true each c, PlanV s (b ++ [a]) := fun a ha => planV_snoc hv hbl ha
  rw [plansG_step hf hcc] at r
  generalize optS s hs true each c = o at hg3 hol ho1 r
  clear hopt
  obtain ⟨la, lc, rfl, -⟩ := hg3.slice
  have ho3 := (hg3.at encSt_len).2
  refine W.loop (fun m E B L' => ∃ (i : Nat) (v : Value) (F : LH) (rs : List (Rw Stand)), m = o.length - i ∧ i ≤ o.length ∧ Le L3 F ∧ rs.map Prod.snd = (o.take i).flatMap (fun a => plansG s hs each (b ++ [a])) ∧ Grow F 1 41 encRw L' v rs ∧ (∀ x ∈ rs, RwOk F 2 encSt x) ∧
    E = [(1, .v (.slice ha hs.length hc)), (2, .v (.bool each)), (3, .v (.slice ba b.length bc)), (4, .p 0 0), (9, .v (.slice la o.length lc)), (10, .v v), (11, .v (.int .i64 i))] ∧ B = [some ⟨cellsS (.v (stA s p)), 25⟩])
   ⟨0, _, L3, [], rfl, by omega, Le.refl _, rfl, Grow.nil (Le.refl _), (fun x hx => by cases hx), rfl, rfl⟩ (by exact ⟨rfl, rfl, rfl, rfl, rfl, rfl, rfl, trivial⟩) (by exact ⟨rfl, trivial⟩) ?_
  rintro _ _ _ L4 ⟨i, v, F, rs, rfl, hi, hLF, hrs, hgr, hrk, rfl, rfl⟩ again
  have hF4 := hgr.1
  refine W.go 99 rfl ?_
  refine W.split rfl rfl rfl (fun e4 => W.go 99 rfl ?_) (fun e4 => W.go 99 rfl ?_)
  ·have hio : i < o.length := by simpa using e4
   obtain ⟨a, hai⟩ : ∃ a, o[i]? = some a := ⟨_, List.getElem?_eq_getElem hio⟩
   obtain ⟨la', rfl⟩ := ho3.addr hio
   have hrl : rs.length ≤ 13 * 2197 := by
    have h1 := congrArg List.length hrs
    rw [List.length_map] at h1
    have h2 := flatMap_le (f := fun a => plansG s hs each (b ++ [a])) (k := 2197) (o.take i) fun x _ => plansG_len hok
    rw [List.length_take] at h2
    have h3 : min i o.length * 2197 ≤ 13 * 2197 := Nat.mul_le_mul_right _ (by omega)
    omega
   have hLF0 : Le L0 F := hg3.1.trans hLF
   refine W.drawn (by kernel_rfl) F hF4 ?_
   refine DD.run' [0, 1, 2, 3, 4, 5, 7, 8] rfl ?_
   refine DD.vf 9 rfl rfl rfl rfl rfl (Vf.idx rfl rfl rfl rfl rfl rfl (hio)) ?_
   refine DD.vf 10 rfl rfl rfl rfl rfl (Vf.loadN rfl rfl rfl ((ho3.le hLF).whole hai rfl)) ?_
   refine DD.run' [11] rfl ?_
   refine DD.act 6 rfl rfl rfl rfl rfl (Ef.pub 48 (.inr ⟨_, _, _, rfl⟩) rfl rfl (fun b1 hb1 _ => Ef.grow rfl rfl rfl rfl rfl rfl rfl rfl rfl encSt_len encSt_sg (Grow.new (Le.put hb1 _) (put_same _ _ _) hb1) (ls := b) (.sl ((hb.le (hLF0.trans hF4)).le (Le.put hb1 _)) encSt_len rfl) (by simp; omega))) ((by rintro _ _ _ ⟨b1, hb1, _, _, rfl, rfl, hg, _⟩; exact ⟨hF4.trans hg.1, rfl, .inl rfl⟩)) ?_
   rintro _ _ _ ⟨b1, hb1, _, v1, rfl, rfl, hg1, -⟩
   rw [List.nil_append] at hg1
   refine DD.act 12 rfl rfl rfl rfl rfl (Ef.grow rfl rfl rfl rfl rfl rfl rfl rfl rfl encSt_len encSt_sg hg1 (ls := [a]) (.own rfl rfl rfl rfl) (by simp; omega)) ((by rintro _ _ _ ⟨_, rfl, rfl, hg, _⟩; exact ⟨hF4.trans hg.1, rfl, .inl rfl⟩)) ?_
   rintro _ _ _ ⟨v2, rfl, rfl, hg2, -⟩
   rename_i L5
   have hg2 : Grow L4 2 30 encSt L5 v2 (b ++ [a]) := hg2
   obtain ⟨xa, xc, rfl, -⟩ := hg2.slice
   obtain ⟨F5, hFF5, hF5L, hx5, hf5⟩ := hg2.foot encSt_len hF4
   have hrec := (ih (n - 1) (by omega) xa xc (b ++ [a]) F5 (by simp; omega) (h.le (hLF0.trans hFF5)) hx5 (ho1 a (List.mem_of_getElem? hai))).frame hF5L
   rw [← hX] at hrec
   refine DD.act 13 rfl rfl rfl rfl rfl (Ef.call rfl hrec) ((by rintro _ _ _ ⟨_, _, rfl, L1', hq, hp⟩; exact ⟨(hFF5.trans hq.hle).trans hp.le, rfl, .inl rfl⟩)) ?_
   rintro _ _ _ ⟨_, rfl, rfl, F6, ⟨J, rs2, hJ, hrs2, hgr2, hrk2⟩, hp⟩
   rename_i L6 _
   have hgr6 : Grow F6 1 41 encRw L6 v rs := (hgr.rebase hg2.1 hF5L hf5).call hp
   obtain ⟨ra, rc, rfl, -⟩ := hgr2.slice
   have hFF6 : Le F F6 := hFF5.trans (hJ.trans hgr2.1)
   have hrl2 : rs2.length ≤ 2197 := by
    have h1 := congrArg List.length hrs2
    rw [List.length_map] at h1
    have h2 := plansG_len (hs := hs) hok (each := each) (b := b ++ [a])
    omega
   refine DD.act 14 rfl rfl rfl rfl rfl (Ef.grow rfl rfl rfl rfl rfl rfl rfl rfl rfl encRw_len encRw_sg hgr6 (ls := rs2) (.sl ((hgr2.at encRw_len).2.le hp.le) encRw_len rfl) (by omega)) ((by rintro _ _ _ ⟨_, rfl, rfl, hg, _⟩; exact ⟨hFF6.trans hg.1, rfl, .inl rfl⟩)) ?_
   rintro _ _ _ ⟨v3, rfl, rfl, hgr7, -⟩
   refine DD.run' [15] rfl ?_
   refine .fin rfl ?_
   refine W.go 99 rfl ?_
   refine W.again (again _ _ _ _ (by omega) ⟨i + 1, v3, F6, rs ++ rs2, rfl, by omega, hLF.trans hFF6, ?_, hgr7, ?_, rfl, rfl⟩) ⟨rfl, rfl, rfl, rfl, rfl, rfl, congrArg some (inc64 (by omega)), trivial⟩ ⟨rfl, trivial⟩
   ·obtain ⟨_, rfl⟩ := List.getElem?_eq_some_iff.1 hai
    rw [List.map_append, hrs, hrs2, List.take_succ_eq_append_getElem hio, List.flatMap_append, List.flatMap_singleton]
   ·intro x hx
    rcases List.mem_append.1 hx with hx | hx
    ·exact (hrk x hx).le hFF6
    ·exact (hrk2 x hx).le hgr2.1
  ·have hie : i = o.length := by simp at e4; omega
   rw [hie, List.take_length] at hrs
   refine W.ret r rfl rfl ?_
   exact ⟨F, rs, hl0.trans (hg3.1.trans hLF), hrs, hgr, hrk⟩
 ·intro rest
  refine W.split rfl rfl rfl (fun e3 => ?_) (fun e3 => ?_)
  ·refine W.go 99 rfl ?_
   refine W.eff rfl rfl rfl (Ef.grow rfl rfl rfl rfl rfl rfl rfl rfl rfl encSt_len encSt_sg (Grow.nil (Le.refl L0)) (ls := [none1]) (.own rfl rfl rfl rfl) (by simp)) ?_
   rintro _ _ _ ⟨v', rfl, rfl, hg', -⟩
   refine W.go 2 rfl ?_
   exact rest _ _ _ ⟨v', by rw [if_pos (by simpa using e3)]; exact hg', ⟨rfl, rfl, rfl, rfl, rfl, trivial⟩, ⟨rfl, trivial⟩⟩
  ·refine W.go 2 rfl ?_
   exact rest _ _ _ ⟨_, by rw [if_neg (by simpa using e3)]; exact Grow.nil (Le.refl _), ⟨rfl, rfl, rfl, rfl, rfl, trivial⟩, ⟨rfl, trivial⟩⟩
end
end Go.Mz


set_option maxRecDepth 100000
namespace Go.Mz
open Go.Conc Go.Proofs
variable {X : Logic Tryz.prog}
def Got {α : Type} (L : LH) (k : Nat) (enc : α → List Value) (l : List α) (v : Value) (L' : LH) : Prop := ∃ ad cap, v = .slice ad l.length cap ∧ Le L L' ∧ SlAt L' ad k enc l
theorem Got.nil {α : Type} {L L' : LH} {k : Nat} {enc : α → List Value} (h : Le L L') : Got L k enc ([] : List α) (.slice none 0 0) L' := ⟨none, 0, rfl, h, SlAt.empty⟩
theorem planV_nil {s : St} : PlanV s [] := ⟨by simp, fun a ha => by cases ha⟩
theorem open_ask0 (s : St) (hs : List Int) : openE s hs [] [] = askE s hs := by
 rw [open_ask]
 split
 ·rfl
 ·rename_i h; simp at h; simp [h]
theorem rCan_sp (s : St) (p : Pt) (ha : Option Addr) (hc : Nat) (hs : List Int) (L : LH) (h : AskAt L s p ha hs) (hok : Ok s) (hhk : HOk s hs) : Sp X 114 [stA s p, .slice ha hs.length hc] L (fun v L' => v = .bool (canS s hs) ∧ Le L L') := by
 refine Sp.enter (n := 10) Tryz.func114 rfl rfl rfl rfl fun C hX _ hL0 r => ?_
 refine W.go 99 rfl ?_
 refine W.eff rfl rfl rfl (Ef.call rfl (rPlans_sp s p ha hc hs true hok hhk _ none 0 [] L rfl h SlAt.empty planV_nil)) ?_
 rintro _ _ _ ⟨_, rfl, rfl, hg⟩
 rw [plansG_nil hok] at hg
 obtain ⟨ad, cap, rfl⟩ := hg.slice
 refine W.go 99 rfl ?_
 refine W.ret r rfl rfl ?_
 refine ⟨?_, hg.hle⟩
 unfold canS
 cases plansS s hs allC true <;> simp [retV] <;> omega
theorem rMost_sp (s : St) (p : Pt) (ha : Option Addr) (hc : Nat) (hs : List Int) (L : LH) (h : AskAt L s p ha hs) :
  Sp X 44 [stA s p, .slice ha hs.length hc] L (fun v L' => ∃ u, v = .tuple #[u, .int .i64 (MostE s hs).2.1, .int .i64 (MostE s hs).2.2] ∧ Got L 2 encSt (MostE s hs).1 u L') := by
 unfold MostE
 rw [open_ask0]
 refine Sp.enter (n := 47) Tryz.func44 rfl rfl rfl rfl fun C hX _ hL0 r => ?_
 refine W.go 99 rfl ?_
 refine W.eff rfl rfl rfl (Ef.call rfl (asked_sp s p ha hc hs L h)) ?_
 rintro _ _ _ ⟨_, rfl, rfl, rfl, rfl⟩
 refine W.go 99 rfl ?_
 refine W.split rfl rfl rfl (fun e1 => W.go 99 rfl ?_) (fun e1 => W.go 99 rfl ?_)
 ·refine W.ret r rfl rfl ?_
  have h1 : askE s hs ≠ 0 := by simpa using e1
  rw [if_pos h1]
  exact ⟨_, rfl, Got.nil (Le.refl _)⟩
 have h1 : askE s hs = 0 := by simpa using e1
 rw [if_neg (by rw [h1]; simp)] at r
 obtain ⟨hok, hhk⟩ := ask_ok h1
 have hc3 := hok.c3
 refine W.eff rfl rfl rfl (Ef.call rfl (rPlans_sp s p ha hc hs false hok hhk _ none 0 [] L rfl h SlAt.empty planV_nil)) ?_
 rintro _ _ _ ⟨_, rfl, rfl, hg⟩
 refine W.go 99 rfl ?_
 rename_i L1 _
 rw [plansG_nil hok] at hg
 have hlen : ∀ x ∈ plansS s hs allC false, x.length ≤ 3 := fun x hx => by have := plan_len hx; omega
 have hll := plans_lenX (hs := hs) hok (each := false)
 have hne := plans_ne hok hs allC
 have hmost : ∀ y, firstMin negC (plansS s hs allC false) = some y → mostS s hs = y := fun y hy => by
  unfold mostS
  change (firstMin negC _).getD [] = _
  rw [hy]; rfl
 generalize plansS s hs allC false = l at hg hlen hll hne hmost
 obtain ⟨ad, cap, rfl⟩ := hg.slice
 have hrows := hg.at.2
 have hl0 : 0 < l.length := List.length_pos_iff.2 hne
 obtain ⟨a, rfl⟩ := hrows.addr hl0
 refine W.loop (fun m E B L' => ∃ (i b : Nat), m = l.length - i ∧ i ≤ l.length ∧ b < l.length ∧ (∀ y, l[b]? = some y → (i = 0 ∧ b = 0) ∨ firstMin negC (l.take i) = some y) ∧ L1 = L' ∧
   E = [(8, .v (.slice (some a) l.length cap)), (9, .v (.int .i64 b)), (10, .v (.int .i64 i))] ∧ B = [])
  ⟨0, 0, rfl, by omega, hl0, fun y hy => .inl ⟨rfl, rfl⟩, rfl, rfl, rfl⟩ (by exact ⟨rfl, rfl, rfl, trivial⟩) trivial ?_
 rintro _ _ _ _ ⟨i, b, rfl, hi, hb, hinv, rfl, rfl, rfl⟩ again
 obtain ⟨y, hy⟩ : ∃ y, l[b]? = some y := ⟨_, List.getElem?_eq_getElem hb⟩
 obtain ⟨ya, yc, hyc, hys⟩ := hrows.row hy
 have hyl := hlen y (List.mem_of_getElem? hy)
 have hyn := cnt_le y
 refine W.go 99 rfl ?_
 refine W.split rfl rfl rfl (fun e2 => W.go 99 rfl ?_) (fun e2 => W.go 99 rfl ?_)
 ·have hil : i < l.length := by simpa using e2
  obtain ⟨x, hx⟩ : ∃ x, l[i]? = some x := ⟨_, List.getElem?_eq_getElem hil⟩
  obtain ⟨xa, xc, hxc, hxs⟩ := hrows.row hx
  have hxl := hlen x (List.mem_of_getElem? hx)
  have hnext := best_next (f := negC) hx hy (hinv y hy)
  refine W.drawn (by kernel_rfl) _ (Le.refl _) ?_
  refine DD.run' [0, 1, 5, 6] rfl ?_
  refine DD.vf 2 rfl rfl rfl rfl rfl (Vf.idx1 rfl rfl rfl rfl rfl rfl rfl (hil)) ?_
  refine DD.vf 3 rfl rfl rfl rfl rfl (Vf.load rfl rfl rfl (hxc)) ?_
  refine DD.vf 7 rfl rfl rfl rfl rfl (Vf.idx1 rfl rfl rfl rfl rfl rfl rfl (hb)) ?_
  refine DD.vf 8 rfl rfl rfl rfl rfl (Vf.load rfl rfl rfl (hyc)) ?_
  refine DD.act 4 rfl rfl rfl rfl rfl (Ef.call rfl (rCount_sp xa xc x L1 hxs (by omega))) (by rintro _ _ _ ⟨_, rfl, rfl, rfl, rfl⟩; exact ⟨Le.refl _, rfl, .inl rfl⟩) ?_
  rintro _ _ _ ⟨_, rfl, rfl, rfl, rfl⟩
  refine DD.act 9 rfl rfl rfl rfl rfl (Ef.call rfl (rCount_sp ya yc y L1 hys (by omega))) (by rintro _ _ _ ⟨_, rfl, rfl, rfl, rfl⟩; exact ⟨Le.refl _, rfl, .inl rfl⟩) ?_
  rintro _ _ _ ⟨_, rfl, rfl, rfl, rfl⟩
  refine DD.run' [10] rfl ?_
  refine .fin rfl ?_
  refine W.go 99 rfl ?_
  refine W.split rfl rfl rfl (fun e3 => W.go 99 rfl ?_) (fun e3 => W.go 99 rfl ?_)
  ·have hlt : negC x < negC y := by unfold negC; simp at e3; omega
   rw [if_pos hlt] at hnext
   exact W.again (again _ _ _ _ (by omega) ⟨i + 1, i, rfl, by omega, hil, fun z hz => .inr (by rw [hx] at hz; cases hz; exact hnext), rfl, rfl, rfl⟩) ⟨rfl, rfl, congrArg some (inc64 (by omega)), trivial⟩ trivial
  ·have hlt : ¬ negC x < negC y := by unfold negC; simp at e3; omega
   rw [if_neg hlt] at hnext
   exact W.again (again _ _ _ _ (by omega) ⟨i + 1, b, rfl, by omega, hb, fun z hz => .inr (by rw [hy] at hz; cases hz; exact hnext), rfl, rfl, rfl⟩) ⟨rfl, rfl, congrArg some (inc64 (by omega)), trivial⟩ trivial
 ·have hie : i = l.length := by simp at e2; omega
  have hfin : firstMin negC l = some y := by
   rcases hinv y hy with ⟨h0, _⟩ | h0
   ·omega
   ·rw [hie, List.take_length] at h0; exact h0
  refine W.drawn (by kernel_rfl) _ (Le.refl _) ?_
  refine DD.run' [0, 1, 4, 5] rfl ?_
  refine DD.vf 2 rfl rfl rfl rfl rfl (Vf.idx1 rfl rfl rfl rfl rfl rfl rfl (hb)) ?_
  refine DD.vf 3 rfl rfl rfl rfl rfl (Vf.load rfl rfl rfl (hyc)) ?_
  refine DD.vf 6 rfl rfl rfl rfl rfl (Vf.idx1 rfl rfl rfl rfl rfl rfl rfl (hb)) ?_
  refine DD.vf 7 rfl rfl rfl rfl rfl (Vf.load rfl rfl rfl (hyc)) ?_
  refine DD.act 8 rfl rfl rfl rfl rfl (Ef.call rfl (rCount_sp ya yc y L1 hys (by omega))) (by rintro _ _ _ ⟨_, rfl, rfl, rfl, rfl⟩; exact ⟨Le.refl _, rfl, .inl rfl⟩) ?_
  rintro _ _ _ ⟨_, rfl, rfl, rfl, rfl⟩
  refine DD.run' [9, 10, 11] rfl ?_
  refine .fin rfl ?_
  refine W.go 99 rfl ?_
  refine W.ret r rfl rfl ?_
  rw [hmost y hfin]
  exact ⟨_, rfl, ya, yc, rfl, hg.hle, hys⟩
end Go.Mz


namespace Go.Mz
open Go
def onlyS (s : St) (l : List Nat) : St := { s with cones := l.filterMap fun i => s.cones[i]? }
section
variable {s : St} {hs : List Int}
theorem only_get {l : List Nat} (hl : ∀ i ∈ l, i < s.cones.length) (j : Nat) : (onlyS s l).cones[j]? = l[j]?.bind fun i => s.cones[i]? := by
 unfold onlyS
 simp only
 induction l generalizing j with
 | nil => simp
 | cons i l ih =>
  have hi := hl i (List.mem_cons_self ..)
  rw [List.filterMap_cons, List.getElem?_eq_getElem hi]
  simp only
  cases j with
  | zero => simp [List.getElem?_eq_getElem hi]
  | succ j => simpa using ih (fun x hx => hl x (List.mem_cons_of_mem _ hx)) j
theorem only_len {l : List Nat} (hl : ∀ i ∈ l, i < s.cones.length) : (onlyS s l).cones.length = l.length := by
 unfold onlyS
 simp only
 induction l with
 | nil => rfl
 | cons i l ih =>
  have hi := hl i (List.mem_cons_self ..)
  rw [List.filterMap_cons, List.getElem?_eq_getElem hi]
  simp only [List.length_cons]
  rw [ih (fun x hx => hl x (List.mem_cons_of_mem _ hx))]
theorem only_ok (h : Ok s) {l : List Nat} (hl : ∀ i ∈ l, i < s.cones.length) (h3 : l.length ≤ 3) : Ok (onlyS s l) := by
 refine { h with c3 := by rw [only_len hl]; exact h3, co := fun c hc => ?_ }
 unfold onlyS at hc
 simp only [List.mem_filterMap] at hc
 obtain ⟨i, _, hi⟩ := hc
 exact h.co c (List.mem_of_getElem? hi)
theorem filter_map_len {α β : Type} (f : α → β) (p : β → Bool) (l : List α) : ((l.map f).filter p).length = (l.filter fun x => p (f x)).length := by
 induction l with
 | nil => rfl
 | cons a l ih =>
  simp only [List.map_cons, List.filter_cons]
  split
  ·simp [ih]
  ·exact ih
theorem range_get {α : Type} (l : List α) (d : α) : l = (List.range l.length).map fun j => l[j]?.getD d := by
 refine List.ext_getElem (by simp) fun i h1 h2 => ?_
 simp [List.getElem?_eq_getElem h1]
theorem on_only {l : List Nat} (hl : ∀ i ∈ l, i < s.cones.length) (x : List Stand) (y : List Stand) (hy : ∀ j i : Nat, l[j]? = some i → y[j]? = x[i]?) (k d : Nat) : (onS (onlyS s l) hs y k d).length = (l.filter (onB s hs x k d)).length := by
 have e : l.filter (onB s hs x k d) = ((List.range l.length).map fun j => l[j]?.getD 0).filter (onB s hs x k d) := by rw [← range_get]
 unfold onS
 rw [e, filter_map_len, only_len hl]
 congr 1
 refine List.filter_congr fun j hj => ?_
 have hj := List.mem_range.1 hj
 have hg : l[j]? = some l[j] := List.getElem?_eq_getElem hj
 have hi := hl _ (List.getElem_mem hj)
 unfold onB
 rw [only_get hl, hg, hy j _ hg]
 rfl
theorem dries_only (h : Ok s) {so : Nat → Bool} {l : List Nat} (e : l = (List.range s.cones.length).filter so) : driesS s hs so = canS (onlyS s l) hs := by
 have hl : ∀ i ∈ l, i < s.cones.length := fun i hi => by rw [e] at hi; exact List.mem_range.1 (List.mem_filter.1 hi).1
 have hso : ∀ i, i < s.cones.length → (so i = true ↔ i ∈ l) := fun i hi => by
  rw [e, List.mem_filter, List.mem_range]; exact ⟨fun h => ⟨hi, h⟩, fun h => h.2⟩
 have hll : l.length ≤ s.cones.length := by rw [e]; simpa using List.length_filter_le so (List.range s.cones.length)
 have h' : Ok (onlyS s l) := only_ok h hl (by have := h.c3; omega)
 have hsh : (onlyS s l).shelves = s.shelves := rfl
 have key1 : ∀ x, x ∈ plansS s hs so true → ∃ y, y ∈ plansS (onlyS s l) hs allC true := fun x hx => by
  obtain ⟨h1, h2, h3⟩ := (mem_plans h).1 hx
  refine ⟨l.map fun i => x[i]?.getD none1, (mem_plans h').2 ⟨by rw [only_len hl, List.length_map], fun j c a hc ha => ?_, ?_⟩⟩
  ·rw [only_get hl] at hc
   rw [List.getElem?_map] at ha
   obtain ⟨i, hi, rfl⟩ := Option.map_eq_some_iff.1 ha
   rw [hi] at hc
   have hil := List.mem_of_getElem? hi
   have hin := hl i hil
   have hx' : x[i]? = some x[i] := List.getElem?_eq_getElem (by omega)
   have := h2 i c _ hc hx'
   rw [(hso i hin).2 hil] at this
   rw [hx']
   exact this
  ·rw [fits_iff] at h3 ⊢
   intro k hk d hd
   refine Int.le_trans ?_ (h3 k hk d hd)
   rw [on_only hl x _ (fun j i hi => by
    have hin := hl i (List.mem_of_getElem? hi)
    rw [List.getElem?_map, hi, Option.map_some, List.getElem?_eq_getElem (by omega)]; rfl)]
   rw [e, List.filter_filter]
   unfold onS
   exact_mod_cast filter_le fun i _ hb => by simp only [Bool.and_eq_true] at hb; exact hb.1
 have key2 : ∀ y, y ∈ plansS (onlyS s l) hs allC true → ∃ x, x ∈ plansS s hs so true := fun y hy => by
  obtain ⟨h1, h2, h3⟩ := (mem_plans h').1 hy
  rw [only_len hl] at h1
  have hnd : l.Nodup := by rw [e]; exact List.Pairwise.filter _ List.nodup_range
  have hidx : ∀ j i, l[j]? = some i → l.idxOf i = j := fun j i hi => by
   obtain ⟨hj, rfl⟩ := List.getElem?_eq_some_iff.1 hi
   exact List.Nodup.idxOf_getElem hnd j hj
  have hxg : ∀ i, i < s.cones.length → ((List.range s.cones.length).map fun i => if so i then y[l.idxOf i]?.getD none1 else none1)[i]? = some (if so i then y[l.idxOf i]?.getD none1 else none1) := fun i hi => by
   rw [List.getElem?_map, List.getElem?_range hi]; rfl
  refine ⟨(List.range s.cones.length).map fun i => if so i then y[l.idxOf i]?.getD none1 else none1, (mem_plans h).2 ⟨by simp, fun i c a hc ha => ?_, ?_⟩⟩
  ·have hin := (List.getElem?_eq_some_iff.1 hc).1
   rw [hxg i hin] at ha
   cases ha
   cases hsi : so i with
   | false => simp [optS]
   | true =>
    have hil := (hso i hin).1 hsi
    have hj : l.idxOf i < l.length := List.idxOf_lt_length_of_mem hil
    have hlj : l[l.idxOf i]? = some i := by rw [List.getElem?_eq_getElem hj, List.getElem_idxOf]
    have hyj : y[l.idxOf i]? = some y[l.idxOf i] := List.getElem?_eq_getElem (by omega)
    have := h2 (l.idxOf i) c _ (by rw [only_get hl, hlj]; exact hc) hyj
    rw [hyj]
    exact this
  ·rw [fits_iff] at h3 ⊢
   intro k hk d hd
   refine Int.le_trans ?_ (h3 k hk d hd)
   rw [on_only hl ((List.range s.cones.length).map fun i => if so i then y[l.idxOf i]?.getD none1 else none1) y (fun j i hi => by
    have hil := List.mem_of_getElem? hi
    have hin := hl i hil
    rw [hxg i hin, (hso i hin).2 hil, hidx j i hi]
    obtain ⟨hj, _⟩ := List.getElem?_eq_some_iff.1 hi
    rw [List.getElem?_eq_getElem (by omega)]; rfl)]
   have e2 : l.filter (onB s hs ((List.range s.cones.length).map fun i => if so i then y[l.idxOf i]?.getD none1 else none1) k d) = (List.range s.cones.length).filter fun i => onB s hs ((List.range s.cones.length).map fun i => if so i then y[l.idxOf i]?.getD none1 else none1) k d i && so i := by
    conv => lhs; arg 2; rw [e]
    rw [List.filter_filter]
   rw [e2]
   unfold onS
   refine Int.ofNat_le.2 (filter_le fun i hi hb => ?_)
   have hin := List.mem_range.1 hi
   rw [Bool.and_eq_true]
   refine ⟨hb, ?_⟩
   cases hsi : so i with
   | true => rfl
   | false =>
    unfold onB at hb
    rw [hxg i hin, hsi, List.getElem?_eq_getElem hin] at hb
    simp only [Bool.false_eq_true, if_false, Bool.and_eq_true, beq_iff_eq] at hb
    have := hb.1.1
    simp only [none1] at this
    omega
 unfold driesS canS
 cases h1 : plansS s hs so true with
 | nil =>
  cases h2 : plansS (onlyS s l) hs allC true with
  | nil => rfl
  | cons y t =>
   obtain ⟨x, hx⟩ := key2 y (by rw [h2]; exact List.mem_cons_self ..)
   rw [h1] at hx; cases hx
 | cons x t =>
  obtain ⟨y, hy⟩ := key1 x (by rw [h1]; exact List.mem_cons_self ..)
  cases h2 : plansS (onlyS s l) hs allC true with
  | nil => rw [h2] at hy; cases hy
  | cons y t => rfl
end
end Go.Mz


set_option maxRecDepth 100000
namespace Go.Mz
open Go
section
variable {s : St} {hs : List Int}
end
end Go.Mz


set_option maxRecDepth 100000
namespace Go.Mz
open Go
def choS (n k i : Nat) (out : List (List Nat)) : List (List Nat) := out.flatMap fun x => (List.range' (match x.getLast? with | some y => y + 1 | none => 0) (n - k + i + 1 - (match x.getLast? with | some y => y + 1 | none => 0))).map fun y => x ++ [y]
def choL (n k : Nat) : List (List Nat) := (List.range k).foldl (fun out i => choS n k i out) [[]]
def ordL (n : Nat) : List (List Nat) := (List.range n).flatMap fun m => choL n (m + 1)
def maskL (n : Nat) : List Nat := match n with
 | 1 => [1]
 | 2 => [1, 2, 3]
 | 3 => [1, 2, 4, 3, 5, 6, 7]
 | _ => []
theorem ord_mask {n : Nat} (h : n ≤ 3) : ordL n = (maskL n).map bitsL := by
 match n, h with
 | 0, _ | 1, _ | 2, _ | 3, _ => decide
theorem mask_lt {n m : Nat} (h : n ≤ 3) (hm : m ∈ maskL n) : m < 2 ^ n := by
 match n, h with
 | 0, _ => cases hm
 | 1, _ => revert m; decide
 | 2, _ => revert m; decide
 | 3, _ => revert m; decide
def crowdG (n : Nat) (f : Nat → Bool) : Option (List Nat) := (List.range (2 ^ n)).foldl (fun b m => if f m then b else takeC b (bitsL m)) none
def firstG (n : Nat) (f : Nat → Bool) : Option (List Nat) := ((maskL n).find? fun m => !f m).map bitsL
def tab (a1 a2 a3 a4 a5 a6 a7 : Bool) : Nat → Bool
 | 1 => a1
 | 2 => a2
 | 3 => a3
 | 4 => a4
 | 5 => a5
 | 6 => a6
 | 7 => a7
 | _ => true
theorem tab_first {n : Nat} (h : n ≤ 3) : ∀ a1 a2 a3 a4 a5 a6 a7, crowdG n (tab a1 a2 a3 a4 a5 a6 a7) = firstG n (tab a1 a2 a3 a4 a5 a6 a7) := by
 match n, h with
 | 0, _ | 1, _ | 2, _ | 3, _ => decide +kernel
theorem foldl_same {α β : Type} {f g : β → α → β} : ∀ {l : List α} {b : β}, (∀ a ∈ l, ∀ b, f b a = g b a) → l.foldl f b = l.foldl g b
 | [], _, _ => rfl
 | a :: l, b, h => by
  rw [List.foldl_cons, List.foldl_cons, h a (List.mem_cons_self ..)]
  exact foldl_same fun x hx => h x (List.mem_cons_of_mem _ hx)
theorem find_congr {α : Type} {p q : α → Bool} : ∀ {l : List α}, (∀ a ∈ l, p a = q a) → l.find? p = l.find? q
 | [], _ => rfl
 | a :: l, h => by
  rw [List.find?_cons, List.find?_cons, h a (List.mem_cons_self ..), find_congr fun x hx => h x (List.mem_cons_of_mem _ hx)]
theorem tab_of {f : Nat → Bool} (h0 : f 0 = true) {m : Nat} (hm : m < 8) : tab (f 1) (f 2) (f 3) (f 4) (f 5) (f 6) (f 7) m = f m := by
 match m, hm with
 | 0, _ => exact h0.symm
 | 1, _ | 2, _ | 3, _ | 4, _ | 5, _ | 6, _ | 7, _ => rfl
theorem crowd_first {n : Nat} (h : n ≤ 3) {f : Nat → Bool} (h0 : f 0 = true) : crowdG n f = firstG n f := by
 have h8 : 2 ^ n ≤ 2 ^ 3 := Nat.pow_le_pow_right (by omega) h
 have e1 : crowdG n f = crowdG n (tab (f 1) (f 2) (f 3) (f 4) (f 5) (f 6) (f 7)) := by
  unfold crowdG
  refine foldl_same fun m hm b => ?_
  have := List.mem_range.1 hm
  rw [tab_of h0 (by omega)]
 have e2 : firstG n f = firstG n (tab (f 1) (f 2) (f 3) (f 4) (f 5) (f 6) (f 7)) := by
  unfold firstG
  congr 1
  refine find_congr fun m hm => ?_
  have := mask_lt h hm
  rw [tab_of h0 (by omega)]
 rw [e1, e2]
 exact tab_first h _ _ _ _ _ _ _
section
variable {s : St} {hs : List Int}
theorem bits_filter {n m : Nat} (h : n ≤ 3) (hm : m < 2 ^ n) : bitsL m = (List.range n).filter fun i => m.testBit i := by
 match n, h with
 | 0, _ => revert m; decide
 | 1, _ => revert m; decide
 | 2, _ => revert m; decide
 | 3, _ => revert m; decide
theorem crowd_find (h : Ok s) : crowdS s hs = (ordL s.cones.length).find? fun l => !canS (onlyS s l) hs := by
 have h3 := h.c3
 have e : crowdS s hs = crowdG s.cones.length (fun m => driesS s hs fun i => m.testBit i) := rfl
 have h0 : driesS s hs (fun i => (0 : Nat).testBit i) = true := by
  have : (fun i => (0 : Nat).testBit i) = fun _ => false := funext fun i => Nat.zero_testBit i
  rw [this]; exact dries_none h
 rw [e, crowd_first h3 h0, ord_mask h3]
 unfold firstG
 rw [List.find?_map]
 congr 1
 refine find_congr fun m hm => ?_
 have hm := mask_lt h3 hm
 simp only [Function.comp]
 rw [dries_only h (bits_filter h3 hm)]
end
end Go.Mz


set_option maxRecDepth 100000
namespace Go.Mz
open Go
theorem pick_cho {n m : Nat} (h : n ≤ 3) (hm : m ≤ n) : pickL n m 0 = choL n m := by
 match n, h, m, hm with
 | 0, _, 0, _ => decide
 | 1, _, 0, _ | 1, _, 1, _ => decide
 | 2, _, 0, _ | 2, _, 1, _ | 2, _, 2, _ => decide
 | 3, _, 0, _ | 3, _, 1, _ | 3, _, 2, _ | 3, _, 3, _ => decide
theorem cho_len {n m : Nat} (h : n ≤ 3) (hm : m ≤ n) : (choL n m).length ≤ 3 ∧ ∀ l ∈ choL n m, l.length = m ∧ ∀ i ∈ l, i < n := by
 match n, h, m, hm with
 | 0, _, 0, _ => decide
 | 1, _, 0, _ | 1, _, 1, _ => decide
 | 2, _, 0, _ | 2, _, 1, _ | 2, _, 2, _ => decide
 | 3, _, 0, _ | 3, _, 1, _ | 3, _, 2, _ | 3, _, 3, _ => decide
theorem find_flat_none {β : Type} {n : Nat} {g : Nat → List β} {p : β → Bool} (h : ∀ m, m < n → ∀ x ∈ g m, p x = false) : ((List.range n).flatMap g).find? p = none := by
 rw [List.find?_eq_none]
 intro x hx
 obtain ⟨m, hm, hx⟩ := List.mem_flatMap.1 hx
 rw [h m (List.mem_range.1 hm) x hx]; simp
theorem find_at {β : Type} {p : β → Bool} : ∀ {l : List β} {k : Nat} {y : β}, l[k]? = some y → p y = true → (∀ j x, j < k → l[j]? = some x → p x = false) → l.find? p = some y
 | [], k, y, h, _, _ => by simp at h
 | a :: l, 0, y, h, hp, _ => by
  cases h
  rw [List.find?_cons, hp]
 | a :: l, k + 1, y, h, hp, hn => by
  rw [List.find?_cons, hn 0 a (by omega) rfl]
  exact find_at (by simpa using h) hp fun j x hj hx => hn (j + 1) x (by omega) (by simpa using hx)
theorem find_flat_some {β : Type} {n m k : Nat} {g : Nat → List β} {p : β → Bool} {y : β} (hm : m < n) (h : ∀ j, j < m → ∀ x ∈ g j, p x = false) (hy : (g m)[k]? = some y) (hp : p y = true) (hk : ∀ j x, j < k → (g m)[j]? = some x → p x = false) : ((List.range n).flatMap g).find? p = some y := by
 have e : List.range n = List.range m ++ m :: List.range' (m + 1) (n - m - 1) := by
  rw [List.range_eq_range', List.range_eq_range', show n = m + (1 + (n - m - 1)) by omega, ← List.range'_append_1, ← List.range'_append_1]
  simp [List.range'_succ]
 rw [e, List.flatMap_append, List.find?_append, find_flat_none h, Option.none_or, List.flatMap_cons, List.find?_append, find_at hy hp hk]
 rfl
section
variable {s : St} {hs : List Int}
theorem crowd_none (h : Ok s) (hn : ∀ m, m < s.cones.length → ∀ l ∈ choL s.cones.length (m + 1), canS (onlyS s l) hs = true) : crowdS s hs = none := by
 rw [crowd_find h]
 exact find_flat_none fun m hm l hl => by rw [hn m hm l hl]; rfl
theorem crowd_some (h : Ok s) {m k : Nat} {y : List Nat} (hm : m < s.cones.length) (hn : ∀ j, j < m → ∀ l ∈ choL s.cones.length (j + 1), canS (onlyS s l) hs = true) (hy : (choL s.cones.length (m + 1))[k]? = some y) (hp : canS (onlyS s y) hs = false)
  (hk : ∀ j x, j < k → (choL s.cones.length (m + 1))[j]? = some x → canS (onlyS s x) hs = true) : crowdS s hs = some y := by
 rw [crowd_find h]
 exact find_flat_some hm (fun j hj l hl => by rw [hn j hj l hl]; rfl) hy (by rw [hp]; rfl) fun j x hj hx => by rw [hk j x hj hx]; rfl
end
end Go.Mz


set_option maxRecDepth 100000
namespace Go.Mz
open Go.Conc Go.Proofs
variable {X : Logic Tryz.prog}
theorem pick_mem {n : Nat} : ∀ {m first : Nat} {l : List Nat}, l ∈ pickL n m first → l.length = m ∧ ∀ i ∈ l, i < n
 | 0, first, l, h => by
  simp only [pickL, List.mem_singleton] at h
  subst h
  exact ⟨rfl, fun i hi => by cases hi⟩
 | m + 1, first, l, h => by
  simp only [pickL, List.mem_flatMap, List.mem_map, List.mem_range'_1] at h
  obtain ⟨i, hi, t, ht, rfl⟩ := h
  obtain ⟨h1, h2⟩ := pick_mem ht
  refine ⟨by simp [h1], fun j hj => ?_⟩
  rcases List.mem_cons.1 hj with rfl | hj
  ·omega
  ·exact h2 j hj
theorem pick_len {n : Nat} (hn : n ≤ 3) : ∀ (m first : Nat), (pickL n m first).length ≤ 3 ^ m
 | 0, first => by simp [pickL]
 | m + 1, first => by
  rw [pickL]
  have h1 := flatMap_le (f := fun i => (pickL n m (i + 1)).map (i :: ·)) (k := 3 ^ m) (List.range' first (n - first)) fun i _ => by
   rw [List.length_map]; exact pick_len hn m (i + 1)
  rw [List.length_range'] at h1
  have h2 := Nat.mul_le_mul_right (3 ^ m) (show n - first ≤ 3 by omega)
  rw [Nat.pow_succ, Nat.mul_comm (3 ^ m) 3]
  omega
theorem rPicks_sp (n : Nat) (hn : n ≤ 3) : ∀ (m first : Nat) (L : LH), m ≤ 3 → first ≤ 100 →
  Sp X 120 [.int .i64 first, .int .i64 n, .int .i64 m] L (fun v L' => GrowL L 28 1 encI L' v ((pickL n m first).map natI)) := by
 intro m
 induction m with
 | zero =>
  intro first L hm hf
  refine Sp.enter (n := 43) Tryz.func120 rfl rfl rfl rfl fun C hX _ hL0 r => ?_
  refine W.go 99 rfl ?_
  refine W.split rfl rfl rfl (fun c => ?_) (fun c => absurd c (by decide))
  refine W.go 99 rfl ?_
  refine W.pub 6 (.inr ⟨_, _, _, rfl⟩) rfl rfl ?_
  intro b1 hb1 _
  refine W.ret r rfl rfl ?_
  exact GrowL.one (l := ([] : List Int)) (a := none) (c := 0) SlAt.empty (Le.put hb1 _) (put_same _ _ _) hb1
 | succ m ih =>
  intro first L hm hf
  have hpow : 3 ^ m ≤ 3 ^ 2 := Nat.pow_le_pow_right (by omega) (by omega)
  refine Sp.enter (n := 43) Tryz.func120 rfl rfl rfl rfl fun C hX _ hL0 r => ?_
  refine W.go 99 rfl ?_
  refine W.split rfl rfl rfl (fun e0 => W.go 99 rfl ?_) (fun e0 => W.go 99 rfl ?_)
  ·exfalso; simp at e0; omega
  refine W.loop (fun w E B L' => ∃ (i : Nat) (v : Value) (F : LH) (rs : List (Rw Int)), w = n - i ∧ first ≤ i ∧ (i ≤ n ∨ i = first) ∧ Le L F ∧ rs.map Prod.snd = ((List.range' first (i - first)).flatMap fun i => (pickL n m (i + 1)).map (i :: ·)).map natI ∧ Grow F 1 28 encRw L' v rs ∧ (∀ x ∈ rs, RwOk F 1 encI x) ∧
    E = [(1, .v (.int .i64 n)), (2, .v (.int .i64 ((m + 1 : Nat) : Int))), (7, .v v), (8, .v (.int .i64 i))] ∧ B = [])
   ⟨first, _, L, [], rfl, Nat.le_refl _, .inr rfl, Le.refl _, by simp, Grow.nil (Le.refl _), (fun x hx => by cases hx), rfl, rfl⟩ (by exact ⟨rfl, rfl, rfl, rfl, trivial⟩) trivial ?_
  rintro _ _ _ L2 ⟨i, v, F, rs, rfl, hfi, hin, hLF, hrs, hgr, hrk, rfl, rfl⟩ again
  refine W.go 99 rfl ?_
  refine W.split rfl rfl rfl (fun e1 => W.go 99 rfl ?_) (fun e1 => W.go 99 rfl ?_)
  ·have hil : i < n := by simpa using e1
   rw [wrap64_in _ (by omega) (by omega), wrap64_in _ (by omega) (by omega), show ((i : Int) + 1) = ((i + 1 : Nat) : Int) by omega, show (((m + 1 : Nat) : Int) - 1) = (m : Int) by omega]
   have hc := ih (i + 1) F (by omega) (by omega) |>.frame hgr.1
   rw [← hX] at hc
   refine W.eff rfl rfl rfl (Ef.call rfl (hc)) ?_
   rintro _ _ _ ⟨_, rfl, rfl, F3, hq, hp⟩
   rename_i L3 _
   obtain ⟨qa, qc, rfl⟩ := hq.slice
   have hrows := hq.at.2
   have hFF3 := hq.hle
   have hgr3 : Grow F3 1 28 encRw L3 v rs := hgr.call hp
   have hrk3 : ∀ x ∈ rs, RwOk F3 1 encI x := fun x hx => (hrk x hx).le hFF3
   have hpl := pick_len hn m (i + 1)
   have hpm : ∀ l ∈ pickL n m (i + 1), l.length = m := fun l hl => (pick_mem hl).1
   have hsum : ((List.range' first (i + 1 - first)).flatMap fun i => (pickL n m (i + 1)).map (i :: ·)) = ((List.range' first (i - first)).flatMap fun i => (pickL n m (i + 1)).map (i :: ·)) ++ (pickL n m (i + 1)).map (i :: ·) := by
    rw [show i + 1 - first = (i - first) + 1 by omega, List.range'_concat, List.flatMap_append]
    simp
    rw [show first + (i - first) = i by omega]
   have hrl : rs.length ≤ 27 := by
    have h1 := congrArg List.length hrs
    rw [List.length_map, List.length_map] at h1
    have h2 := flatMap_le (f := fun i => (pickL n m (i + 1)).map (i :: ·)) (k := 3 ^ m) (List.range' first (i - first)) fun x _ => by rw [List.length_map]; exact pick_len hn m (x + 1)
    rw [List.length_range'] at h2
    have h3 := Nat.mul_le_mul (show i - first ≤ 3 by omega) hpow
    omega
   generalize hP : pickL n m (i + 1) = P at hrows hpl hpm hsum
   refine W.go 99 rfl ?_
   refine W.loop (fun w E B L' => ∃ (k : Nat) (v : Value) (F' : LH) (rs' : List (Rw Int)), w = P.length - k ∧ k ≤ P.length ∧ Le F3 F' ∧ rs'.map Prod.snd = (((List.range' first (i - first)).flatMap fun i => (pickL n m (i + 1)).map (i :: ·)) ++ (P.take k).map (i :: ·)).map natI ∧ Grow F' 1 28 encRw L' v rs' ∧ (∀ x ∈ rs', RwOk F' 1 encI x) ∧ rs'.length = rs.length + k ∧
     E = [(1, .v (.int .i64 n)), (2, .v (.int .i64 ((m + 1 : Nat) : Int))), (7, .v v), (8, .v (.int .i64 i)), (9, .v (.slice qa (P.map natI).length qc)), (10, .v (.int .i64 k))] ∧ B = [])
    ⟨0, v, F3, rs, rfl, by omega, Le.refl _, by rw [hrs]; simp, hgr3, hrk3, rfl, rfl, rfl⟩ (by exact ⟨rfl, rfl, rfl, rfl, rfl, rfl, trivial⟩) trivial ?_
   clear hgr3 hrk3 hrk hgr
   rintro _ _ _ L4 ⟨k, v, F4, rs4, rfl, hkP, hF34, hrs4, hgr4, hrk4, hl4, rfl, rfl⟩ again2
   refine W.go 99 rfl ?_
   refine W.split rfl rfl rfl (fun e2 => W.go 99 rfl ?_) (fun e2 => W.go 99 rfl ?_)
   ·have hkl : k < P.length := by simp at e2; omega
    obtain ⟨x, hx⟩ : ∃ x, P[k]? = some x := ⟨_, List.getElem?_eq_getElem hkl⟩
    have hxm := hpm x (List.mem_of_getElem? hx)
    have hxn : (natI x).length = m := by simp [natI, hxm]
    obtain ⟨qa', rfl⟩ := hrows.addr (i := k) (by simpa using hkl)
    obtain ⟨xa, xc, hxcell, hxs⟩ := (hrows.le hF34).row (i := k) (l := natI x) (by rw [List.getElem?_map, hx]; rfl)
    refine W.vf rfl rfl rfl rfl (Vf.idx1 rfl rfl rfl rfl rfl rfl rfl ((show k < (P.map natI).length by simpa using hkl))) ?_
    refine W.vf rfl rfl rfl rfl (Vf.load rfl rfl rfl (hgr4.1.cell hxcell)) ?_
    refine W.go 99 rfl ?_
    refine W.pub 34 (.inr ⟨_, _, _, rfl⟩) rfl rfl ?_
    intro b1 hb1 _
    have hp1 := Le.put hb1 (.cells #[.int .i64 i] 3)
    have hlit : Grow L4 1 3 encI (L4.put b1 (.cells #[.int .i64 i] 3)) (.slice (some ⟨b1, 0, none⟩) 1 1) [(i : Int)] := Grow.lit (l := [(i : Int)]) encI_len hp1 (put_same _ _ _) hb1
    refine W.eff rfl rfl rfl (Ef.grow rfl rfl rfl rfl rfl rfl rfl rfl rfl encI_len encI_sg hlit (ls := natI x) (.sl (hxs.le (hgr4.1.trans hp1)) encI_len rfl) (by rw [hxn]; simp; omega)) ?_
    rintro _ _ _ ⟨v1, rfl, rfl, hg1, -⟩
    rename_i L5
    have hg1 : Grow L4 1 3 encI L5 v1 (natI (i :: x)) := hg1
    obtain ⟨wa, wc, rfl, -⟩ := hg1.slice
    obtain ⟨F5, hFF5, hF5L, hw5, hf5⟩ := hg1.foot encI_len hgr4.1
    have hgr5 : Grow F5 1 28 encRw L5 v rs4 := hgr4.rebase hg1.1 hF5L hf5
    refine W.go 99 rfl ?_
    refine W.eff rfl rfl rfl (Ef.grow rfl rfl rfl rfl rfl rfl rfl rfl rfl encRw_len encRw_sg hgr5 (ls := [((wa, (natI (i :: x)).length, wc), natI (i :: x))]) (.own rfl rfl rfl rfl) (by simp; omega)) ?_
    rintro _ _ _ ⟨v2, rfl, rfl, hg6, -⟩
    refine W.go 99 rfl ?_
    refine W.again (again2 _ _ _ _ (by omega) ⟨k + 1, v2, F5, _, rfl, by omega, hF34.trans hFF5, ?_, hg6, ?_, by simp; omega, rfl, rfl⟩) ⟨rfl, rfl, rfl, rfl, rfl, congrArg some (inc64 (by omega)), trivial⟩ trivial
    ·obtain ⟨hk', rfl⟩ := List.getElem?_eq_some_iff.1 hx
     rw [List.map_append, hrs4, List.take_succ_eq_append_getElem hk']
     simp only [List.map_append, List.map_cons, List.map_nil, List.append_assoc]
    ·intro y hy
     rcases List.mem_append.1 hy with hy | hy
     ·exact (hrk4 y hy).le hFF5
     ·rw [List.mem_singleton.1 hy]; exact ⟨hw5, rfl⟩
   ·have hke : k = P.length := by simp at e2; omega
    refine W.again (again _ _ _ _ (by omega) ⟨i + 1, v, F4, rs4, rfl, by omega, .inl (by omega), hLF.trans (hFF3.trans hF34), ?_, hgr4, hrk4, rfl, rfl⟩) ⟨rfl, rfl, rfl, congrArg some (inc64 (by omega)), trivial⟩ trivial
    rw [hrs4, hke, List.take_length, hsum]
  ·have hie : n ≤ i := by simpa using e1
   refine W.ret r rfl rfl ?_
   refine ⟨F, rs, hLF, ?_, hgr, hrk⟩
   have hif : i - first = n - first := by omega
   rw [hrs, pickL, hif]
theorem Only_sp (s : St) (p : Pt) (la : Option Addr) (lc : Nat) (l : List Nat) (L : LH) (h : StAt L s p) (hl : IntsAt L la (natI l)) (hlt : ∀ i ∈ l, i < s.cones.length) (hll : l.length ≤ 1000) (hsc : s.cones.length ≤ 1000) :
  Sp X 52 [stA s p, .slice la (natI l).length lc] L (fun v L' => ∃ ca cc, v = stA (onlyS s l) ⟨p.sa, ca, p.c1, cc⟩ ∧ Le L L' ∧ StAt L' (onlyS s l) ⟨p.sa, ca, p.c1, cc⟩) := by
 have hnl : (natI l).length = l.length := by simp [natI]
 refine Sp.enter (n := 27) Tryz.func52 rfl rfl rfl rfl fun C hX _ hL0 r => ?_
 refine W.go 99 rfl ?_
 refine W.loop (fun w E B L' => ∃ (j : Nat) (v : Value), w = l.length - j ∧ j ≤ l.length ∧ Grow L 4 27 encCo L' v ((l.take j).filterMap fun i => s.cones[i]?) ∧ ((l.take j).filterMap fun i => s.cones[i]?).length = j ∧
   E = [(1, .v (.slice la (natI l).length lc)), (2, .p 0 0), (4, .p 1 0), (5, .v v), (6, .v (.int .i64 j))] ∧ B = [some ⟨cellsS (.v (stA s p)), 25⟩, some ⟨List.map SV.v ti25.z.cells.toList, 25⟩])
  ⟨0, .slice none 0 0, rfl, by omega, Grow.nil (Le.refl _), rfl, rfl, rfl⟩ (by exact ⟨rfl, rfl, rfl, rfl, rfl, trivial⟩) (by exact ⟨rfl, rfl, trivial⟩) ?_
 rintro _ _ _ L1 ⟨j, v, rfl, hj, hg, hgl, rfl, rfl⟩ again
 obtain ⟨va, vc, rfl, -⟩ := hg.slice
 refine W.go 99 rfl ?_
 refine W.split rfl rfl rfl (fun e1 => W.go 99 rfl ?_) (fun e1 => W.go 99 rfl ?_)
 ·have hjl : j < l.length := by simp at e1; omega
  obtain ⟨i, hi⟩ : ∃ i, l[j]? = some i := ⟨_, List.getElem?_eq_getElem hjl⟩
  have hil := hlt i (List.mem_of_getElem? hi)
  obtain ⟨c, hc⟩ : ∃ c, s.cones[i]? = some c := ⟨_, List.getElem?_eq_getElem hil⟩
  obtain ⟨p1, p2, n1, n2⟩ := p
  obtain ⟨ca, hca⟩ := h.co.addr hil
  obtain rfl : p2 = some ca := hca
  obtain ⟨la', rfl⟩ := hl.addr (i := j) (by omega)
  have hic : L.cell? (la'.add j) = some (.int .i64 i) := hl.int (by simp [natI, hi])
  have htk : (l.take (j + 1)).filterMap (fun i => s.cones[i]?) = (l.take j).filterMap (fun i => s.cones[i]?) ++ [c] := by
   obtain ⟨_, rfl⟩ := List.getElem?_eq_some_iff.1 hi
   rw [List.take_succ_eq_append_getElem hjl, List.filterMap_append]
   simp [hc]
  refine W.drawn (by kernel_rfl) L hg.1 ?_
  refine DD.run' [0, 1, 2, 3, 4] rfl ?_
  refine DD.vf 5 rfl rfl rfl rfl rfl (Vf.idx1 rfl rfl rfl rfl rfl rfl rfl ((show j < (natI l).length by omega))) ?_
  refine DD.vf 6 rfl rfl rfl rfl rfl (Vf.load rfl rfl rfl (hic)) ?_
  refine DD.vf 7 rfl rfl rfl rfl rfl (Vf.idx rfl rfl rfl rfl rfl rfl (hil)) ?_
  refine DD.vf 8 rfl rfl rfl rfl rfl (Vf.loadN rfl rfl rfl (h.co.whole hc rfl)) ?_
  refine DD.run' [9] rfl ?_
  refine DD.act 10 rfl rfl rfl rfl rfl (Ef.grow rfl rfl rfl rfl rfl rfl rfl rfl rfl encCo_len encCo_sg hg (ls := [c]) (.own rfl rfl rfl rfl) (by simp; omega)) ((by rintro _ _ _ ⟨_, rfl, rfl, hg2, _⟩; exact ⟨hg2.1, rfl, .inl rfl⟩)) ?_
  rintro _ _ _ ⟨v2, rfl, rfl, hg2, -⟩
  refine DD.run' [11] rfl ?_
  refine .fin rfl ?_
  refine W.go 99 rfl ?_
  exact W.again (again _ _ _ _ (by omega) ⟨j + 1, v2, rfl, by omega, by rw [htk]; exact hg2, by rw [htk, List.length_append, hgl]; rfl, rfl, rfl⟩) ⟨rfl, rfl, rfl, rfl, congrArg some (inc64 (by omega)), trivial⟩ ⟨rfl, rfl, trivial⟩
 ·have hje : j = l.length := by simp at e1; omega
  rw [hje, List.take_length] at hg hgl
  have hol : (onlyS s l).cones.length = l.length := only_len hlt
  refine W.ret r rfl rfl ?_
  exact ⟨va, vc, by rw [hje, List.take_length]; rfl, hg.1, h.sh.le hg.1, (hg.at encCo_len).2, h.l1, by show (onlyS s l).cones.length ≤ _; omega⟩
theorem rCrowd_sp (s : St) (p : Pt) (ha : Option Addr) (hc : Nat) (hs : List Int) (L : LH) (h : AskAt L s p ha hs) :
  Sp X 70 [stA s p, .slice ha hs.length hc] L (fun v L' => ∃ u, v = .tuple #[u, .int .i64 (CrowdE s hs).2] ∧ Got L 1 encI (CrowdE s hs).1 u L') := by
 unfold CrowdE
 rw [open_ask0]
 refine Sp.enter (n := 47) Tryz.func70 rfl rfl rfl rfl fun C hX _ hL0 r => ?_
 refine W.go 99 rfl ?_
 refine W.eff rfl rfl rfl (Ef.call rfl (asked_sp s p ha hc hs L h)) ?_
 rintro _ _ _ ⟨_, rfl, rfl, rfl, rfl⟩
 refine W.go 99 rfl ?_
 refine W.split rfl rfl rfl (fun e1 => W.go 99 rfl ?_) (fun e1 => W.go 99 rfl ?_)
 ·refine W.ret r rfl rfl ?_
  have h1 : askE s hs ≠ 0 := by simpa using e1
  rw [if_pos h1]
  exact ⟨_, rfl, Got.nil (Le.refl _)⟩
 have h1 : askE s hs = 0 := by simpa using e1
 rw [if_neg (by rw [h1]; simp)] at r
 obtain ⟨hok, hhk⟩ := ask_ok h1
 have hc3 := hok.c3
 refine W.loop (fun w E B L' => ∃ m : Nat, w = s.cones.length - m ∧ m ≤ s.cones.length ∧ Le L L' ∧ (∀ j, j < m → ∀ l ∈ choL s.cones.length (j + 1), canS (onlyS s l) hs = true) ∧
   E = [(1, .v (.slice ha hs.length hc)), (2, .p 0 0), (7, .v (.int .i64 ((m + 1 : Nat) : Int)))] ∧ B = [some ⟨cellsS (.v (stA s p)), 25⟩])
  ⟨0, rfl, by omega, Le.refl _, fun j hj => absurd hj (by omega), rfl, rfl⟩ (by exact ⟨rfl, rfl, rfl, trivial⟩) (by exact ⟨rfl, trivial⟩) ?_
 rintro _ _ _ L1 ⟨m, rfl, hm, hl1, hall, rfl, rfl⟩ again
 refine W.go 99 rfl ?_
 refine W.split rfl rfl rfl (fun e2 => W.go 99 rfl ?_) (fun e2 => W.go 99 rfl ?_)
 ·have hmn : m < s.cones.length := by simp at e2; omega
  have hp := rPicks_sp (X := C.X) s.cones.length hc3 (m + 1) 0 L1 (by omega) (by omega)
  rw [pick_cho hc3 (by omega)] at hp
  refine W.eff rfl rfl rfl (Ef.call rfl (hp)) ?_
  rintro _ _ _ ⟨_, rfl, rfl, hg⟩
  rename_i L2 _
  obtain ⟨hPl, hPm⟩ := cho_len (m := m + 1) hc3 (by omega)
  have hnone : (∀ l ∈ choL s.cones.length (m + 1), canS (onlyS s l) hs = true) → ∀ j, j < m + 1 → ∀ l ∈ choL s.cones.length (j + 1), canS (onlyS s l) hs = true := fun hh j hj => by
   rcases Nat.lt_succ_iff_lt_or_eq.1 hj with hj | rfl
   ·exact hall j hj
   ·exact hh
  have hsome := fun (k : Nat) (y : List Nat) hy hp hk => crowd_some (hs := hs) (k := k) (y := y) hok hmn hall hy hp hk
  generalize choL s.cones.length (m + 1) = P at hg hPl hPm hnone hsome
  obtain ⟨qa, qc, rfl⟩ := hg.slice
  have hrows := hg.at.2
  have hl2 := hl1.trans hg.hle
  refine W.go 99 rfl ?_
  refine W.loop (fun w E B L' => ∃ k : Nat, w = P.length - k ∧ k ≤ P.length ∧ Le L2 L' ∧ (∀ j x, j < k → P[j]? = some x → canS (onlyS s x) hs = true) ∧
    E = [(1, .v (.slice ha hs.length hc)), (2, .p 0 0), (7, .v (.int .i64 ((m + 1 : Nat) : Int))), (8, .v (.slice qa (P.map natI).length qc)), (9, .v (.int .i64 k))] ∧ B = [some ⟨cellsS (.v (stA s p)), 25⟩])
   ⟨0, rfl, by omega, Le.refl _, fun j x hj => absurd hj (by omega), rfl, rfl⟩ (by exact ⟨rfl, rfl, rfl, rfl, rfl, trivial⟩) (by exact ⟨rfl, trivial⟩) ?_
  rintro _ _ _ L3 ⟨k, rfl, hk, hl3, hsofar, rfl, rfl⟩ again2
  refine W.go 99 rfl ?_
  refine W.split rfl rfl rfl (fun e3 => W.go 99 rfl ?_) (fun e3 => W.go 99 rfl ?_)
  ·have hkl : k < P.length := by simp at e3; omega
   obtain ⟨x, hx⟩ : ∃ x, P[k]? = some x := ⟨_, List.getElem?_eq_getElem hkl⟩
   obtain ⟨hxm, hxl⟩ := hPm x (List.mem_of_getElem? hx)
   obtain ⟨qa', rfl⟩ := hrows.addr (i := k) (by simpa using hkl)
   obtain ⟨xa, xc, hxc, hxs⟩ := (hrows.le hl3).row (i := k) (l := natI x) (by rw [List.getElem?_map, hx]; rfl)
   have hkn : k < (P.map natI).length := by simpa using hkl
   have h3 := h.le (hl2.trans hl3)
   refine W.drawn (by kernel_rfl) _ (Le.refl _) ?_
   refine DD.run' [0, 1, 2, 6] rfl ?_
   refine DD.vf 3 rfl rfl rfl rfl rfl (Vf.idx1 rfl rfl rfl rfl rfl rfl rfl (hkn)) ?_
   refine DD.vf 4 rfl rfl rfl rfl rfl (Vf.load rfl rfl rfl (hxc)) ?_
   refine DD.act 5 rfl rfl rfl rfl rfl (Ef.call rfl ((Only_sp s p xa xc x L3 h3.st hxs hxl (by omega) (by omega)))) ((by rintro _ _ _ ⟨_, rfl, rfl, _, _, rfl, hl, _⟩; exact ⟨hl, rfl, .inl rfl⟩)) ?_
   rintro _ _ _ ⟨_, rfl, rfl, oa, oc, rfl, hl4, hst4⟩
   rename_i L4
   refine DD.act 7 rfl rfl rfl rfl rfl (Ef.call rfl ((rCan_sp (onlyS s x) ⟨p.sa, oa, p.c1, oc⟩ ha hc hs L4 ⟨hst4, h3.he.le hl4, h3.gl.le hl4, h3.hn⟩ (only_ok hok hxl (by omega)) ⟨hhk.len, hhk.r⟩))) ((by rintro _ _ _ ⟨_, rfl, rfl, rfl, hl⟩; exact ⟨hl4.trans hl, rfl, .inl rfl⟩)) ?_
   rintro _ _ _ ⟨_, rfl, rfl, rfl, hl5⟩
   refine DD.run' [8] rfl ?_
   refine .fin rfl ?_
   refine W.go 99 rfl ?_
   refine W.split rfl rfl rfl (fun e4 => W.go 99 rfl ?_) (fun e4 => W.go 99 rfl ?_)
   ·have hcan : canS (onlyS s x) hs = false := by simpa using e4
    refine W.vf rfl rfl rfl rfl (Vf.idx1 rfl rfl rfl rfl rfl rfl rfl (hkn)) ?_
    refine W.vf rfl rfl rfl rfl (Vf.load rfl rfl rfl ((hl4.trans hl5).cell hxc)) ?_
    refine W.go 99 rfl ?_
    refine W.ret r rfl rfl ?_
    rw [hsome k x hx hcan hsofar]
    exact ⟨_, rfl, xa, xc, rfl, hl2.trans (hl3.trans (hl4.trans hl5)), hxs.le (hl4.trans hl5)⟩
   ·have hcan : canS (onlyS s x) hs = true := by simpa using e4
    exact W.again (again2 _ _ _ _ (by omega) ⟨k + 1, rfl, by omega, hl3.trans (hl4.trans hl5), (fun j y hj hy => by
     rcases Nat.lt_succ_iff_lt_or_eq.1 hj with hj | rfl
     ·exact hsofar j y hj hy
     ·rw [hx] at hy; cases hy; exact hcan), rfl, rfl⟩) ⟨rfl, rfl, rfl, rfl, congrArg some (inc64 (by omega)), trivial⟩ ⟨rfl, trivial⟩
  ·have hke : k = P.length := by simp at e3; omega
   exact W.again (again _ _ _ _ (by omega) ⟨m + 1, rfl, by omega, hl2.trans hl3, hnone (fun l hl => by
    obtain ⟨j, hj⟩ := List.mem_iff_getElem?.1 hl
    have hjl := (List.getElem?_eq_some_iff.1 hj).1
    exact hsofar j l (by omega) hj), rfl, rfl⟩) ⟨rfl, rfl, congrArg some (inc64 (by omega)), trivial⟩ ⟨rfl, trivial⟩
 ·have hme : m = s.cones.length := by simp at e2; omega
  refine W.ret r rfl rfl ?_
  rw [crowd_none hok fun j hj => hall j (by omega)]
  exact ⟨_, rfl, Got.nil hl1⟩
end Go.Mz


namespace Go.Mz
open Go.Conc
theorem W.asLit {P : Program} {C : Cx P} {n : Nat} {ds : List Deferred} {k : List Item} {E : Env} {B : List (Option Bx)} {L : LH} (s : Nat) {sv : SV} {p : Bool} (hs : get E s = some sv) (hb : boolOf sv = some p) (w : W C n ds k ((s, .lit p) :: E) B L) : W C n ds k E B L :=
 W.bool s hs hb (fun e => by rw [e] at w; exact w) (fun e => by rw [e] at w; exact w)
end Go.Mz


set_option maxRecDepth 100000
namespace Go.Mz
open Go.Conc Go.Proofs
variable {X : Logic Tryz.prog}
theorem rVerdict_sp (s : St) (p : Pt) (ha : Option Addr) (hc : Nat) (hs : List Int) (i : Int) (L : LH) (h : AskAt L s p ha hs) :
  Sp X 72 [stA s p, .slice ha hs.length hc, .int .i64 i] L (fun v L' => v = .tuple #[.int .i64 (VerdE s hs i).1, .int .i64 (VerdE s hs i).2] ∧ Le L L') := by
 have hop : openE s hs [i] [] = if askE s hs ≠ 0 then askE s hs else if inB i 0 ((s.cones.length : Int) - 1) then 0 else 3 := by rw [open_ask]; simp
 have hm3 : (MostE s hs).2.2 = askE s hs := by
  unfold MostE
  rw [open_ask0]
  split
  ·rfl
  ·rename_i h; simp at h; exact h.symm
 unfold VerdE
 rw [hop]
 refine Sp.enter (n := 76) Tryz.func72 rfl rfl rfl rfl fun C hX _ hL0 r => ?_
 refine W.go 99 rfl ?_
 refine W.eff rfl rfl rfl (Ef.call rfl (rMost_sp s p ha hc hs L h)) ?_
 rintro _ _ _ ⟨_, rfl, rfl, u, rfl, ua, uc, rfl, hl1, _⟩
 refine W.go 99 rfl ?_
 rename_i L1 _
 rw [hm3]
 refine W.split rfl rfl rfl (fun e1 => W.go 99 rfl ?_) (fun e1 => W.go 99 rfl ?_)
 ·refine W.ret r rfl rfl ?_
  have h1 : askE s hs ≠ 0 := by simpa using e1
  rw [if_pos h1, if_pos h1]
  exact ⟨rfl, hl1⟩
 have h1 : askE s hs = 0 := by simpa using e1
 obtain ⟨hok, hhk⟩ := ask_ok h1
 have hc3 := hok.c3
 have hm2 : (MostE s hs).2.1 = cnt (mostS s hs) := by unfold MostE; rw [open_ask0, if_neg (by rw [h1]; simp)]
 rw [hm2]
 have h1n : ¬ askE s hs ≠ 0 := by rw [h1]; simp
 rw [if_neg h1n] at r
 rw [wrap64_in _ (by omega) (by omega)]
 refine W.eff rfl rfl rfl (Ef.call rfl (inside_sp _ _ _ _)) ?_
 rintro _ _ _ ⟨_, rfl, rfl, rfl, rfl⟩
 refine W.go 99 rfl ?_
 refine W.split rfl rfl rfl (fun e2 => W.go 99 rfl ?_) (fun e2 => W.go 99 rfl ?_)
 ·refine W.ret r rfl rfl ?_
  have h2 : inB i 0 ((s.cones.length : Int) - 1) = false := by simpa using e2
  rw [h2]
  exact ⟨rfl, hl1⟩
 have h2 : inB i 0 ((s.cones.length : Int) - 1) = true := by simpa using e2
 rw [if_pos h2, if_neg (by simp)] at r
 obtain ⟨i, rfl⟩ := Int.eq_ofNat_of_zero_le (inB_iff.1 h2).1
 have hin : i < s.cones.length := by have := (inB_iff.1 h2).2; omega
 refine W.eff rfl rfl rfl (Ef.call rfl (rPlans_sp s p ha hc hs false hok hhk _ none 0 [] L1 rfl (h.le hl1) SlAt.empty planV_nil)) ?_
 rintro _ _ _ ⟨_, rfl, rfl, hg⟩
 rename_i L2 _
 rw [plansG_nil hok] at hg
 have hlen : ∀ x ∈ plansS s hs allC false, x.length = s.cones.length := fun x hx => plan_len hx
 have hll := plans_lenX (hs := hs) hok (each := false)
 have hver : verdictS s hs i = if ((plansS s hs allC false).filter (goodP (mostS s hs))).all (inP i) then 1 else if ((plansS s hs allC false).filter (goodP (mostS s hs))).any (inP i) then 3 else 2 := rfl
 rw [Int.toNat_natCast, hver] at r
 clear hver
 generalize plansS s hs allC false = l at hg hlen hll r
 generalize mostS s hs = y0 at r
 obtain ⟨ad, cap, rfl⟩ := hg.slice
 have hrows := hg.at.2
 have hl2 := hl1.trans hg.hle
 clear hg
 refine W.go 99 rfl ?_
 refine W.loop (fun m E B L' => ∃ (k : Nat) (b1 b2 : Bool), m = l.length - k ∧ k ≤ l.length ∧ L2 = L' ∧ ((l.take k).filter (goodP y0)).any (inP i) = b1 ∧ ((l.take k).filter (goodP y0)).all (inP i) = b2 ∧
   E = [(2, .v (.int .i64 i)), (9, .v (.int .i64 (cnt y0))), (11, .lit b1), (12, .lit b2), (13, .v (.slice ad l.length cap)), (14, .v (.int .i64 k))] ∧ B = [])
  ⟨0, false, true, rfl, by omega, rfl, by simp, by simp, rfl, rfl⟩ (by exact ⟨rfl, rfl, rfl, rfl, rfl, rfl, trivial⟩) trivial ?_
 rintro _ _ _ _ ⟨k, b1, b2, rfl, hk, rfl, hb1, hb2, rfl, rfl⟩ again
 refine W.go 99 rfl ?_
 refine W.split rfl rfl rfl (fun e3 => W.go 99 rfl ?_) (fun e3 => W.go 99 rfl ?_)
 ·have hkl : k < l.length := by simpa using e3
  obtain ⟨x, hx⟩ : ∃ x, l[k]? = some x := ⟨_, List.getElem?_eq_getElem hkl⟩
  have hxl := hlen x (List.mem_of_getElem? hx)
  obtain ⟨ad', rfl⟩ := hrows.addr hkl
  obtain ⟨xa, xc, hxc, hxs⟩ := hrows.row hx
  have hix : i < x.length := by omega
  obtain ⟨xa', rfl⟩ := hxs.addr hix
  have hge := List.getElem?_eq_getElem hix
  have hinp : inP i x = decide (0 ≤ x[i].shelf) := by unfold inP; rw [hge]
  have htk : l.take (k + 1) = l.take k ++ [x] := by
   obtain ⟨_, rfl⟩ := List.getElem?_eq_some_iff.1 hx
   exact List.take_succ_eq_append_getElem hkl
  refine W.vf rfl rfl rfl rfl (Vf.idx1 rfl rfl rfl rfl rfl rfl rfl (hkl)) ?_
  refine W.vf rfl rfl rfl rfl (Vf.load rfl rfl rfl (hxc)) ?_
  refine W.go 99 rfl ?_
  refine W.eff rfl rfl rfl (Ef.call rfl (rCount_sp (some xa') xc x L2 hxs (by omega))) ?_
  rintro _ _ _ ⟨_, rfl, rfl, rfl, rfl⟩
  refine W.go 99 rfl ?_
  refine W.split rfl rfl rfl (fun e4 => W.go 99 rfl ?_) (fun e4 => W.go 99 rfl ?_)
  ·have hgood : goodP y0 x = true := by unfold goodP; simpa using e4
   have hf : (l.take (k + 1)).filter (goodP y0) = (l.take k).filter (goodP y0) ++ [x] := by rw [htk, List.filter_append, List.filter_cons_of_pos hgood]; rfl
   have hn1 : ((l.take (k + 1)).filter (goodP y0)).any (inP i) = (b1 || decide (0 ≤ x[i].shelf)) := by rw [hf, List.any_append, hb1, ← hinp]; simp
   have hn2 : ((l.take (k + 1)).filter (goodP y0)).all (inP i) = (b2 && decide (0 ≤ x[i].shelf)) := by rw [hf, List.all_append, hb2, ← hinp]; simp
   refine W.drawn (by kernel_rfl) _ (Le.refl _) ?_
   refine DD.run' [0, 1, 12, 13] rfl ?_
   cases b1 with
   | true =>
    cases b2 with
    | true =>
     refine DD.run' [2, 3, 4, 5, 6, 7, 8, 9, 10, 11] rfl ?_
     refine DD.run' [14, 15, 18] rfl ?_
     refine DD.vf 16 rfl rfl rfl rfl rfl (Vf.idx1 rfl rfl rfl rfl rfl rfl rfl (hkl)) ?_
     refine DD.vf 17 rfl rfl rfl rfl rfl (Vf.load rfl rfl rfl (hxc)) ?_
     refine DD.vf 19 rfl rfl rfl rfl rfl (Vf.idx rfl rfl rfl rfl rfl rfl (hix)) ?_
     refine DD.run' [20] rfl ?_
     refine DD.vf 21 rfl rfl rfl rfl rfl (Vf.load rfl rfl rfl (hxs.fld hge 0 rfl)) ?_
     refine DD.run' [22, 23, 24, 25] rfl ?_
     refine .fin rfl ?_
     refine W.go 99 rfl ?_
     refine W.asLit 12 rfl rfl ?_
     exact W.again (again _ _ _ _ (by omega) ⟨k + 1, true, (decide (0 ≤ x[i].shelf)), rfl, by omega, rfl, by rw [hn1]; simp, by rw [hn2]; simp, rfl, rfl⟩) ⟨rfl, rfl, rfl, rfl, rfl, congrArg some (inc64 (by omega)), trivial⟩ trivial
    | false =>
     refine DD.run' [2, 3, 4, 5, 6, 7, 8, 9, 10, 11] rfl ?_
     refine DD.run' [14, 15, 16, 17, 18, 19, 20, 21, 22, 23, 24, 25] rfl ?_
     refine .fin rfl ?_
     refine W.go 99 rfl ?_
     exact W.again (again _ _ _ _ (by omega) ⟨k + 1, true, false, rfl, by omega, rfl, by rw [hn1]; simp, by rw [hn2]; simp, rfl, rfl⟩) ⟨rfl, rfl, rfl, rfl, rfl, congrArg some (inc64 (by omega)), trivial⟩ trivial
   | false =>
    cases b2 with
    | true =>
     refine DD.run' [2, 3, 6] rfl ?_
     refine DD.vf 4 rfl rfl rfl rfl rfl (Vf.idx1 rfl rfl rfl rfl rfl rfl rfl (hkl)) ?_
     refine DD.vf 5 rfl rfl rfl rfl rfl (Vf.load rfl rfl rfl (hxc)) ?_
     refine DD.vf 7 rfl rfl rfl rfl rfl (Vf.idx rfl rfl rfl rfl rfl rfl (hix)) ?_
     refine DD.run' [8] rfl ?_
     refine DD.vf 9 rfl rfl rfl rfl rfl (Vf.load rfl rfl rfl (hxs.fld hge 0 rfl)) ?_
     refine DD.run' [10, 11] rfl ?_
     refine DD.run' [14, 15, 18] rfl ?_
     refine DD.vf 16 rfl rfl rfl rfl rfl (Vf.idx1 rfl rfl rfl rfl rfl rfl rfl (hkl)) ?_
     refine DD.vf 17 rfl rfl rfl rfl rfl (Vf.load rfl rfl rfl (hxc)) ?_
     refine DD.vf 19 rfl rfl rfl rfl rfl (Vf.idx rfl rfl rfl rfl rfl rfl (hix)) ?_
     refine DD.run' [20] rfl ?_
     refine DD.vf 21 rfl rfl rfl rfl rfl (Vf.load rfl rfl rfl (hxs.fld hge 0 rfl)) ?_
     refine DD.run' [22, 23, 24, 25] rfl ?_
     refine .fin rfl ?_
     refine W.go 99 rfl ?_
     refine W.asLit 11 rfl rfl ?_
     refine W.asLit 12 rfl rfl ?_
     exact W.again (again _ _ _ _ (by omega) ⟨k + 1, (decide (0 ≤ x[i].shelf)), (decide (0 ≤ x[i].shelf)), rfl, by omega, rfl, by rw [hn1]; simp, by rw [hn2]; simp, rfl, rfl⟩) ⟨rfl, rfl, rfl, rfl, rfl, congrArg some (inc64 (by omega)), trivial⟩ trivial
    | false =>
     refine DD.run' [2, 3, 6] rfl ?_
     refine DD.vf 4 rfl rfl rfl rfl rfl (Vf.idx1 rfl rfl rfl rfl rfl rfl rfl (hkl)) ?_
     refine DD.vf 5 rfl rfl rfl rfl rfl (Vf.load rfl rfl rfl (hxc)) ?_
     refine DD.vf 7 rfl rfl rfl rfl rfl (Vf.idx rfl rfl rfl rfl rfl rfl (hix)) ?_
     refine DD.run' [8] rfl ?_
     refine DD.vf 9 rfl rfl rfl rfl rfl (Vf.load rfl rfl rfl (hxs.fld hge 0 rfl)) ?_
     refine DD.run' [10, 11] rfl ?_
     refine DD.run' [14, 15, 16, 17, 18, 19, 20, 21, 22, 23, 24, 25] rfl ?_
     refine .fin rfl ?_
     refine W.go 99 rfl ?_
     refine W.asLit 11 rfl rfl ?_
     exact W.again (again _ _ _ _ (by omega) ⟨k + 1, (decide (0 ≤ x[i].shelf)), false, rfl, by omega, rfl, by rw [hn1]; simp, by rw [hn2]; simp, rfl, rfl⟩) ⟨rfl, rfl, rfl, rfl, rfl, congrArg some (inc64 (by omega)), trivial⟩ trivial
  ·have hgood : goodP y0 x = false := by unfold goodP; simpa using e4
   have hf : (l.take (k + 1)).filter (goodP y0) = (l.take k).filter (goodP y0) := by rw [htk, List.filter_append, List.filter_cons_of_neg (by rw [hgood]; simp)]; simp
   exact W.again (again _ _ _ _ (by omega) ⟨k + 1, b1, b2, rfl, by omega, rfl, by rw [hf]; exact hb1, by rw [hf]; exact hb2, rfl, rfl⟩) ⟨rfl, rfl, rfl, rfl, rfl, congrArg some (inc64 (by omega)), trivial⟩ trivial
 ·have hke : k = l.length := by simp at e3; omega
  rw [hke, List.take_length] at hb1 hb2
  rw [hb1, hb2] at r
  cases b2 with
  | true =>
   refine W.go 99 rfl ?_
   refine W.ret r rfl rfl ?_
   exact ⟨rfl, hl2⟩
  | false =>
   cases b1 with
   | true =>
    refine W.go 99 rfl ?_
    refine W.ret r rfl rfl ?_
    exact ⟨rfl, hl2⟩
   | false =>
    refine W.go 99 rfl ?_
    refine W.ret r rfl rfl ?_
    exact ⟨rfl, hl2⟩
end Go.Mz


set_option maxRecDepth 100000
namespace Go.Mz
open Go.Conc Go.Proofs
def lostL (s : St) (hs : List Int) : List Int := if askE s hs = 0 then (lostS s hs).map (fun (n : Nat) => (n : Int)) else []
theorem lostL_len (s : St) (hs : List Int) : (lostL s hs).length ≤ 3 := by
 unfold lostL
 split
 ·rename_i h
  have := (ask_ok h).1.c3
  have h2 : (lostS s hs).length ≤ s.cones.length := by unfold lostS; simpa using List.length_filter_le _ (List.range s.cones.length)
  rw [List.length_map]; omega
 ·simp
theorem crowdE_len (s : St) (hs : List Int) : (CrowdE s hs).1.length ≤ 3 := by
 unfold CrowdE
 rw [open_ask0]
 split
 ·simp
 ·rename_i h
  have hok := (ask_ok (show askE s hs = 0 by simpa using h)).1
  cases ha : crowdS s hs with
  | none => simp
  | some x =>
   rw [crowd_find hok] at ha
   have hm := List.mem_of_find?_eq_some ha
   unfold ordL at hm
   obtain ⟨m, hm, hx⟩ := List.mem_flatMap.1 hm
   have hm := List.mem_range.1 hm
   have := hok.c3
   have := ((cho_len (m := m + 1) hok.c3 (by omega)).2 x hx).1
   simp only [natI, List.length_map]
   omega
variable {Post : Value → World → Prop} {W0 : World}
theorem SlL_run (s : St) (p : Pt) (c : Cone) (ha : Option Addr) (hc : Nat) (hs : List Int) (i : Int) (na : Option Addr) (nc : Nat) (nums : List Int) (L : LH) (hst : StAt L s p) (hh : IntsAt L ha hs) (hn : IntsAt L na nums) (hgl : GlOk L) (hl2 : nums.length ≤ 140737488355328)
    (hQ : ∀ v L' w, (v = .bool true ∧ Dim L L') → Sub L' w → Same W0 w → Post v w) :
    FGo Tryz.prog Post W0 (G (Frame.enter Tryz.prog 16 [stA s p, .agg (encCo c).toArray, .slice ha hs.length hc, .int .i64 i, .slice na nums.length nc].toArray .normal) []) L := by
  refine root_enter (n := 182) (s := 10) Tryz.func16 rfl rfl (by kernel_rfl) rfl rfl hQ fun C hX _ hL0 r => ?_
  refine W.go 99 rfl ?_
  refine W.eff rfl rfl rfl (Ef.call rfl (vast_sp s p L)) ?_
  rintro _ _ _ ⟨_, rfl, rfl, rfl, rfl⟩
  refine W.go 99 rfl ?_
  have drd : ∀ L2, GlOk L2 → Sp C.X 21 [] L2 (fun v L' => v = .bool true ∧ Dim L2 L') := fun L2 h => by rw [hX]; exact dried_sp L2 h
  refine W.split rfl rfl rfl (fun e1 => W.go 99 rfl ?_) (fun e1 => W.go 99 rfl ?_)
  · refine W.eff rfl rfl rfl (Ef.call rfl (drd L hgl)) ?_
    rintro _ _ _ ⟨_, rfl, rfl, rfl, hdm⟩
    refine W.go 99 rfl ?_
    refine W.retO r rfl ⟨rfl, hdm⟩
  refine W.split rfl rfl rfl (fun e2 => W.go 99 rfl ?_) (fun e2 => W.go 99 rfl ?_)
  · refine W.eff rfl rfl rfl (Ef.call rfl (drd L hgl)) ?_
    rintro _ _ _ ⟨_, rfl, rfl, rfl, hdm⟩
    refine W.go 99 rfl ?_
    refine W.retO r rfl ⟨rfl, hdm⟩
  have h20 : hs.length ≤ 20 := by simp at e2; omega
  obtain ⟨v1, v2⟩ := vast_no e1
  refine W.eff rfl rfl rfl (Ef.call rfl (NewHat_sp na nc nums L hn)) ?_
  rintro _ _ _ ⟨_, rfl, rfl, b, rfl, hb, hle1, hh1⟩
  refine W.go 99 rfl ?_
  rename_i L1
  have hb1 := le_but hb hle1
  refine W.eff rfl rfl rfl (Ef.call rfl (sev_sp s p c ha hc hs b na nc nums 0 L1 (hst.le hb1) (hh.le hb1) hh1 (by omega) hl2 v1 v2 h20)) ?_
  rintro _ _ _ ⟨_, rfl, rfl, own, p1, t, ta, tc, cs2, p2, ba, bb, m, rfl, ho, ht, hc2, hm, hh2, hle2, hsev⟩
  refine W.go 99 rfl ?_
  rename_i L2
  have hgl2 := hgl.le (hb1.trans (but_but hle2))
  refine W.eff rfl rfl rfl (Ef.call rfl (To_sp b na nc nums m 2 L2 hh2 (by omega) hl2 (by omega))) ?_
  rintro _ _ _ ⟨_, rfl, rfl, ⟨y1, rfl, hy1⟩, hk3, hs3⟩
  refine W.go 99 rfl ?_
  rename_i L3
  have g3 := hh2.next hk3 hs3
  have f3 : Le (L2.but b) L3 := but_same hk3
  refine W.eff rfl rfl rfl (Ef.call rfl (To_sp b na nc nums (m + 1) 1 L3 g3 (by omega) hl2 (by omega))) ?_
  rintro _ _ _ ⟨_, rfl, rfl, ⟨y2, rfl, hy2⟩, hk4, hs4⟩
  refine W.go 99 rfl ?_
  rename_i L4
  have f4 : Le (L2.but b) L4 := but_trans f3 (but_same hk4)
  refine W.pub 14 (.inr ⟨_, _, _, rfl⟩) rfl rfl ?_
  intro bc hbc _
  have q1 : Le L4 (L4.put bc (.cells ([i, (y1 : Int), (y2 : Int), i].flatMap encI).toArray 3)) := Le.put hbc _
  have k1 := put_same L4 bc (.cells ([i, (y1 : Int), (y2 : Int), i].flatMap encI).toArray 3)
  have f8 := f4.trans q1
  change W C _ _ _ _ _ (L4.put bc (.cells ([i, (y1 : Int), (y2 : Int), i].flatMap encI).toArray 3))
  generalize L4.put bc (.cells ([i, (y1 : Int), (y2 : Int), i].flatMap encI).toArray 3) = L8 at k1 f8 ⊢
  have hL8 : Le L L8 := hb1.trans ((but_but hle2).trans f8)
  have hsev := hsev.le f8
  have hgl2 := hgl2.le f8
  have hcs := sl_block (L := L8) encI_len k1
  generalize hSs : [(s, p), (own, p1), ({ own with cones := cs2 }, p2), (own, p1)] = Ss at hsev
  generalize hHs : [((ha, hs.length, hc), hs), ((ta, t.length, tc), t), ((ta, t.length, tc), t), ((ha, hs.length, hc), hs)] = Hs at hsev
  generalize hCs : [i, (y1 : Int), (y2 : Int), i] = Cs at hcs
  have nS : Ss.length = 4 := by rw [← hSs]; rfl
  have nH : Hs.length = 4 := by rw [← hHs]; rfl
  have nC : Cs.length = 4 := by rw [← hCs]; rfl
  refine W.loop (fun w E B L' => ∃ k : Nat, w = 4 - k ∧ k ≤ 4 ∧ Le L8 L' ∧ E = [(12, .v (.slice (some ⟨ba, 0, none⟩) 4 4)), (13, .v (.slice (some ⟨bb, 0, none⟩) 4 4)), (14, .v (.slice (some ⟨bc, 0, none⟩) 4 4)), (15, .v (.int .i64 k))] ∧ B = [])
    ⟨0, rfl, by omega, Le.refl _, rfl, rfl⟩ (by exact ⟨rfl, rfl, rfl, rfl, trivial⟩) (by exact trivial) ?_
  rintro _ _ _ L9 ⟨k, rfl, hk, hl9, rfl, rfl⟩ again
  refine W.go 99 rfl ?_
  refine W.split rfl rfl rfl (fun e3 => W.go 99 rfl ?_) (fun e3 => W.go 99 rfl ?_)
  · have hk4 : k < 4 := by have : (k : Int) < 4 := by simpa using e3
                           omega
    obtain ⟨⟨sk, pk⟩, hx⟩ : ∃ x, Ss[k]? = some x := ⟨_, List.getElem?_eq_getElem (by omega)⟩
    obtain ⟨ck, hz⟩ : ∃ x, Cs[k]? = some x := ⟨_, List.getElem?_eq_getElem (by omega)⟩
    obtain ⟨⟨⟨hk1, hk2, hk3⟩, hks⟩, hy⟩ : ∃ x, Hs[k]? = some x := ⟨_, List.getElem?_eq_getElem (by omega)⟩
    have hsv := hsev.le hl9
    obtain ⟨hsk, sk1, sk2⟩ := hsv.so _ (List.mem_of_getElem? hx)
    obtain ⟨hhk, hkl, hk20⟩ := hsv.ho _ (List.mem_of_getElem? hy)
    dsimp only at hsk sk1 sk2 hhk hkl hk20
    subst hkl
    have hcl : L9.cell? ((Addr.mk bb 0 none).add (k * 1)) = some (.slice hk1 hks.length hk3) := by
      have := hsv.hs.get hy (j := 0) (v := slV (hk1, hks.length, hk3)) rfl
      simpa using this
    have m1 := lostL_len sk hks
    have m2 := crowdE_len sk hks
    refine W.drawn (by kernel_rfl) _ (Le.refl _) ?_
    refine DD.run' [0, 1, 5, 6, 10] rfl ?_
    refine DD.vf 2 rfl rfl rfl rfl rfl (Vf.idx rfl rfl rfl rfl rfl rfl (hk4)) ?_
    refine DD.vf 3 rfl rfl rfl rfl rfl (Vf.loadN rfl rfl rfl (hsv.ss.whole hx rfl)) ?_
    refine DD.vf 7 rfl rfl rfl rfl rfl (Vf.idx rfl rfl rfl rfl rfl rfl (hk4)) ?_
    refine DD.vf 8 rfl rfl rfl rfl rfl (Vf.load rfl rfl rfl (hcl)) ?_
    refine DD.act 4 rfl rfl rfl rfl rfl (Ef.call rfl ((DupStove_sp sk pk L9 hsk (by omega) (by omega)))) ((by rintro _ _ _ ⟨_, rfl, rfl, _, _, _, _, _, rfl, g1, g2⟩; exact ⟨g1.1.trans g2.1, rfl, .inl rfl⟩)) ?_
    rintro _ _ _ ⟨_, rfl, rfl, xa, ya, z1, z2, I1, rfl, hg1, hg2⟩
    rename_i L10
    have hl10 := hg1.1.trans hg2.1
    have hst10 : StAt L10 sk ⟨xa, ya, z1, z2⟩ := ⟨(hg1.at encSh_len).2.le hg2.1, (hg2.at encCo_len).2, by omega, by omega⟩
    refine DD.act 9 rfl rfl rfl rfl rfl (Ef.call rfl ((DupInts_sp hk1 hk3 hks L10 (hhk.le hl10) (by omega)))) ((by rintro _ _ _ ⟨_, rfl, rfl, g3⟩; exact ⟨hl10.trans g3.1, rfl, .inl rfl⟩)) ?_
    rintro _ _ _ ⟨vx, rfl, rfl, hg3⟩
    obtain ⟨wa, wc, rfl, _⟩ := hg3.slice
    have hi11 := (hg3.at encI_len).2
    have hl11 := hl10.trans hg3.1
    refine DD.act 11 rfl rfl rfl rfl rfl (Ef.sto rfl) (by rintro _ _ _ ⟨rfl, rfl, rfl⟩; exact ⟨hl11, rfl, .inr rfl⟩) ?_
    rintro _ _ L11 ⟨rfl, rfl, rfl⟩
    refine DD.run' [12] rfl ?_
    refine .fin rfl ?_
    refine W.go 99 rfl ?_
    have hst11 := hst10.le hg3.1
    have hask : ∀ {L'}, Le L11 L' → AskAt L' sk ⟨xa, ya, z1, z2⟩ wa hks := fun hl => ⟨hst11.le hl, hi11.le hl, hgl2.le (hl9.trans (hl11.trans hl)), by omega⟩
    have hask2 : ∀ {L'}, Le L11 L' → AskAt L' sk pk hk1 hks := fun hl => ⟨hsk.le (hl11.trans hl), hhk.le (hl11.trans hl), hgl2.le (hl9.trans (hl11.trans hl)), by omega⟩
    have hss : ∀ {L'}, Le L11 L' → _ := fun {L'} hl => (hsv.ss.le (hl11.trans hl)).whole (L := L') hx rfl
    have hcc : ∀ {L'}, Le L11 L' → _ := fun {L'} hl => (hl11.trans hl).cell (L' := L') hcl
    have hci : ∀ {L'}, Le L11 L' → _ := fun {L'} hl => (hcs.le (hl9.trans (hl11.trans hl))).int (L := L') hz
    have clost := Lost_sp (X := C.X) sk ⟨xa, ya, z1, z2⟩ wa wc hks L11 (hask (Le.refl _))
    rw [open_ask0] at clost
    refine W.eff rfl rfl rfl (Ef.call rfl (clost)) ?_
    rintro _ _ _ ⟨_, rfl, rfl, _, rfl, a1, c1, rfl, f12, s12, -⟩
    refine W.go 99 rfl ?_
    rename_i L12
    refine W.drawn (by kernel_rfl) _ (Le.refl _) ?_
    refine DD.run' [0, 1, 4, 5] rfl ?_
    refine DD.vf 2 rfl rfl rfl rfl rfl (Vf.idx rfl rfl rfl rfl rfl rfl (hk4)) ?_
    refine DD.vf 3 rfl rfl rfl rfl rfl (Vf.loadN rfl rfl rfl (hss f12)) ?_
    refine DD.vf 6 rfl rfl rfl rfl rfl (Vf.idx rfl rfl rfl rfl rfl rfl (hk4)) ?_
    refine DD.vf 7 rfl rfl rfl rfl rfl (Vf.load rfl rfl rfl (hcc f12)) ?_
    refine DD.act 8 rfl rfl rfl rfl rfl (Ef.call rfl ((rLost_sp sk pk hk1 hk3 hks L12 (hask2 f12)))) ((by rintro _ _ _ ⟨_, rfl, rfl, _, rfl, _, _, rfl, hl, _⟩; exact ⟨hl, rfl, .inl rfl⟩)) ?_
    rintro _ _ _ ⟨_, rfl, rfl, _, rfl, a2, c2, rfl, g13, s13, -⟩
    rename_i L13
    have s12 := s12.le g13
    have f13 := f12.trans g13
    refine DD.run' [9, 10, 11, 12, 13] rfl ?_
    refine .fin rfl ?_
    change SlAt L13 a1 1 encI (lostL sk hks) at s12
    change SlAt L13 a2 1 encI (lostL sk hks) at s13
    refine W.weak (E' := [(12, .v (.slice (some ⟨ba, 0, none⟩) 4 4)), (13, .v (.slice (some ⟨bb, 0, none⟩) 4 4)), (14, .v (.slice (some ⟨bc, 0, none⟩) 4 4)), (15, .v (.int .i64 k)), (16, .p 0 0), (17, .v (.slice wa hks.length wc)), (18, .v (.slice a1 (lostL sk hks).length c1)), (19, .v (.int .i64 (askE sk hks))), (20, .v (.slice a2 (lostL sk hks).length c2)), (21, .v (.int .i64 (askE sk hks)))]) (B' := [some ⟨cellsS (.v (stA sk ⟨xa, ya, z1, z2⟩)), 25⟩]) (by exact ⟨rfl, rfl, rfl, rfl, rfl, rfl, rfl, rfl, rfl, rfl, trivial⟩) (by exact ⟨rfl, trivial⟩) ?_
    refine W.go 99 rfl ?_
    refine W.eff rfl rfl rfl (Ef.call rfl (Crowd_sp sk ⟨xa, ya, z1, z2⟩ wa wc hks L13 (hask f13))) ?_
    rintro _ _ _ ⟨_, rfl, rfl, _, rfl, a3, c3, rfl, g14, s14, -⟩
    refine W.go 99 rfl ?_
    rename_i L14
    have f14 := f13.trans g14
    refine W.drawn (by kernel_rfl) _ (Le.refl _) ?_
    refine DD.run' [0, 1, 4, 5] rfl ?_
    refine DD.vf 2 rfl rfl rfl rfl rfl (Vf.idx rfl rfl rfl rfl rfl rfl (hk4)) ?_
    refine DD.vf 3 rfl rfl rfl rfl rfl (Vf.loadN rfl rfl rfl (hss f14)) ?_
    refine DD.vf 6 rfl rfl rfl rfl rfl (Vf.idx rfl rfl rfl rfl rfl rfl (hk4)) ?_
    refine DD.vf 7 rfl rfl rfl rfl rfl (Vf.load rfl rfl rfl (hcc f14)) ?_
    refine DD.act 8 rfl rfl rfl rfl rfl (Ef.call rfl ((rCrowd_sp sk pk hk1 hk3 hks L14 (hask2 f14)))) ((by rintro _ _ _ ⟨_, rfl, rfl, _, rfl, _, _, rfl, hl, _⟩; exact ⟨hl, rfl, .inl rfl⟩)) ?_
    rintro _ _ _ ⟨_, rfl, rfl, _, rfl, a4, c4, rfl, g15, s15⟩
    rename_i L15
    have f15 := f14.trans g15
    refine DD.run' [9, 10, 11, 12, 13] rfl ?_
    refine .fin rfl ?_
    refine W.go 99 rfl ?_
    refine W.drawn (by kernel_rfl) _ (Le.refl _) ?_
    refine DD.run' [0, 1, 2, 3] rfl ?_
    refine DD.vf 4 rfl rfl rfl rfl rfl (Vf.idx1 rfl rfl rfl rfl rfl rfl rfl (hk4)) ?_
    refine DD.vf 5 rfl rfl rfl rfl rfl (Vf.load rfl rfl rfl (hci f15)) ?_
    refine DD.act 6 rfl rfl rfl rfl rfl (Ef.call rfl ((Verdict_sp sk ⟨xa, ya, z1, z2⟩ wa wc hks ck L15 (hask f15)))) ((by rintro _ _ _ ⟨_, rfl, rfl, rfl, hl⟩; exact ⟨hl, rfl, .inl rfl⟩)) ?_
    rintro _ _ _ ⟨_, rfl, rfl, rfl, g16⟩
    rename_i L16
    have f16 := f15.trans g16
    refine DD.run' [7, 8, 9, 10, 11] rfl ?_
    refine .fin rfl ?_
    refine W.go 99 rfl ?_
    refine W.weak (E' := [(12, .v (.slice (some ⟨ba, 0, none⟩) 4 4)), (13, .v (.slice (some ⟨bb, 0, none⟩) 4 4)), (14, .v (.slice (some ⟨bc, 0, none⟩) 4 4)), (15, .v (.int .i64 k)), (16, .p 0 0), (17, .v (.slice wa hks.length wc)), (18, .v (.slice a1 (lostL sk hks).length c1)), (19, .v (.int .i64 (askE sk hks))), (20, .v (.slice a2 (lostL sk hks).length c2)), (21, .v (.int .i64 (askE sk hks))), (22, .v (.slice a3 (CrowdE sk hks).1.length c3)), (23, .v (.int .i64 (CrowdE sk hks).2)), (24, .v (.slice a4 (CrowdE sk hks).1.length c4)), (25, .v (.int .i64 (CrowdE sk hks).2)), (26, .v (.int .i64 (VerdE sk hks ck).1)), (27, .v (.int .i64 (VerdE sk hks ck).2))]) (B' := [some ⟨cellsS (.v (stA sk ⟨xa, ya, z1, z2⟩)), 25⟩]) (by exact ⟨rfl, rfl, rfl, rfl, rfl, rfl, rfl, rfl, rfl, rfl, rfl, rfl, rfl, rfl, rfl, rfl, trivial⟩) (by exact ⟨rfl, trivial⟩) ?_
    refine W.drawn (by kernel_rfl) _ (Le.refl _) ?_
    refine DD.run' [0, 1, 4, 5, 8, 9] rfl ?_
    refine DD.vf 2 rfl rfl rfl rfl rfl (Vf.idx rfl rfl rfl rfl rfl rfl (hk4)) ?_
    refine DD.vf 3 rfl rfl rfl rfl rfl (Vf.loadN rfl rfl rfl (hss f16)) ?_
    refine DD.vf 6 rfl rfl rfl rfl rfl (Vf.idx rfl rfl rfl rfl rfl rfl (hk4)) ?_
    refine DD.vf 7 rfl rfl rfl rfl rfl (Vf.load rfl rfl rfl (hcc f16)) ?_
    refine DD.vf 10 rfl rfl rfl rfl rfl (Vf.idx1 rfl rfl rfl rfl rfl rfl rfl (hk4)) ?_
    refine DD.vf 11 rfl rfl rfl rfl rfl (Vf.load rfl rfl rfl (hci f16)) ?_
    refine DD.act 12 rfl rfl rfl rfl rfl (Ef.call rfl ((rVerdict_sp sk pk hk1 hk3 hks ck L16 (hask2 f16)))) ((by rintro _ _ _ ⟨_, rfl, rfl, rfl, hl⟩; exact ⟨hl, rfl, .inl rfl⟩)) ?_
    rintro _ _ _ ⟨_, rfl, rfl, rfl, g17⟩
    rename_i L17
    have f17 := f16.trans g17
    refine DD.run' [13, 14, 15, 16, 17] rfl ?_
    refine .fin rfl ?_
    refine W.go 99 rfl ?_
    have h13 := g14.trans (g15.trans (g16.trans g17))
    refine W.drawn (by kernel_rfl) _ (Le.refl _) ?_
    refine DD.run' [0, 1, 2, 3] rfl ?_
    rw [bne_self_eq_false]
    refine DD.split 136 rfl (fun c => absurd c (by decide)) (fun _ => ?_)
    refine DD.run' [4, 5, 6, 7, 8] rfl ?_
    rw [bne_self_eq_false]
    refine DD.split 141 rfl (fun c => absurd c (by decide)) (fun _ => ?_)
    refine DD.run' [9, 10, 11, 12, 13] rfl ?_
    rw [bne_self_eq_false]
    refine DD.split 146 rfl (fun c => absurd c (by decide)) (fun _ => ?_)
    refine DD.run' [14, 15, 16, 17, 18] rfl ?_
    rw [bne_self_eq_false]
    refine DD.split 151 rfl (fun c => absurd c (by decide)) (fun _ => ?_)
    refine DD.run' [19, 20] rfl ?_
    refine DD.act 21 rfl rfl rfl rfl rfl (Ef.call rfl (EqInts_sp a1 a2 c1 c2 (lostL sk hks) (lostL sk hks) L17 (s12.le h13) (s13.le h13) (by omega) (by omega))) (by rintro _ _ _ ⟨_, rfl, rfl, rfl, rfl⟩; exact ⟨Le.refl _, rfl, .inl rfl⟩) ?_
    rintro _ _ _ ⟨_, rfl, rfl, rfl, rfl⟩
    rw [show decide (lostL sk hks = lostL sk hks) = true from decide_eq_true rfl]
    refine DD.run' [22, 23, 24] rfl ?_
    refine DD.split 157 rfl (fun c => absurd c (by decide)) (fun _ => ?_)
    refine DD.run' [25, 26] rfl ?_
    refine DD.act 27 rfl rfl rfl rfl rfl (Ef.call rfl (EqInts_sp a3 a4 c3 c4 (CrowdE sk hks).1 (CrowdE sk hks).1 L17 (s14.le (g15.trans (g16.trans g17))) (s15.le (g16.trans g17)) (by omega) (by omega))) (by rintro _ _ _ ⟨_, rfl, rfl, rfl, rfl⟩; exact ⟨Le.refl _, rfl, .inl rfl⟩) ?_
    rintro _ _ _ ⟨_, rfl, rfl, rfl, rfl⟩
    rw [show decide ((CrowdE sk hks).1 = (CrowdE sk hks).1) = true from decide_eq_true rfl]
    refine DD.run' [28, 29, 30] rfl ?_
    refine DD.split 163 rfl (fun c => absurd c (by decide)) (fun _ => ?_)
    refine DD.run' [31, 32, 33] rfl ?_
    refine DD.vf 34 rfl rfl rfl rfl rfl (Vf.idx rfl rfl rfl rfl rfl rfl (hk4)) ?_
    refine DD.vf 35 rfl rfl rfl rfl rfl (Vf.loadN rfl rfl rfl (hss f17)) ?_
    refine DD.act 36 rfl rfl rfl rfl rfl (Ef.call rfl (EqStoves_sp sk ⟨xa, ya, z1, z2⟩ pk L17 (hask f17).st (hask2 f17).st)) (by rintro _ _ _ ⟨_, rfl, rfl, rfl, rfl⟩; exact ⟨Le.refl _, rfl, .inl rfl⟩) ?_
    rintro _ _ _ ⟨_, rfl, rfl, rfl, rfl⟩
    refine DD.run' [37, 38, 39] rfl ?_
    refine DD.split 172 rfl (fun c => absurd c (by decide)) (fun _ => ?_)
    refine DD.run' [40, 41, 42] rfl ?_
    refine DD.vf 43 rfl rfl rfl rfl rfl (Vf.idx rfl rfl rfl rfl rfl rfl (hk4)) ?_
    refine DD.vf 44 rfl rfl rfl rfl rfl (Vf.load rfl rfl rfl (hcc f17)) ?_
    refine DD.act 45 rfl rfl rfl rfl rfl (Ef.call rfl (EqInts_sp wa hk1 wc hk3 hks hks L17 (hask f17).he (hask2 f17).he (by omega) (by omega))) (by rintro _ _ _ ⟨_, rfl, rfl, rfl, rfl⟩; exact ⟨Le.refl _, rfl, .inl rfl⟩) ?_
    rintro _ _ _ ⟨_, rfl, rfl, rfl, rfl⟩
    rw [show decide (hks = hks) = true from decide_eq_true rfl]
    refine DD.run' [46, 47] rfl ?_
    refine .fin rfl ?_
    refine W.go 99 rfl ?_
    refine W.split rfl rfl rfl (fun c => absurd c (by decide)) (fun c => ?_)
    refine W.go 99 rfl ?_
    exact W.again (again _ _ _ _ (by omega) ⟨k + 1, rfl, by omega, hl9.trans (hl11.trans f17), rfl, rfl⟩) (by exact ⟨rfl, rfl, rfl, congrArg some (inc64 (by omega)), trivial⟩) (by exact trivial)
  · refine W.eff rfl rfl rfl (Ef.call rfl (drd L9 (hgl2.le hl9))) ?_
    rintro _ _ _ ⟨_, rfl, rfl, rfl, hdm⟩
    refine W.go 99 rfl ?_
    exact W.retO r rfl ⟨rfl, (Dim.of_le (hL8.trans hl9)).trans hdm⟩
end Go.Mz

