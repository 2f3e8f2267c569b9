/- Lemmas on which the claim leans. -/
import Derived.Test.YtnhckcgdmolgcaaGreatDoorMzAu
set_option maxRecDepth 100000
namespace Go.Mz
open Go.Conc Go.Proofs
variable {X : Logic Tryz.prog}
theorem grid_len {s : St} (h : Ok s) : (grid s).length ≤ 12 := by
 have h2 : (grid s).length = s.shelves.length * s.days.toNat := by
  unfold grid
  rw [flatMap_len (k := s.days.toNat) (fun k => by simp), List.length_range]
 rw [h2]
 have h3 := h.s3
 have h4 : s.days.toNat ≤ 4 := by have := h.d4; omega
 exact Nat.mul_le_mul h3 h4
theorem rStands_sp (s : St) (p : Pt) (ha : Option Addr) (hc : Nat) (hs : List Int) (c : Cone) (i : Nat) (L : LH) (h : AskAt L s p ha hs) (hok : Ok s) (hhk : HOk s hs) (hi : s.cones[i]? = some c) :
  Sp X 119 [stA s p, .slice ha hs.length hc, .int .i64 i] L (fun v L' => Grow L 2 30 encSt L' v (standsS s hs c)) := by
 have hil := (List.getElem?_eq_some_iff.1 hi).1
 have hs3 := hok.s3
 have hd4 := hok.d4
 have hd1 := hok.d1
 have hc3 := hok.c3
 have hlen := hhk.len
 have hdn : hs.length = s.days.toNat := by omega
 have hcm : c ∈ s.cones := List.mem_of_getElem? hi
 obtain ⟨ca, hca⟩ := h.st.co.addr hil
 obtain ⟨p1, p2, n1, n2⟩ := p
 obtain rfl : p2 = some ca := hca
 have hcap : ∀ k d, k < s.shelves.length → d < hs.length → ((gridTo s k d).filter (dryB s hs c)).length ≤ 1000 := fun k d hk hd => by
  obtain ⟨post, e⟩ := grid_split s hk (show d < s.days.toNat by omega)
  have h1 := List.length_filter_le (dryB s hs c) (gridTo s k d)
  have h2 : (gridTo s k d).length ≤ (grid s).length := by rw [e, List.length_append]; omega
  have h3 := grid_len hok
  omega
 refine Sp.enter (n := 48) Tryz.func119 rfl rfl rfl rfl fun C hX _ hL0 r => ?_
 refine W.go 99 rfl ?_
 refine W.loop (fun m E B L' => ∃ (k : Nat) (v : Value), m = s.shelves.length - k ∧ k ≤ s.shelves.length ∧ Grow L 2 30 encSt L' v ((gridTo s k 0).filter (dryB s hs c)) ∧
   E = [(1, .v (.slice ha hs.length hc)), (2, .v (.int .i64 i)), (3, .p 0 0), (7, .v v), (8, .v (.int .i64 k))] ∧ B = [some ⟨cellsS (.v (stA s ⟨p1, some ca, n1, n2⟩)), 25⟩])
  ⟨0, .slice none 0 0, rfl, by omega, Grow.nil (Le.refl _), rfl, rfl⟩ (by exact ⟨rfl, rfl, rfl, rfl, rfl, trivial⟩) (by exact ⟨rfl, trivial⟩) ?_
 rintro _ _ _ L1 ⟨k, v, rfl, h1, hg, rfl, rfl⟩ again
 refine W.go 99 rfl ?_
 refine W.split rfl rfl rfl (fun e1 => W.go 99 rfl ?_) (fun e1 => W.go 99 rfl ?_)
 ·have hk : k < s.shelves.length := by simpa using e1
  refine W.loop (fun m E B L' => ∃ (d : Nat) (v : Value), m = hs.length - d ∧ d ≤ hs.length ∧ Grow L 2 30 encSt L' v ((gridTo s k d).filter (dryB s hs c)) ∧
    E = [(1, .v (.slice ha hs.length hc)), (2, .v (.int .i64 i)), (3, .p 0 0), (7, .v v), (8, .v (.int .i64 k)), (9, .v (.int .i64 d))] ∧ B = [some ⟨cellsS (.v (stA s ⟨p1, some ca, n1, n2⟩)), 25⟩])
   ⟨0, v, rfl, by omega, hg, rfl, rfl⟩ (by exact ⟨rfl, rfl, rfl, rfl, rfl, rfl, trivial⟩) (by exact ⟨rfl, trivial⟩) ?_
  clear hg
  rintro _ _ _ L2 ⟨d, v, rfl, g1, hg, rfl, rfl⟩ again2
  refine W.go 99 rfl ?_
  refine W.split rfl rfl rfl (fun e2 => W.go 99 rfl ?_) (fun e2 => W.go 99 rfl ?_)
  ·have hd : d < hs.length := by simpa using e2
   have h2 := h.le hg.1
   refine W.drawn (by kernel_rfl) _ (Le.refl _) ?_
   refine DD.run' [0, 1, 2, 3, 4, 7] rfl ?_
   refine DD.vf 5 rfl rfl rfl rfl rfl (Vf.idx rfl rfl rfl rfl rfl rfl (hil)) ?_
   refine DD.vf 6 rfl rfl rfl rfl rfl (Vf.loadN rfl rfl rfl (h2.st.co.whole hi rfl)) ?_
   refine DD.act 8 rfl rfl rfl rfl rfl (Ef.call rfl (rFate_sp s ⟨p1, some ca, n1, n2⟩ ha hc hs c k d L2 h2 hok hhk hcm hk hd)) (by rintro _ _ _ ⟨_, rfl, rfl, rfl, rfl⟩; exact ⟨Le.refl _, rfl, .inl rfl⟩) ?_
   rintro _ _ _ ⟨_, rfl, rfl, rfl, rfl⟩
   refine DD.run' [9, 10, 11, 12, 13] rfl ?_
   refine .fin rfl ?_
   refine W.go 99 rfl ?_
   refine W.split rfl rfl rfl (fun e3 => W.go 99 rfl ?_) (fun e3 => W.go 99 rfl ?_)
   ·have hdb : dryB s hs c ⟨k, d⟩ = true := by unfold dryB; simpa using e3
    refine W.eff rfl rfl rfl (Ef.grow rfl rfl rfl rfl rfl rfl rfl rfl rfl encSt_len encSt_sg hg (ls := [⟨(k : Int), (d : Int)⟩]) (.own rfl rfl rfl rfl) (by have := hcap k d hk hd; simp; omega)) ?_
    rintro _ _ _ ⟨v', rfl, rfl, hg', _⟩
    refine W.go 99 rfl ?_
    exact W.again (again2 _ _ _ _ (by omega) ⟨d + 1, v', rfl, by omega, by rw [gridTo_succ, List.filter_append, List.filter_cons_of_pos hdb]; exact hg', rfl, rfl⟩) ⟨rfl, rfl, rfl, rfl, rfl, congrArg some (inc64 (by omega)), trivial⟩ ⟨rfl, trivial⟩
   ·have hdb : dryB s hs c ⟨k, d⟩ = false := by unfold dryB; simpa using e3
    have hfil : (gridTo s k (d + 1)).filter (dryB s hs c) = (gridTo s k d).filter (dryB s hs c) := by
     rw [gridTo_succ, List.filter_append, List.filter_cons_of_neg (by rw [hdb]; simp)]; simp
    exact W.again (again2 _ _ _ _ (by omega) ⟨d + 1, v, rfl, by omega, by rw [hfil]; exact hg, rfl, rfl⟩) ⟨rfl, rfl, rfl, rfl, rfl, congrArg some (inc64 (by omega)), trivial⟩ ⟨rfl, trivial⟩
  ·have hd : d = hs.length := by simp at e2; omega
   subst hd
   exact W.again (again _ _ _ _ (by omega) ⟨k + 1, v, rfl, by omega, by rw [gridTo_row, ← hdn]; exact hg, rfl, rfl⟩) ⟨rfl, rfl, rfl, rfl, congrArg some (inc64 (by omega)), trivial⟩ ⟨rfl, trivial⟩
 ·have hk : k = s.shelves.length := by simp at e1; omega
  subst hk
  refine W.ret r rfl rfl ?_
  rw [gridTo_all] at hg
  exact hg
def PlanV (s : St) (l : List Stand) : Prop := l.length ≤ s.cones.length ∧ ∀ a ∈ l, a.shelf = -1 ∨ isStand s a = true
theorem stand_nat {s : St} {hs : List Int} (hhk : HOk s hs) {a : Stand} (h : isStand s a = true) : ∃ k d : Nat, a = ⟨k, d⟩ ∧ k < s.shelves.length ∧ d < hs.length := by
 have hlen := hhk.len
 obtain ⟨a1, a2⟩ := a
 unfold isStand inB at h
 simp at h
 obtain ⟨k, rfl⟩ := Int.eq_ofNat_of_zero_le (show 0 ≤ a1 by omega)
 obtain ⟨d, rfl⟩ := Int.eq_ofNat_of_zero_le (show 0 ≤ a2 by omega)
 simp at h
 exact ⟨k, d, rfl, by omega, by omega⟩
theorem rOn_sp (s : St) (p : Pt) (ha la : Option Addr) (hc lc : Nat) (hs : List Int) (l : List Stand) (k d : Nat) (L : LH) (h : AskAt L s p ha hs) (hok : Ok s) (hhk : HOk s hs) (hl : SlAt L la 2 encSt l) (hv : PlanV s l) :
  Sp X 117 [stA s p, .slice ha hs.length hc, .slice la l.length lc, .int .i64 k, .int .i64 d] L (fun v L' => Grow L 1 3 encI L' v (natI ((List.range l.length).filter (onB s hs l k d)))) := by
 have hc3 := hok.c3
 have hv1 := hv.1
 obtain ⟨p1, p2, n1, n2⟩ := p
 refine Sp.enter (n := 60) Tryz.func117 rfl rfl rfl rfl fun C hX _ hL0 r => ?_
 refine W.go 99 rfl ?_
 refine W.loop (fun m E B L' => ∃ (i : Nat) (v : Value), m = l.length - i ∧ i ≤ l.length ∧ Grow L 1 3 encI L' v (natI ((List.range i).filter (onB s hs l k d))) ∧
   E = [(1, .v (.slice ha hs.length hc)), (2, .v (.slice la l.length lc)), (3, .v (.int .i64 k)), (4, .v (.int .i64 d)), (5, .p 0 0), (11, .v v), (12, .v (.int .i64 i))] ∧ B = [some ⟨cellsS (.v (stA s ⟨p1, p2, n1, n2⟩)), 25⟩])
  ⟨0, .slice none 0 0, rfl, by omega, Grow.nil (Le.refl _), rfl, rfl⟩ (by exact ⟨rfl, rfl, rfl, rfl, rfl, rfl, rfl, trivial⟩) (by exact ⟨rfl, trivial⟩) ?_
 rintro _ _ _ L1 ⟨i, v, rfl, h1, hg, rfl, rfl⟩ again
 have h2 := h.le hg.1
 have hl2 := hl.le hg.1
 refine W.go 99 rfl ?_
 refine W.split rfl rfl rfl (fun e1 => W.go 99 rfl ?_) (fun e1 => W.go 99 rfl ?_)
 ·have hi : i < l.length := by simpa using e1
  have hic : i < s.cones.length := by omega
  have hge := List.getElem?_eq_getElem hi
  obtain ⟨lad, rfl⟩ := hl2.addr hi
  have hfil : (List.range (i + 1)).filter (onB s hs l k d) = (List.range i).filter (onB s hs l k d) ++ if onB s hs l k d i then [i] else [] := by
   rw [List.range_succ, List.filter_append]
   congr 1
   cases hh : onB s hs l k d i <;> simp [hh]
  have hon : onB s hs l k d i = (l[i].shelf == (k : Int) && decide (l[i].day ≤ (d : Int)) && decide ((d : Int) ≤ (fateS s hs s.cones[i] l[i]).2)) := by
   unfold onB; rw [hge, List.getElem?_eq_getElem hic]
  refine W.vf rfl rfl rfl rfl (Vf.idx rfl rfl rfl rfl rfl rfl (hi)) ?_
  refine W.go 99 rfl ?_
  refine W.vf rfl rfl rfl rfl (Vf.load rfl rfl rfl (hl2.fld hge 0 rfl)) ?_
  refine W.go 99 rfl ?_
  refine W.split rfl rfl rfl (fun e2 => W.go 99 rfl ?_) (fun e2 => W.go 99 rfl ?_)
  ·have hf : onB s hs l k d i = false := by
    rw [hon]; simp at e2; simp [e2]
   exact W.again (again _ _ _ _ (by omega) ⟨i + 1, v, rfl, by omega, by rw [hfil, hf]; simpa using hg, rfl, rfl⟩) ⟨rfl, rfl, rfl, rfl, rfl, rfl, congrArg some (inc64 (by omega)), trivial⟩ ⟨rfl, trivial⟩
  have hsk : l[i].shelf = k := by simpa using e2
  refine W.vf rfl rfl rfl rfl (Vf.idx rfl rfl rfl rfl rfl rfl (hi)) ?_
  refine W.go 99 rfl ?_
  refine W.vf rfl rfl rfl rfl (Vf.load rfl rfl rfl (hl2.fld hge 1 rfl)) ?_
  refine W.go 99 rfl ?_
  refine W.split rfl rfl rfl (fun e3 => W.go 99 rfl ?_) (fun e3 => W.go 99 rfl ?_)
  ·have hf : onB s hs l k d i = false := by
    rw [hon]; simp at e3; simp; omega
   exact W.again (again _ _ _ _ (by omega) ⟨i + 1, v, rfl, by omega, by rw [hfil, hf]; simpa using hg, rfl, rfl⟩) ⟨rfl, rfl, rfl, rfl, rfl, rfl, congrArg some (inc64 (by omega)), trivial⟩ ⟨rfl, trivial⟩
  have hsd : l[i].day ≤ d := by simp at e3; omega
  obtain ⟨k', d0, hae, hk', hd0⟩ := stand_nat hhk ((hv.2 _ (List.getElem_mem hi)).resolve_left (by omega))
  obtain ⟨ca, hca⟩ := h2.st.co.addr hic
  obtain rfl : p2 = some ca := hca
  have hge2 := hge
  rw [hae] at hge2
  refine W.drawn (by kernel_rfl) _ (Le.refl _) ?_
  refine DD.run' [0, 1, 2, 3, 4, 7, 8] rfl ?_
  refine DD.vf 5 rfl rfl rfl rfl rfl (Vf.idx rfl rfl rfl rfl rfl rfl (hic)) ?_
  refine DD.vf 6 rfl rfl rfl rfl rfl (Vf.loadN rfl rfl rfl (h2.st.co.whole (List.getElem?_eq_getElem hic) rfl)) ?_
  refine DD.vf 9 rfl rfl rfl rfl rfl (Vf.idx rfl rfl rfl rfl rfl rfl (hi)) ?_
  refine DD.vf 10 rfl rfl rfl rfl rfl (Vf.loadN rfl rfl rfl (hl2.whole hge2 rfl)) ?_
  refine DD.act 11 rfl rfl rfl rfl rfl (Ef.call rfl (rFate_sp s ⟨p1, some ca, n1, n2⟩ ha hc hs s.cones[i] k' d0 L1 h2 hok hhk (List.getElem_mem hic) hk' hd0)) (by rintro _ _ _ ⟨_, rfl, rfl, rfl, rfl⟩; exact ⟨Le.refl _, rfl, .inl rfl⟩) ?_
  rintro _ _ _ ⟨_, rfl, rfl, rfl, rfl⟩
  refine DD.run' [12, 13, 14, 15, 16] rfl ?_
  refine .fin rfl ?_
  refine W.go 99 rfl ?_
  have hfd := fate_day (s := s) (c := s.cones[i]) (k := k') (d := d0) (hs := hs) hd0
  have hkk : (k' : Int) = k := by rw [← hsk, hae]
  have hdd : (d0 : Int) ≤ d := by rw [hae] at hsd; exact hsd
  refine W.split rfl rfl rfl (fun e4 => W.go 99 rfl ?_) (fun e4 => W.go 99 rfl ?_)
  ·have hf : onB s hs l k d i = true := by
    rw [hon, hae]
    simp at e4 ⊢; omega
   refine W.eff rfl rfl rfl (Ef.grow rfl rfl rfl rfl rfl rfl rfl rfl rfl encI_len encI_sg hg (ls := [(i : Int)]) (.own rfl rfl rfl rfl) (by have := List.length_filter_le (onB s hs l k d) (List.range i); simp [natI] at this ⊢; omega)) ?_
   rintro _ _ _ ⟨v', rfl, rfl, hg', _⟩
   refine W.go 99 rfl ?_
   have hg2 : Grow L 1 3 encI _ v' _ := hg'
   exact W.again (again _ _ _ _ (by omega) ⟨i + 1, v', rfl, by omega, by rw [hfil, hf]; simpa [natI] using hg2, rfl, rfl⟩) ⟨rfl, rfl, rfl, rfl, rfl, rfl, congrArg some (inc64 (by omega)), trivial⟩ ⟨rfl, trivial⟩
  ·have hf : onB s hs l k d i = false := by
    rw [hon, hae]
    simp at e4 ⊢; omega
   exact W.again (again _ _ _ _ (by omega) ⟨i + 1, v, rfl, by omega, by rw [hfil, hf]; simpa using hg, rfl, rfl⟩) ⟨rfl, rfl, rfl, rfl, rfl, rfl, congrArg some (inc64 (by omega)), trivial⟩ ⟨rfl, trivial⟩
 ·have hie : i = l.length := by simp at e1; omega
  subst hie
  refine W.ret r rfl rfl ?_
  exact hg
theorem on_short {s : St} {hs : List Int} {l : List Stand} (h : l.length ≤ s.cones.length) (k d : Nat) : (List.range l.length).filter (onB s hs l k d) = onS s hs l k d := by
 unfold onS
 rw [List.range_eq_range', List.range_eq_range', show s.cones.length = l.length + (s.cones.length - l.length) by omega, ← List.range'_append_1, List.filter_append]
 have : (List.range' (0 + l.length) (s.cones.length - l.length)).filter (onB s hs l k d) = [] := by
  rw [List.filter_eq_nil_iff]
  intro i hi
  rw [List.mem_range'_1] at hi
  unfold onB
  rw [List.getElem?_eq_none (l := l) (by omega)]; simp
 rw [this, List.append_nil]
def fitB (s : St) (hs : List Int) (l : List Stand) (k d : Nat) : Bool := decide (((onS s hs l k d).length : Int) ≤ roomOf s k)
theorem fits_no {s : St} {hs : List Int} {l : List Stand} {k d : Nat} (hk : k < s.shelves.length) (hd : d < s.days.toNat) (h : fitB s hs l k d = false) : fitsS s hs l = false := by
 unfold fitsS
 rw [List.all_eq_false]
 refine ⟨k, List.mem_range.2 hk, ?_⟩
 rw [Bool.not_eq_true, List.all_eq_false]
 exact ⟨d, List.mem_range.2 hd, by rw [show decide (((onS s hs l k d).length : Int) ≤ roomOf s k) = false from h]; simp⟩
theorem fits_yes {s : St} {hs : List Int} {l : List Stand} (h : ∀ k d, k < s.shelves.length → d < s.days.toNat → fitB s hs l k d = true) : fitsS s hs l = true := by
 unfold fitsS
 rw [List.all_eq_true]
 intro k hk
 rw [List.all_eq_true]
 exact fun d hd => h k d (List.mem_range.1 hk) (List.mem_range.1 hd)
theorem rFits_sp (s : St) (p : Pt) (ha la : Option Addr) (hc lc : Nat) (hs : List Int) (l : List Stand) (L : LH) (h : AskAt L s p ha hs) (hok : Ok s) (hhk : HOk s hs) (hl : SlAt L la 2 encSt l) (hv : PlanV s l) :
  Sp X 138 [stA s p, .slice ha hs.length hc, .slice la l.length lc] L (fun v L' => v = .bool (fitsS s hs l) ∧ Le L L') := by
 have hc3 := hok.c3
 have hs3 := hok.s3
 have hlen := hhk.len
 have hd1 := hok.d1
 have hd4 := hok.d4
 have hdn : hs.length = s.days.toNat := by omega
 obtain ⟨p1, p2, n1, n2⟩ := p
 refine Sp.enter (n := 36) Tryz.func138 rfl rfl rfl rfl fun C hX _ hL0 r => ?_
 refine W.go 99 rfl ?_
 refine W.loop (fun m E B L' => ∃ (k : Nat), m = s.shelves.length - k ∧ k ≤ s.shelves.length ∧ Le L L' ∧ (∀ k' d', k' < k → d' < s.days.toNat → fitB s hs l k' d' = true) ∧
   E = [(1, .v (.slice ha hs.length hc)), (2, .v (.slice la l.length lc)), (3, .p 0 0), (7, .v (.int .i64 k))] ∧ B = [some ⟨cellsS (.v (stA s ⟨p1, p2, n1, n2⟩)), 25⟩])
  ⟨0, rfl, by omega, Le.refl _, fun _ _ h => by omega, rfl, rfl⟩ (by exact ⟨rfl, rfl, rfl, rfl, trivial⟩) (by exact ⟨rfl, trivial⟩) ?_
 rintro _ _ _ L1 ⟨k, rfl, h1, hle, hall, rfl, rfl⟩ again
 refine W.go 99 rfl ?_
 refine W.split rfl rfl rfl (fun e1 => W.go 99 rfl ?_) (fun e1 => W.go 99 rfl ?_)
 ·have hk : k < s.shelves.length := by simpa using e1
  refine W.loop (fun m E B L' => ∃ (d : Nat), m = hs.length - d ∧ d ≤ hs.length ∧ Le L L' ∧ (∀ d', d' < d → fitB s hs l k d' = true) ∧
    E = [(1, .v (.slice ha hs.length hc)), (2, .v (.slice la l.length lc)), (3, .p 0 0), (7, .v (.int .i64 k)), (8, .v (.int .i64 d))] ∧ B = [some ⟨cellsS (.v (stA s ⟨p1, p2, n1, n2⟩)), 25⟩])
   ⟨0, rfl, by omega, hle, fun _ h => by omega, rfl, rfl⟩ (by exact ⟨rfl, rfl, rfl, rfl, rfl, trivial⟩) (by exact ⟨rfl, trivial⟩) ?_
  clear hle
  rintro _ _ _ L2 ⟨d, rfl, g1, hle, hall2, rfl, rfl⟩ again2
  refine W.go 99 rfl ?_
  refine W.split rfl rfl rfl (fun e2 => W.go 99 rfl ?_) (fun e2 => W.go 99 rfl ?_)
  ·have hd : d < hs.length := by simpa using e2
   have h2 := h.le hle
   obtain ⟨sa, hsa⟩ := h2.st.sh.addr hk
   obtain rfl : p1 = some sa := hsa
   have hro : roomOf s k = s.shelves[k].room := by unfold roomOf; rw [List.getElem?_eq_getElem hk]; rfl
   have hlon : (natI ((List.range l.length).filter (onB s hs l k d))).length = (onS s hs l k d).length := by rw [on_short hv.1]; simp [natI]
   refine W.drawn (by kernel_rfl) _ (Le.refl _) ?_
   refine DD.run' [0, 1, 2, 3, 4, 7, 8, 9] rfl ?_
   refine DD.vf 10 rfl rfl rfl rfl rfl (Vf.idx rfl rfl rfl rfl rfl rfl (hk)) ?_
   refine DD.run' [11] rfl ?_
   refine DD.vf 12 rfl rfl rfl rfl rfl (Vf.load rfl rfl rfl (h2.st.sh.fld (List.getElem?_eq_getElem hk) 1 rfl)) ?_
   refine DD.act 5 rfl rfl rfl rfl rfl (Ef.call rfl (rOn_sp s ⟨some sa, p2, n1, n2⟩ ha la hc lc hs l k d L2 h2 hok hhk (hl.le hle) hv)) ((by rintro _ _ _ ⟨_, _, rfl, hg⟩; exact ⟨hg.1, rfl, .inl rfl⟩)) ?_
   rintro _ _ _ ⟨_, rfl, rfl, hg⟩
   obtain ⟨oa, oc, rfl, _⟩ := hg.slice
   refine DD.run' [6, 13] rfl ?_
   refine .fin rfl ?_
   refine W.go 99 rfl ?_
   refine W.split rfl rfl rfl (fun e3 => W.go 99 rfl ?_) (fun e3 => W.go 99 rfl ?_)
   ·refine W.ret r rfl rfl ?_
    rw [fits_no (d := d) hk (by omega) (by unfold fitB; rw [hlon] at e3; rw [hro]; simp at e3 ⊢; omega)]
    exact ⟨rfl, hle.trans hg.1⟩
   ·have hf : fitB s hs l k d = true := by unfold fitB; rw [hlon] at e3; rw [hro]; simp at e3 ⊢; omega
    exact W.again (again2 _ _ _ _ (by omega) ⟨d + 1, rfl, by omega, hle.trans hg.1, (fun d' h' => by
     by_cases e : d' = d
     ·subst e; exact hf
     ·exact hall2 d' (by omega)), rfl, rfl⟩) ⟨rfl, rfl, rfl, rfl, congrArg some (inc64 (by omega)), trivial⟩ ⟨rfl, trivial⟩
  ·have hd : d = hs.length := by simp at e2; omega
   subst hd
   exact W.again (again _ _ _ _ (by omega) ⟨k + 1, rfl, by omega, hle, (fun k' d' h' h'' => by
    by_cases e : k' = k
    ·subst e; exact hall2 d' (by omega)
    ·exact hall k' d' (by omega) h''), rfl, rfl⟩) ⟨rfl, rfl, rfl, congrArg some (inc64 (by omega)), trivial⟩ ⟨rfl, trivial⟩
 ·have hk : k = s.shelves.length := by simp at e1; omega
  subst hk
  refine W.ret r rfl rfl ?_
  rw [fits_yes hall]
  exact ⟨rfl, hle⟩
end Go.Mz


set_option maxRecDepth 100000
namespace Go.Mz
open Go.Conc Go.Proofs
variable {X : Logic Tryz.prog}
theorem rPlan_sp (s : St) (p : Pt) (ha la : Option Addr) (hc lc : Nat) (hs : List Int) (l : List Stand) (L : LH) (h : AskAt L s p ha hs) (hok : Ok s) (hhk : HOk s hs) (hl : SlAt L la 2 encSt l) (hn : l.length ≤ 140737488355328) :
  Sp X 118 [stA s p, .slice ha hs.length hc, .slice la l.length lc] L (fun v L' => v = .int .i64 (planE s hs l) ∧ Le L L') := by
 have hc3 := hok.c3
 obtain ⟨p1, p2, n1, n2⟩ := p
 refine Sp.enter (n := 72) Tryz.func118 rfl rfl rfl rfl fun C hX _ hL0 r => ?_
 refine W.go 99 rfl ?_
 refine W.split rfl rfl rfl (fun c1 => W.go 99 rfl ?_) (fun c1 => W.go 99 rfl ?_)
 ·refine W.ret r rfl rfl ?_
  have e : sizedE l.length s.cones.length s.cones.length = 7 := by unfold sizedE; rw [if_pos (by simpa using c1)]
  unfold planE
  rw [e]
  exact ⟨rfl, Le.refl _⟩
 refine W.split rfl rfl rfl (fun c2 => W.go 99 rfl ?_) (fun c2 => W.go 99 rfl ?_)
 ·refine W.ret r rfl rfl ?_
  have e : sizedE l.length s.cones.length s.cones.length = 6 := by unfold sizedE; rw [if_neg (by simpa using c1), if_pos (by simpa using c2)]
  unfold planE
  rw [e]
  exact ⟨rfl, Le.refl _⟩
 have hln : l.length = s.cones.length := by simp at c1 c2; omega
 have hpE : planE s hs l = if putsE s hs s.cones l ≠ 0 then putsE s hs s.cones l else if fitsS s hs l then 0 else 6 := by
  have e : sizedE l.length s.cones.length s.cones.length = 0 := by unfold sizedE; rw [if_neg (by omega), if_neg (by omega)]
  unfold planE
  rw [e]; simp
 refine W.loop (fun m E B L' => ∃ (i : Nat), m = l.length - i ∧ i ≤ l.length ∧ L = L' ∧ putsE s hs (s.cones.drop i) (l.drop i) = putsE s hs s.cones l ∧ (∀ (j : Nat) a, j < i → l[j]? = some a → a.shelf = -1 ∨ isStand s a = true) ∧
   E = [(1, .v (.slice ha hs.length hc)), (2, .v (.slice la l.length lc)), (3, .p 0 0), (7, .v (.int .i64 i))] ∧ B = [some ⟨cellsS (.v (stA s ⟨p1, p2, n1, n2⟩)), 25⟩])
  ⟨0, rfl, by omega, rfl, by simp, fun _ _ h => by omega, rfl, rfl⟩ (by exact ⟨rfl, rfl, rfl, rfl, trivial⟩) (by exact ⟨rfl, trivial⟩) ?_
 rintro _ _ _ _ ⟨i, rfl, h1, rfl, hg, hall, rfl, rfl⟩ again
 refine W.go 99 rfl ?_
 refine W.split rfl rfl rfl (fun d1 => W.go 99 rfl ?_) (fun d1 => W.go 99 rfl ?_)
 ·have hi : i < l.length := by simpa using d1
  have hic : i < s.cones.length := by omega
  have hge := List.getElem?_eq_getElem hi
  obtain ⟨lad, rfl⟩ := hl.addr hi
  rw [List.drop_eq_getElem_cons hi, List.drop_eq_getElem_cons hic, putsE] at hg
  have next : putE s hs s.cones[i] l[i] = 0 → (l[i].shelf = -1 ∨ isStand s l[i] = true) → putsE s hs (s.cones.drop (i + 1)) (l.drop (i + 1)) = putsE s hs s.cones l ∧ (∀ (j : Nat) a, j < i + 1 → l[j]? = some a → a.shelf = -1 ∨ isStand s a = true) := fun h0 hv => by
   refine ⟨by rw [← hg, if_neg (by rw [h0]; simp)], fun j a hj ha => ?_⟩
   by_cases e : j = i
   ·subst e; rw [hge] at ha; cases ha; exact hv
   ·exact hall j a (by omega) ha
  have bad : ∀ e, putE s hs s.cones[i] l[i] = e → e ≠ 0 → planE s hs l = e := fun e h0 he => by
   rw [if_pos (by rw [h0]; exact he), h0] at hg
   rw [hpE, ← hg, if_pos he]
  refine W.vf rfl rfl rfl rfl (Vf.idx rfl rfl rfl rfl rfl rfl (hi)) ?_
  refine W.go 99 rfl ?_
  refine W.vf rfl rfl rfl rfl (Vf.load rfl rfl rfl (hl.fld hge 0 rfl)) ?_
  refine W.go 99 rfl ?_
  refine W.split rfl rfl rfl (fun d2 => W.go 99 rfl ?_) (fun d2 => W.go 99 rfl ?_)
  ·have hsh : l[i].shelf = -1 := by simpa using d2
   refine W.vf rfl rfl rfl rfl (Vf.idx rfl rfl rfl rfl rfl rfl (hi)) ?_
   refine W.go 99 rfl ?_
   refine W.vf rfl rfl rfl rfl (Vf.load rfl rfl rfl (hl.fld hge 1 rfl)) ?_
   refine W.go 99 rfl ?_
   refine W.split rfl rfl rfl (fun d3 => W.go 99 rfl ?_) (fun d3 => W.go 99 rfl ?_)
   ·refine W.ret r rfl rfl ?_
    rw [bad 1 (by unfold putE; rw [if_pos hsh, if_neg (by simpa using d3)]) (by decide)]
    exact ⟨rfl, Le.refl _⟩
   ·obtain ⟨q1, q2⟩ := next (by unfold putE; rw [if_pos hsh, if_pos (by simpa using d3)]) (.inl hsh)
    exact W.again (again _ _ _ _ (by omega) ⟨i + 1, rfl, by omega, rfl, q1, q2, rfl, rfl⟩) ⟨rfl, rfl, rfl, congrArg some (inc64 (by omega)), trivial⟩ ⟨rfl, trivial⟩
  have hsh : ¬ l[i].shelf = -1 := by simpa using d2
  refine W.drawn (by kernel_rfl) _ (Le.refl _) ?_
  refine DD.run' [0, 1, 2] rfl ?_
  refine DD.vf 3 rfl rfl rfl rfl rfl (Vf.idx rfl rfl rfl rfl rfl rfl (hi)) ?_
  refine DD.vf 4 rfl rfl rfl rfl rfl (Vf.loadN rfl rfl rfl (hl.whole hge rfl)) ?_
  refine DD.act 5 rfl rfl rfl rfl rfl (Ef.call rfl (rIsStand_sp s ⟨p1, p2, n1, n2⟩ l[i] L hok)) (by rintro _ _ _ ⟨_, rfl, rfl, rfl, rfl⟩; exact ⟨Le.refl _, rfl, .inl rfl⟩) ?_
  rintro _ _ _ ⟨_, rfl, rfl, rfl, rfl⟩
  refine DD.run' [6] rfl ?_
  refine .fin rfl ?_
  refine W.go 99 rfl ?_
  refine W.split rfl rfl rfl (fun d3 => W.go 99 rfl ?_) (fun d3 => W.go 99 rfl ?_)
  ·refine W.ret r rfl rfl ?_
   rw [bad 3 (by unfold putE; rw [if_neg hsh, if_pos (by simpa using d3)]) (by decide)]
   exact ⟨rfl, Le.refl _⟩
  have hst : isStand s l[i] = true := by simpa using d3
  obtain ⟨k', d0, hae, hk', hd0⟩ := stand_nat hhk hst
  obtain ⟨ca, hca⟩ := h.st.co.addr hic
  obtain rfl : p2 = some ca := hca
  have hge2 := hge
  rw [hae] at hge2
  have hpu : putE s hs s.cones[i] l[i] = if (fateS s hs s.cones[i] ⟨k', d0⟩).1 = 1 then 12 else if (fateS s hs s.cones[i] ⟨k', d0⟩).1 = 2 then 9 else 0 := by
   unfold putE; rw [if_neg hsh, if_neg (by rw [hst]; simp), hae]
  refine W.drawn (by kernel_rfl) _ (Le.refl _) ?_
  refine DD.run' [0, 1, 2, 3, 4, 7, 8] rfl ?_
  refine DD.vf 5 rfl rfl rfl rfl rfl (Vf.idx rfl rfl rfl rfl rfl rfl (hic)) ?_
  refine DD.vf 6 rfl rfl rfl rfl rfl (Vf.loadN rfl rfl rfl (h.st.co.whole (List.getElem?_eq_getElem hic) rfl)) ?_
  refine DD.vf 9 rfl rfl rfl rfl rfl (Vf.idx rfl rfl rfl rfl rfl rfl (hi)) ?_
  refine DD.vf 10 rfl rfl rfl rfl rfl (Vf.loadN rfl rfl rfl (hl.whole hge2 rfl)) ?_
  refine DD.act 11 rfl rfl rfl rfl rfl (Ef.call rfl (rFate_sp s ⟨p1, some ca, n1, n2⟩ ha hc hs s.cones[i] k' d0 L h hok hhk (List.getElem_mem hic) hk' hd0)) (by rintro _ _ _ ⟨_, rfl, rfl, rfl, rfl⟩; exact ⟨Le.refl _, rfl, .inl rfl⟩) ?_
  rintro _ _ _ ⟨_, rfl, rfl, rfl, rfl⟩
  refine DD.run' [12, 13, 14, 15, 16] rfl ?_
  refine .fin rfl ?_
  refine W.go 99 rfl ?_
  refine W.split rfl rfl rfl (fun d4 => W.go 99 rfl ?_) (fun d4 => W.go 99 rfl ?_)
  ·refine W.ret r rfl rfl ?_
   rw [bad 12 (by rw [hpu, if_pos (by simpa using d4)]) (by decide)]
   exact ⟨rfl, Le.refl _⟩
  refine W.split rfl rfl rfl (fun d5 => W.go 99 rfl ?_) (fun d5 => W.go 99 rfl ?_)
  ·refine W.ret r rfl rfl ?_
   rw [bad 9 (by rw [hpu, if_neg (by simpa using d4), if_pos (by simpa using d5)]) (by decide)]
   exact ⟨rfl, Le.refl _⟩
  ·obtain ⟨q1, q2⟩ := next (by rw [hpu, if_neg (by simpa using d4), if_neg (by simpa using d5)]) (.inr hst)
   exact W.again (again _ _ _ _ (by omega) ⟨i + 1, rfl, by omega, rfl, q1, q2, rfl, rfl⟩) ⟨rfl, rfl, rfl, congrArg some (inc64 (by omega)), trivial⟩ ⟨rfl, trivial⟩
 ·have hie : i = l.length := by simp at d1; omega
  have hp0 : putsE s hs s.cones l = 0 := by rw [← hg, hie, List.drop_length, hln, List.drop_length]; rfl
  have hv : PlanV s l := ⟨by omega, fun a ha => by
   obtain ⟨j, hj, rfl⟩ := List.getElem_of_mem ha
   exact hall j _ (by omega) (List.getElem?_eq_getElem hj)⟩
  have hpF : planE s hs l = if fitsS s hs l then 0 else 6 := by rw [hpE, hp0]; simp
  refine W.eff rfl rfl rfl (Ef.call rfl (rFits_sp s ⟨p1, p2, n1, n2⟩ ha la hc lc hs l L h hok hhk hl hv)) ?_
  rintro _ _ _ ⟨_, rfl, rfl, rfl, hle⟩
  refine W.go 99 rfl ?_
  refine W.split rfl rfl rfl (fun e1 => W.go 99 rfl ?_) (fun e1 => W.go 99 rfl ?_)
  ·refine W.ret r rfl rfl ?_
   rw [hpF, if_neg (by simpa using e1)]
   exact ⟨rfl, hle⟩
  ·refine W.ret r rfl rfl ?_
   rw [hpF, if_pos (by simpa using e1)]
   exact ⟨rfl, hle⟩
def RightE (s : St) (hs : List Int) (l : List Stand) : Int := if askE s hs ≠ 0 then askE s hs else planE s hs l
theorem rRight_sp (s : St) (p : Pt) (ha la : Option Addr) (hc lc : Nat) (hs : List Int) (l : List Stand) (L : LH) (h : AskAt L s p ha hs) (hl : SlAt L la 2 encSt l) (hn : l.length ≤ 140737488355328) :
  Sp X 67 [stA s p, .slice ha hs.length hc, .slice la l.length lc] L (fun v L' => v = .int .i64 (RightE s hs l) ∧ Le L L') := by
 refine Sp.enter (n := 18) Tryz.func67 rfl rfl rfl rfl fun C hX _ hL0 r => ?_
 refine W.go 99 rfl ?_
 refine W.eff rfl rfl rfl (Ef.call rfl (asked_sp s p ha hc hs L h)) ?_
 rintro _ _ _ ⟨_, rfl, rfl, rfl, rfl⟩
 refine W.go 99 rfl ?_
 refine W.split rfl rfl rfl (fun e1 => W.go 99 rfl ?_) (fun e1 => W.go 99 rfl ?_)
 ·refine W.ret r rfl rfl ?_
  unfold RightE
  rw [if_pos (by simpa using e1)]
  exact ⟨rfl, Le.refl _⟩
 ·have h1 : askE s hs = 0 := by simpa using e1
  obtain ⟨hok, hhk⟩ := ask_ok h1
  refine W.eff rfl rfl rfl (Ef.call rfl (rPlan_sp s p ha la hc lc hs l L h hok hhk hl hn)) ?_
  rintro _ _ _ ⟨_, rfl, rfl, rfl, hle⟩
  refine W.go 99 rfl ?_
  refine W.ret r rfl rfl ?_
  unfold RightE
  rw [if_neg (by rw [h1]; simp)]
  exact ⟨rfl, hle⟩
end Go.Mz


set_option maxRecDepth 100000
namespace Go.Mz
open Go.Conc Go.Proofs
variable {X : Logic Tryz.prog}
theorem rCount_sp (la : Option Addr) (lc : Nat) (l : List Stand) (L : LH) (hl : SlAt L la 2 encSt l) (hn : l.length ≤ 1000000) : Sp X 103 [.slice la l.length lc] L (fun v L' => v = .int .i64 (cnt l) ∧ L = L') := by
 refine Sp.enter (n := 20) Tryz.func103 rfl rfl rfl rfl fun C hX _ hL0 r => ?_
 refine W.go 99 rfl ?_
 refine W.loop (fun m E B L' => ∃ (j : Nat), m = l.length - j ∧ j ≤ l.length ∧ L = L' ∧
   E = [(0, .v (.slice la l.length lc)), (3, .v (.int .i64 (cnt (l.take j)))), (4, .v (.int .i64 j))] ∧ B = [])
  ⟨0, rfl, by omega, rfl, rfl, rfl⟩ (by exact ⟨rfl, rfl, rfl, trivial⟩) trivial ?_
 rintro _ _ _ _ ⟨j, rfl, hj, rfl, rfl, rfl⟩ again
 refine W.go 99 rfl ?_
 refine W.split rfl rfl rfl (fun e1 => W.go 99 rfl ?_) (fun e1 => W.go 99 rfl ?_)
 ·have hjl : j < l.length := by simpa using e1
  have hge := List.getElem?_eq_getElem hjl
  obtain ⟨lad, rfl⟩ := hl.addr hjl
  have htk : l.take (j + 1) = l.take j ++ [l[j]] := List.take_succ_eq_append_getElem hjl
  have hcj := cnt_le (l.take j)
  rw [List.length_take] at hcj
  refine W.vf rfl rfl rfl rfl (Vf.idx rfl rfl rfl rfl rfl rfl (hjl)) ?_
  refine W.go 99 rfl ?_
  refine W.vf rfl rfl rfl rfl (Vf.load rfl rfl rfl (hl.fld hge 0 rfl)) ?_
  refine W.go 99 rfl ?_
  refine W.split rfl rfl rfl (fun e2 => W.go 99 rfl ?_) (fun e2 => W.go 99 rfl ?_)
  ·exact W.again (again _ _ _ _ (by omega) ⟨j + 1, rfl, by omega, rfl, rfl, rfl⟩) ⟨rfl, congrArg some (w64 (by rw [htk, cnt_add, if_pos (by simpa using e2)]) (by rw [htk, cnt_add, if_pos (by simpa using e2)]; omega) (by rw [htk, cnt_add, if_pos (by simpa using e2)]; omega)), congrArg some (inc64 (by omega)), trivial⟩ trivial
  ·refine W.again (again _ _ _ _ (by omega) ⟨j + 1, rfl, by omega, rfl, rfl, rfl⟩) ⟨rfl, ?_, congrArg some (inc64 (by omega)), trivial⟩ trivial
   rw [htk, cnt_add, if_neg (by simpa using e2), Int.add_zero]
   rfl
 ·have hje : j = l.length := by simp at e1; omega
  subst hje
  refine W.ret r rfl rfl ?_
  rw [List.take_length]
  exact ⟨rfl, rfl⟩
end Go.Mz


set_option maxRecDepth 100000
namespace Go.Mz
open Go.Conc Go.Proofs
variable {X : Logic Tryz.prog}
theorem same_end {α : Type} [DecidableEq α] {a b : List α} {i : Nat} (h : a.take i = b.take i) (hi : i = a.length ∨ i = b.length) (h1 : i ≤ a.length) (h2 : i ≤ b.length) : ((a.length : Int) == (b.length : Int)) = decide (a = b) := by
 rw [Bool.eq_iff_iff, beq_iff_eq, decide_eq_true_eq]
 constructor
 ·intro e
  rw [List.take_of_length_le (by omega), List.take_of_length_le (by omega)] at h
  exact h
 ·rintro rfl; rfl
theorem take_next {α : Type} {a b : List α} {i : Nat} (h : a.take i = b.take i) (h1 : i < a.length) (h2 : i < b.length) (he : a[i] = b[i]) : a.take (i + 1) = b.take (i + 1) := by
 rw [List.take_succ_eq_append_getElem h1, List.take_succ_eq_append_getElem h2, h, he]
theorem EqInts_sp (pa pb : Option Addr) (ca cb : Nat) (a b : List Int) (L : LH) (ha : IntsAt L pa a) (hb : IntsAt L pb b) (na : a.length ≤ 1000000) (nb : b.length ≤ 1000000) :
  Sp X 33 [.slice pa a.length ca, .slice pb b.length cb] L (fun v L' => v = .bool (decide (a = b)) ∧ L = L') := by
 refine Sp.enter (n := 32) Tryz.func33 rfl rfl rfl rfl fun C hX _ hL0 r => ?_
 refine W.go 99 rfl ?_
 refine W.loop (fun m E B L' => ∃ (i : Nat), m = a.length - i ∧ i ≤ a.length ∧ i ≤ b.length ∧ a.take i = b.take i ∧ L = L' ∧
   E = [(0, .v (.slice pa a.length ca)), (1, .v (.slice pb b.length cb)), (5, .v (.int .i64 i))] ∧ B = [])
  ⟨0, rfl, by omega, by omega, rfl, rfl, rfl, rfl⟩ (by exact ⟨rfl, rfl, rfl, trivial⟩) trivial ?_
 rintro _ _ _ _ ⟨i, rfl, h1, h2, ht, rfl, rfl, rfl⟩ again
 refine W.go 99 rfl ?_
 refine W.split rfl rfl rfl (fun e1 => W.go 99 rfl ?_) (fun e1 => W.go 99 rfl ?_)
 ·have hia : i < a.length := by simpa using e1
  refine W.split rfl rfl rfl (fun e2 => W.go 99 rfl ?_) (fun e2 => W.go 99 rfl ?_)
  ·have hib : i < b.length := by simpa using e2
   obtain ⟨aa, rfl⟩ := ha.addr hia
   obtain ⟨ab, rfl⟩ := hb.addr hib
   refine W.drawn (by kernel_rfl) _ (Le.refl _) ?_
   refine DD.run' [0, 1, 4, 5] rfl ?_
   refine DD.vf 2 rfl rfl rfl rfl rfl (Vf.idx1 rfl rfl rfl rfl rfl rfl rfl (hia)) ?_
   refine DD.vf 3 rfl rfl rfl rfl rfl (Vf.load rfl rfl rfl (ha.int (List.getElem?_eq_getElem hia))) ?_
   refine DD.vf 6 rfl rfl rfl rfl rfl (Vf.idx1 rfl rfl rfl rfl rfl rfl rfl (hib)) ?_
   refine DD.vf 7 rfl rfl rfl rfl rfl (Vf.load rfl rfl rfl (hb.int (List.getElem?_eq_getElem hib))) ?_
   refine DD.run' [8] rfl ?_
   refine .fin rfl ?_
   refine W.go 99 rfl ?_
   refine W.split rfl rfl rfl (fun e3 => W.go 99 rfl ?_) (fun e3 => W.go 99 rfl ?_)
   ·refine W.ret r rfl rfl ?_
    have hne : a ≠ b := fun e => by subst e; simp at e3
    rw [decide_eq_false hne]
    exact ⟨rfl, rfl⟩
   ·exact W.again (again _ _ _ _ (by omega) ⟨i + 1, rfl, by omega, by omega, take_next ht hia hib (by simpa using e3), rfl, rfl, rfl⟩) ⟨rfl, rfl, congrArg some (inc64 (by omega)), trivial⟩ trivial
  ·refine W.ret r rfl rfl ?_
   have hib : i = b.length := by simp at e2; omega
   rw [← same_end ht (.inr hib) h1 h2]
   exact ⟨rfl, rfl⟩
 ·refine W.ret r rfl rfl ?_
  have hia : i = a.length := by simp at e1; omega
  rw [← same_end ht (.inl hia) h1 h2]
  exact ⟨rfl, rfl⟩
theorem EqStands_sp (pa pb : Option Addr) (ca cb : Nat) (a b : List Stand) (L : LH) (ha : SlAt L pa 2 encSt a) (hb : SlAt L pb 2 encSt b) (na : a.length ≤ 1000000) (nb : b.length ≤ 1000000) :
  Sp X 47 [.slice pa a.length ca, .slice pb b.length cb] L (fun v L' => v = .bool (decide (a = b)) ∧ L = L') := by
 refine Sp.enter (n := 32) Tryz.func47 rfl rfl rfl rfl fun C hX _ hL0 r => ?_
 refine W.go 99 rfl ?_
 refine W.loop (fun m E B L' => ∃ (i : Nat), m = a.length - i ∧ i ≤ a.length ∧ i ≤ b.length ∧ a.take i = b.take i ∧ L = L' ∧
   E = [(0, .v (.slice pa a.length ca)), (1, .v (.slice pb b.length cb)), (5, .v (.int .i64 i))] ∧ B = [])
  ⟨0, rfl, by omega, by omega, rfl, rfl, rfl, rfl⟩ (by exact ⟨rfl, rfl, rfl, trivial⟩) trivial ?_
 rintro _ _ _ _ ⟨i, rfl, h1, h2, ht, rfl, rfl, rfl⟩ again
 refine W.go 99 rfl ?_
 refine W.split rfl rfl rfl (fun e1 => W.go 99 rfl ?_) (fun e1 => W.go 99 rfl ?_)
 ·have hia : i < a.length := by simpa using e1
  refine W.split rfl rfl rfl (fun e2 => W.go 99 rfl ?_) (fun e2 => W.go 99 rfl ?_)
  ·have hib : i < b.length := by simpa using e2
   obtain ⟨aa, rfl⟩ := ha.addr hia
   obtain ⟨ab, rfl⟩ := hb.addr hib
   have hdec : (a[i].shelf == b[i].shelf && a[i].day == b[i].day) = decide (a[i] = b[i]) := by
    generalize a[i] = x
    generalize b[i] = y
    obtain ⟨x1, x2⟩ := x; obtain ⟨y1, y2⟩ := y
    rw [Bool.eq_iff_iff]; simp
   refine W.drawn (by kernel_rfl) _ (Le.refl _) ?_
   refine DD.run' [0, 1, 4, 5] rfl ?_
   refine DD.vf 2 rfl rfl rfl rfl rfl (Vf.idx rfl rfl rfl rfl rfl rfl (hia)) ?_
   refine DD.vf 3 rfl rfl rfl rfl rfl (Vf.loadN rfl rfl rfl (ha.whole (List.getElem?_eq_getElem hia) rfl)) ?_
   refine DD.vf 6 rfl rfl rfl rfl rfl (Vf.idx rfl rfl rfl rfl rfl rfl (hib)) ?_
   refine DD.vf 7 rfl rfl rfl rfl rfl (Vf.loadN rfl rfl rfl (hb.whole (List.getElem?_eq_getElem hib) rfl)) ?_
   refine DD.vf 8 rfl rfl rfl rfl rfl (Vf.eqS (xs := [a[i].shelf, a[i].day]) (ys := [b[i].shelf, b[i].day]) (.inr rfl) rfl rfl rfl rfl (by kernel_rfl) (fun n Q H R => eq30 (n := n + 1))) ?_
   refine .fin rfl ?_
   refine W.go 99 rfl ?_
   refine W.split rfl rfl rfl (fun e3 => W.go 99 rfl ?_) (fun e3 => W.go 99 rfl ?_)
   ·refine W.ret r rfl rfl ?_
    have hne : a ≠ b := fun e => by subst e; simp [eqC] at e3
    rw [decide_eq_false hne]
    exact ⟨rfl, rfl⟩
   ·exact W.again (again _ _ _ _ (by omega) ⟨i + 1, rfl, by omega, by omega, take_next ht hia hib (by rw [hdec] at e3; simpa [eqC] using e3), rfl, rfl, rfl⟩) ⟨rfl, rfl, congrArg some (inc64 (by omega)), trivial⟩ trivial
  ·refine W.ret r rfl rfl ?_
   have hib : i = b.length := by simp at e2; omega
   rw [← same_end ht (.inr hib) h1 h2]
   exact ⟨rfl, rfl⟩
 ·refine W.ret r rfl rfl ?_
  have hia : i = a.length := by simp at e1; omega
  rw [← same_end ht (.inl hia) h1 h2]
  exact ⟨rfl, rfl⟩
def findI (l : List Int) (x : Int) : Int := match l.findIdx? (· == x) with | some i => (i : Int) | none => -1
end Go.Mz


set_option maxRecDepth 100000
namespace Go.Mz
open Go.Conc Go.Proofs
variable {X : Logic Tryz.prog}
theorem W.cut1 {P : Program} {C : Cx P} {n : Nat} {ds : List Deferred} {a : Item} {k : List Item} {E : Env} {B : List (Option Bx)} {L : LH} (J : Env → List (Option Bx) → LH → Prop) (hJ : ∀ E B L, J E B L → W C n ds k E B L) (h : (∀ E' B' L', J E' B' L' → W C n ds k E' B' L') → W C n ds (a :: k) E B L) : W C n ds (a :: k) E B L := h hJ
structure HatAt (L : LH) (b : Nat) (ad : Option Addr) (cap : Nat) (l : List Int) (n : Nat) : Prop where
 blk : ∃ seed : Int, L b = some (.cells [Value.slice ad l.length cap, .int .i64 n, .int .u64 seed].toArray 98 (0, 0), true)
 ints : IntsAt (L.but b) ad l
theorem HatAt.next {L L' : LH} {b : Nat} {ad : Option Addr} {cap : Nat} {l : List Int} {n : Nat} (h : HatAt L b ad cap l n) (hk : ∀ b', b' ≠ b → L' b' = L b') (hs : ∃ seed : Int, L' b = some (.cells [Value.slice ad l.length cap, .int .i64 ((n + 1 : Nat) : Int), .int .u64 seed].toArray 98 (0, 0), true)) : HatAt L' b ad cap l (n + 1) := by
 refine ⟨hs, ?_⟩
 have e : L'.but b = L.but b := by
  funext b'
  unfold LH.but
  split
  ·rfl
  ·rename_i hb; exact hk b' hb
 rw [e]; exact h.ints
theorem u64_nn (y : Int) : 0 ≤ IntKind.u64.wrap y := by
 unfold IntKind.wrap
 exact Int.emod_nonneg _ (by decide)
theorem u64_in (y : Int) (h1 : 0 ≤ y) (h2 : y < 18446744073709551616) : IntKind.u64.wrap y = y := by
 unfold IntKind.wrap
 exact Int.emod_eq_of_lt h1 h2
theorem nat2 {n : Nat} (h : n ≤ 1000000) : IntKind.i64.wrap ((n : Int) + 1) = ((n + 1 : Nat) : Int) := by rw [wrap64_in _ (by omega) (by omega)]; rfl
theorem stir_sp (b : Nat) (ad : Option Addr) (cap : Nat) (l : List Int) (n : Nat) (L : LH) (h : HatAt L b ad cap l n) (hn : n ≤ 1000000) (hl : l.length ≤ 140737488355328) :
  Sp X 80 [pt b] L (fun v L' => (∃ x : Int, v = .int .u64 x ∧ 0 ≤ x) ∧ (∀ b', b' ≠ b → L' b' = L b') ∧ ∃ seed : Int, L' b = some (.cells [Value.slice ad l.length cap, .int .i64 ((n + 1 : Nat) : Int), .int .u64 seed].toArray 98 (0, 0), true)) := by
 obtain ⟨⟨seed, hb⟩, hi⟩ := h
 have hi := hi.le (but_le _ _)
 refine Sp.enter (n := 75) Tryz.func80 rfl rfl rfl rfl fun C hX _ hL0 r => ?_
 refine W.go 99 rfl ?_
 refine W.vf rfl rfl rfl rfl (Vf.load rfl rfl rfl (cell_of hb rfl)) ?_
 refine W.go 99 rfl ?_
 refine W.drawn (by kernel_rfl) _ (Le.refl _) ?_
 refine DD.run' [0, 1, 2, 4, 5, 6] rfl ?_
 refine DD.vf 3 rfl rfl rfl rfl rfl (Vf.load rfl rfl rfl (cell_of hb rfl)) ?_
 refine DD.vf 7 rfl rfl rfl rfl rfl (Vf.load rfl rfl rfl (cell_of hb rfl)) ?_
 refine DD.run' [8, 9] rfl ?_
 refine .fin rfl ?_
 refine W.cut1 (fun E B L' => L = L' ∧ ∃ y : Int, SubE E [(0, .v (pt b)), (3, .v (.int .u64 y))]) ?_ ?_
 ·rintro E B _ ⟨rfl, y, hE⟩
  refine W.weak (B' := []) hE (by cases B <;> exact trivial) ?_
  refine W.go 99 rfl ?_
  refine W.vf rfl rfl rfl rfl (Vf.load rfl rfl rfl (cell_of hb rfl)) ?_
  refine W.go 99 rfl ?_
  rw [nat2 hn]
  refine W.eff0 rfl rfl (Ef.stoL rfl ⟨_, rfl, rfl⟩ rfl hb rfl rfl rfl rfl rfl) ?_
  rintro _ _ _ ⟨rfl, rfl, rfl⟩
  refine W.go 99 rfl ?_
  refine W.vf rfl rfl rfl rfl (Vf.load rfl rfl rfl (cell_of (put_same _ _ _) rfl)) ?_
  refine W.go 99 rfl ?_
  refine W.eff0 rfl rfl (Ef.stoL rfl ⟨_, rfl, rfl⟩ rfl (put_same _ _ _) rfl rfl rfl rfl rfl) ?_
  rintro _ _ _ ⟨rfl, rfl, rfl⟩
  refine W.go 99 rfl ?_
  generalize hL1 : LH.put (LH.put L b _) b _ = L1
  have hk1 : ∀ b', b' ≠ b → L1 b' = L b' := fun b' hb' => by rw [← hL1, put_ne _ _ hb', put_ne _ _ hb']
  obtain ⟨sd1, hb1⟩ : ∃ sd1 : Int, L1 b = some (.cells [Value.slice ad l.length cap, .int .i64 ((n + 1 : Nat) : Int), .int .u64 sd1].toArray 98 (0, 0), true) := ⟨_, by rw [← hL1]; exact put_same _ _ _⟩
  clear hL1
  refine W.drawn (by kernel_rfl) noL (noL_le _) ?_
  refine DD.run' [0, 1, 2, 3, 5, 6, 7] rfl ?_
  refine DD.act2 4 8 rfl rfl rfl rfl rfl rfl rfl rfl (Ef.val rfl (Vf.load rfl rfl rfl (by exact cell_of hb1 rfl))) (Ef.val rfl (Vf.load rfl rfl rfl (by exact cell_of hb1 rfl))) (by rintro _ _ _ ⟨rfl, rfl, rfl⟩; exact ⟨noL_le _, rfl, .inl rfl⟩) (by rintro _ _ _ ⟨rfl, rfl, rfl⟩; exact ⟨noL_le _, rfl, .inl rfl⟩) ?_ ?_
  ·rintro _ _ _ ⟨rfl, rfl, hq⟩
   obtain rfl := hq.symm
   refine DD.act 8 rfl rfl rfl rfl rfl (Ef.val rfl (Vf.load rfl rfl rfl (cell_of hb1 rfl))) (by rintro _ _ _ ⟨rfl, rfl, rfl⟩; exact ⟨noL_le _, rfl, .inl rfl⟩) ?_
   rintro _ _ _ ⟨rfl, rfl, rfl⟩
   refine DD.run' [9, 10, 11, 12] rfl ?_
   refine DD.act 13 rfl rfl rfl rfl rfl (Ef.stoL rfl ⟨_, rfl, rfl⟩ rfl hb1 rfl rfl rfl rfl rfl) ((by rintro _ _ _ ⟨rfl, rfl, rfl⟩; exact ⟨noL_le _, rfl, .inl rfl⟩)) ?_
   rintro _ _ _ ⟨rfl, rfl, rfl⟩
   refine .fin rfl ?_
   refine W.go 99 rfl ?_
   refine W.vf rfl rfl rfl rfl (Vf.load rfl rfl rfl (cell_of (put_same _ _ _) rfl)) ?_
   refine W.go 99 rfl ?_
   refine W.ret r rfl rfl ?_
   exact ⟨⟨_, rfl, Int.fdiv_nonneg (u64_nn _) (by decide)⟩, fun b' hb' => by rw [put_ne _ _ hb']; exact hk1 b' hb', _, put_same _ _ _⟩
  ·rintro _ _ _ ⟨rfl, rfl, hq⟩
   obtain rfl := hq.symm
   refine DD.run' [9] rfl ?_
   refine DD.act 4 rfl rfl rfl rfl rfl (Ef.val rfl (Vf.load rfl rfl rfl (cell_of hb1 rfl))) (by rintro _ _ _ ⟨rfl, rfl, rfl⟩; exact ⟨noL_le _, rfl, .inl rfl⟩) ?_
   rintro _ _ _ ⟨rfl, rfl, rfl⟩
   refine DD.run' [10, 11, 12] rfl ?_
   refine DD.act 13 rfl rfl rfl rfl rfl (Ef.stoL rfl ⟨_, rfl, rfl⟩ rfl hb1 rfl rfl rfl rfl rfl) ((by rintro _ _ _ ⟨rfl, rfl, rfl⟩; exact ⟨noL_le _, rfl, .inl rfl⟩)) ?_
   rintro _ _ _ ⟨rfl, rfl, rfl⟩
   refine .fin rfl ?_
   refine W.go 99 rfl ?_
   refine W.vf rfl rfl rfl rfl (Vf.load rfl rfl rfl (cell_of (put_same _ _ _) rfl)) ?_
   refine W.go 99 rfl ?_
   refine W.ret r rfl rfl ?_
   exact ⟨⟨_, rfl, Int.fdiv_nonneg (u64_nn _) (by decide)⟩, fun b' hb' => by rw [put_ne _ _ hb']; exact hk1 b' hb', _, put_same _ _ _⟩
 ·intro rest
  refine W.split rfl rfl rfl (fun e1 => ?_) (fun e1 => ?_)
  ·have hnl : n < l.length := by simpa using e1
   obtain ⟨la, rfl⟩ := hi.addr hnl
   refine W.go 99 rfl ?_
   refine W.drawn (by kernel_rfl) _ (Le.refl _) ?_
   refine DD.run' [0, 1, 2, 3, 5, 6, 7] rfl ?_
   refine DD.vf 4 rfl rfl rfl rfl rfl (Vf.load rfl rfl rfl (cell_of hb rfl)) ?_
   refine DD.vf 8 rfl rfl rfl rfl rfl (Vf.load rfl rfl rfl (cell_of hb rfl)) ?_
   refine DD.vf 9 rfl rfl rfl rfl rfl (Vf.idx1 rfl rfl rfl rfl rfl rfl rfl (hnl)) ?_
   refine DD.vf 10 rfl rfl rfl rfl rfl (Vf.load rfl rfl rfl (hi.int (List.getElem?_eq_getElem hnl))) ?_
   refine DD.run' [11, 12, 13, 14] rfl ?_
   refine .fin rfl ?_
   exact rest _ _ _ ⟨rfl, _, rfl, rfl, trivial⟩
  ·refine W.go 2 rfl ?_
   exact rest _ _ _ ⟨rfl, _, rfl, rfl, trivial⟩
theorem To_sp (b : Nat) (ad : Option Addr) (cap : Nat) (l : List Int) (n m : Nat) (L : LH) (h : HatAt L b ad cap l n) (hn : n ≤ 1000000) (hl : l.length ≤ 140737488355328) (hm : m ≤ 1000000) :
  Sp X 24 [pt b, .int .i64 m] L (fun v L' => (∃ y : Nat, v = .int .i64 y ∧ y ≤ m) ∧ (∀ b', b' ≠ b → L' b' = L b') ∧ ∃ seed : Int, L' b = some (.cells [Value.slice ad l.length cap, .int .i64 ((n + 1 : Nat) : Int), .int .u64 seed].toArray 98 (0, 0), true)) := by
 refine Sp.enter (n := 16) Tryz.func24 rfl rfl rfl rfl fun C hX _ hL0 r => ?_
 refine W.go 99 rfl ?_
 refine W.eff rfl rfl rfl (Ef.call rfl (stir_sp b ad cap l n L h hn hl)) ?_
 rintro _ _ _ ⟨_, rfl, rfl, ⟨x, rfl, hx⟩, hk, hs⟩
 refine W.go 99 rfl ?_
 refine W.split rfl rfl rfl (fun e1 => W.go 99 rfl ?_) (fun e1 => W.go 99 rfl ?_)
 ·refine W.ret r rfl rfl ?_
  exact ⟨⟨0, rfl, by omega⟩, hk, hs⟩
 ·have hm1 : 1 ≤ m := by simp at e1; omega
  rw [u64_in (m : Int) (by omega) (by omega), u64_in ((m : Int) + 1) (by omega) (by omega)]
  have hr1 : 0 ≤ x.tmod ((m : Int) + 1) := Int.tmod_nonneg _ hx
  have hr2 : x.tmod ((m : Int) + 1) < (m : Int) + 1 := Int.tmod_lt_of_pos _ (by omega)
  have hrem : intRes .rem .u64 x ((m : Int) + 1) = some (.int .u64 (x.tmod ((m : Int) + 1))) := by
   have h0 : ¬ ((m : Int) + 1 = 0) := by omega
   simp [intRes, h0]
  refine W.vf rfl rfl rfl rfl (Vf.bin (v := .int .u64 (x.tmod ((m : Int) + 1))) rfl rfl hrem) ?_
  refine W.go 99 rfl ?_
  refine W.ret r rfl rfl ?_
  refine ⟨⟨(x.tmod ((m : Int) + 1)).toNat, ?_, by omega⟩, hk, hs⟩
  rw [show (((x.tmod ((m : Int) + 1)).toNat : Nat) : Int) = x.tmod ((m : Int) + 1) by omega]
  show Value.int .i64 (IntKind.i64.wrap (x.tmod ((m : Int) + 1))) = _
  rw [wrap64_in _ (by omega) (by omega)]
theorem From_sp (b : Nat) (ad : Option Addr) (cap : Nat) (l : List Int) (n : Nat) (lo : Int) (m : Nat) (L : LH) (h : HatAt L b ad cap l n) (hn : n ≤ 1000000) (hl : l.length ≤ 140737488355328) (hm : m ≤ 1000000) (h1 : -1000000 ≤ lo) (h2 : lo ≤ 1000000) :
  Sp X 42 [pt b, .int .i64 lo, .int .i64 (lo + m)] L (fun v L' => (∃ y : Int, v = .int .i64 y ∧ lo ≤ y ∧ y ≤ lo + m) ∧ (∀ b', b' ≠ b → L' b' = L b') ∧ ∃ seed : Int, L' b = some (.cells [Value.slice ad l.length cap, .int .i64 ((n + 1 : Nat) : Int), .int .u64 seed].toArray 98 (0, 0), true)) := by
 refine Sp.enter (n := 14) Tryz.func42 rfl rfl rfl rfl fun C hX _ hL0 r => ?_
 refine W.go 99 rfl ?_
 rw [wrap64_in _ (by omega) (by omega), show lo + (m : Int) - lo = (m : Int) by omega]
 refine W.eff rfl rfl rfl (Ef.call rfl (To_sp b ad cap l n m L h hn hl hm)) ?_
 rintro _ _ _ ⟨_, rfl, rfl, ⟨y, rfl, hy⟩, hk, hs⟩
 refine W.go 99 rfl ?_
 rw [wrap64_in _ (by omega) (by omega)]
 refine W.ret r rfl rfl ?_
 exact ⟨⟨_, rfl, by omega, by omega⟩, hk, hs⟩
theorem Seldom_sp (b : Nat) (ad : Option Addr) (cap : Nat) (l : List Int) (n m : Nat) (L : LH) (h : HatAt L b ad cap l n) (hn : n ≤ 1000000) (hl : l.length ≤ 140737488355328) (hm : m ≤ 1000000) :
  Sp X 81 [pt b, .int .i64 ((m : Int) + 1)] L (fun v L' => (∃ y : Bool, v = .bool y) ∧ (∀ b', b' ≠ b → L' b' = L b') ∧ ∃ seed : Int, L' b = some (.cells [Value.slice ad l.length cap, .int .i64 ((n + 1 : Nat) : Int), .int .u64 seed].toArray 98 (0, 0), true)) := by
 refine Sp.enter (n := 10) Tryz.func81 rfl rfl rfl rfl fun C hX _ hL0 r => ?_
 refine W.go 99 rfl ?_
 rw [wrap64_in _ (by omega) (by omega), show (m : Int) + 1 - 1 = (m : Int) by omega]
 refine W.eff rfl rfl rfl (Ef.call rfl (To_sp b ad cap l n m L h hn hl hm)) ?_
 rintro _ _ _ ⟨_, rfl, rfl, ⟨y, rfl, hy⟩, hk, hs⟩
 refine W.go 99 rfl ?_
 refine W.ret r rfl rfl ?_
 exact ⟨⟨_, rfl⟩, hk, hs⟩
theorem NewHat_sp (ad : Option Addr) (cap : Nat) (l : List Int) (L : LH) (h : IntsAt L ad l) : Sp X 22 [.slice ad l.length cap] L (fun v L' => ∃ b, v = pt b ∧ L b = none ∧ Le L L' ∧ HatAt L' b ad cap l 0) := by
 refine Sp.enter (n := 6) Tryz.func22 rfl rfl rfl rfl fun C hX _ hL0 r => ?_
 refine W.goP [2] 99 rfl ?_
 refine W.go 99 rfl ?_
 refine W.pub 2 (.inl ⟨_, rfl⟩) rfl rfl ?_
 intro b hb _
 refine W.ret r rfl rfl ?_
 exact ⟨b, rfl, hb, Le.put hb _, ⟨_, put_same _ _ _⟩, h.le fun b' x hx => by rw [but_get (fun e => by subst e; rw [hb] at hx; cases hx)]; exact Le.put hb _ _ _ hx⟩
end Go.Mz


set_option maxRecDepth 100000
namespace Go.Mz
open Go.Conc Go.Proofs
variable {X : Logic Tryz.prog}
theorem DupInts_sp (ad : Option Addr) (c : Nat) (l : List Int) (L : LH) (h : IntsAt L ad l) (hn : l.length ≤ 1000000) : Sp X 27 [.slice ad l.length c] L (fun v L' => Grow L 1 3 encI L' v l) := by
 refine Sp.enter (n := 6) Tryz.func27 rfl rfl rfl rfl fun C hX _ hL0 r => ?_
 refine W.go 99 rfl ?_
 refine W.pub 3 (.inr ⟨_, _, _, rfl⟩) rfl rfl ?_
 intro b hb _
 refine W.eff rfl rfl rfl (Ef.grow rfl rfl rfl rfl rfl rfl rfl rfl rfl encI_len encI_sg (Grow.new (Le.put hb _) (put_same _ _ _) hb) (ls := l) (.sl (h.le (Le.put hb _)) encI_len rfl) (by simp; omega)) ?_
 rintro _ _ _ ⟨v', rfl, rfl, hg', _⟩
 refine W.go 99 rfl ?_
 refine W.ret r rfl rfl ?_
 exact hg'
theorem DupStands_sp (ad : Option Addr) (c : Nat) (l : List Stand) (L : LH) (h : SlAt L ad 2 encSt l) (hn : l.length ≤ 1000000) : Sp X 63 [.slice ad l.length c] L (fun v L' => Grow L 2 30 encSt L' v l) := by
 refine Sp.enter (n := 6) Tryz.func63 rfl rfl rfl rfl fun C hX _ hL0 r => ?_
 refine W.go 99 rfl ?_
 refine W.pub 3 (.inr ⟨_, _, _, rfl⟩) rfl rfl ?_
 intro b hb _
 refine W.eff rfl rfl rfl (Ef.grow rfl rfl rfl rfl rfl rfl rfl rfl rfl encSt_len encSt_sg (Grow.new (Le.put hb _) (put_same _ _ _) hb) (ls := l) (.sl (h.le (Le.put hb _)) encSt_len rfl) (by simp; omega)) ?_
 rintro _ _ _ ⟨v', rfl, rfl, hg', _⟩
 refine W.go 99 rfl ?_
 refine W.ret r rfl rfl ?_
 exact hg'
theorem One_sp (b : Nat) (ad xa : Option Addr) (cap xc : Nat) (l xs : List Int) (n : Nat) (L : LH) (h : HatAt L b ad cap l n) (hx : IntsAt L xa xs) (hn : n ≤ 1000000) (hl : l.length ≤ 140737488355328) (hm : xs.length ≤ 1000000) (h1 : 1 ≤ xs.length) (hxb : ∀ a, xa = some a → a.block ≠ b) :
  Sp X 96 [pt b, .slice xa xs.length xc] L (fun v L' => (∃ y : Int, v = .int .i64 y ∧ y ∈ xs) ∧ (∀ b', b' ≠ b → L' b' = L b') ∧ ∃ seed : Int, L' b = some (.cells [Value.slice ad l.length cap, .int .i64 ((n + 1 : Nat) : Int), .int .u64 seed].toArray 98 (0, 0), true)) := by
 obtain ⟨m, hmx⟩ : ∃ m, xs.length = m + 1 := ⟨xs.length - 1, by omega⟩
 obtain ⟨xd, rfl⟩ := hx.addr (i := 0) (by omega)
 have hxb := hxb xd rfl
 refine Sp.enter (n := 13) Tryz.func96 rfl rfl rfl rfl fun C hX _ hL0 r => ?_
 refine W.go 99 rfl ?_
 rw [wrap64_in _ (by omega) (by omega), show (xs.length : Int) - 1 = (m : Int) by omega]
 refine W.eff rfl rfl rfl (Ef.call rfl (To_sp b ad cap l n m L h hn hl (by omega))) ?_
 rintro _ _ _ ⟨_, rfl, rfl, ⟨y, rfl, hy⟩, hk, hs⟩
 refine W.go 99 rfl ?_
 have hyl : y < xs.length := by omega
 rename_i L2
 have hc : L2.cell? (xd.add y) = some (.int .i64 xs[y]) := by
  have := hx.int (List.getElem?_eq_getElem hyl)
  have hb2 : (xd.add y).block = xd.block := by unfold Addr.add; split <;> rfl
  unfold LH.cell? at this ⊢
  rw [hk _ (by rw [hb2]; exact hxb)]; exact this
 refine W.vf rfl rfl rfl rfl (Vf.idx1 rfl rfl rfl rfl rfl rfl rfl (hyl)) ?_
 refine W.vf rfl rfl rfl rfl (Vf.load rfl rfl rfl (hc)) ?_
 refine W.go 99 rfl ?_
 refine W.ret r rfl rfl ?_
 exact ⟨⟨_, rfl, List.getElem_mem hyl⟩, hk, hs⟩
theorem ints5 {L : LH} {b : Nat} {x0 x1 x2 x3 x4 : Int} {t : TypeId} (h : L b = some (.cells #[.int .i64 x0, .int .i64 x1, .int .i64 x2, .int .i64 x3, .int .i64 x4] t (0, 0), true)) : IntsAt L (some ⟨b, 0, none⟩) [x0, x1, x2, x3, x4] := fun i z hz => ⟨_, rfl, fun j v hv => by
 rw [add_of, Nat.zero_add]
 refine cell_of h ?_
 match i, hz, j, hv with
 | 0, hz, 0, hv => cases hz; cases hv; rfl
 | 1, hz, 0, hv => cases hz; cases hv; rfl
 | 2, hz, 0, hv => cases hz; cases hv; rfl
 | 3, hz, 0, hv => cases hz; cases hv; rfl
 | 4, hz, 0, hv => cases hz; cases hv; rfl⟩
def ConeH (c : Cone) : Prop := (1 ≤ c.wet ∧ c.wet ≤ 9) ∧ (1 ≤ c.cold ∧ c.cold ≤ 5) ∧ (0 ≤ c.jump ∧ c.jump ≤ 3) ∧ (3 ≤ c.most ∧ c.most ≤ 8)
theorem ConeOf_sp (b : Nat) (ad : Option Addr) (cap : Nat) (l : List Int) (n : Nat) (L : LH) (h : HatAt L b ad cap l n) (hn : n ≤ 900000) (hl : l.length ≤ 140737488355328) :
  Sp X 58 [pt b] L (fun v L' => (∃ c : Cone, v = .agg (encCo c).toArray ∧ ConeH c) ∧ Le (L.but b) L' ∧ HatAt L' b ad cap l (n + 4)) := by
 refine Sp.enter (n := 13) Tryz.func58 rfl rfl rfl rfl fun C hX _ hL0 r => ?_
 refine W.go 99 rfl ?_
 have f1 := From_sp (X := C.X) b ad cap l n 1 8 L h (by omega) hl (by omega) (by omega) (by omega)
 refine W.eff rfl rfl rfl (Ef.call rfl (f1)) ?_
 rintro _ _ _ ⟨_, rfl, rfl, ⟨y1, rfl, a1, a2⟩, hk1, hs1⟩
 refine W.go 99 rfl ?_
 have g1 := h.next hk1 hs1
 rename_i L1
 have f2 := From_sp (X := C.X) b ad cap l (n + 1) 1 4 L1 g1 (by omega) hl (by omega) (by omega) (by omega)
 refine W.eff rfl rfl rfl (Ef.call rfl (f2)) ?_
 rintro _ _ _ ⟨_, rfl, rfl, ⟨y2, rfl, a3, a4⟩, hk2, hs2⟩
 refine W.go 99 rfl ?_
 have g2 := g1.next hk2 hs2
 rename_i L2
 refine W.pub 8 (.inr ⟨_, _, _, rfl⟩) rfl rfl ?_
 intro b8 hb8 _
 have hl3 := Le.put hb8 (.cells #[.int .i64 0, .int .i64 1, .int .i64 1, .int .i64 2, .int .i64 3] 3)
 have i8 := put_same L2 b8 (.cells #[.int .i64 0, .int .i64 1, .int .i64 1, .int .i64 2, .int .i64 3] 3)
 have n8 : b8 ≠ b := fun e => by
  obtain ⟨sd, g⟩ := g2.blk
  rw [e, g] at hb8; cases hb8
 have g3 : HatAt (L2.put b8 (.cells #[.int .i64 0, .int .i64 1, .int .i64 1, .int .i64 2, .int .i64 3] 3)) b ad cap l (n + 2) := by
  obtain ⟨sd, g⟩ := g2.blk
  refine ⟨⟨sd, hl3 _ _ g⟩, g2.ints.le fun b' x hx => ?_⟩
  rw [but_get (fun e => by subst e; unfold LH.but at hx; rw [if_pos rfl] at hx; cases hx)]
  exact hl3 _ _ (but_le _ _ _ _ hx)
 have f3 := One_sp (X := C.X) b ad (some ⟨b8, 0, none⟩) cap 5 l [0, 1, 1, 2, 3] (n + 2) _ g3 (ints5 i8) (by omega) hl (by decide) (by decide) (fun a ha => by cases ha; exact n8)
 refine W.eff rfl rfl rfl (Ef.call rfl (f3)) ?_
 rintro _ _ _ ⟨_, rfl, rfl, ⟨y3, rfl, a5⟩, hk4, hs4⟩
 refine W.go 99 rfl ?_
 have g4 := g3.next hk4 hs4
 rename_i L4
 have f4 := From_sp (X := C.X) b ad cap l (n + 3) 3 5 L4 g4 (by omega) hl (by omega) (by omega) (by omega)
 refine W.eff rfl rfl rfl (Ef.call rfl (f4)) ?_
 rintro _ _ _ ⟨_, rfl, rfl, ⟨y4, rfl, a6, a7⟩, hk5, hs5⟩
 refine W.go 99 rfl ?_
 have g5 := g4.next hk5 hs5
 refine W.ret r rfl rfl ?_
 refine ⟨⟨⟨y1, y2, y3, y4⟩, rfl, ⟨by omega, by simpa using a2⟩, ⟨by omega, by simpa using a4⟩, ?_, by omega, by simpa using a7⟩, fun b' x hx => ?_, g5⟩
 ·simp at a5; simp only; omega
 ·have nb : b' ≠ b := fun e => by subst e; unfold LH.but at hx; rw [if_pos rfl] at hx; cases hx
  rw [but_get nb] at hx
  rw [hk5 _ nb, hk4 _ nb]
  exact hl3 _ _ ((hk2 _ nb).trans ((hk1 _ nb).trans hx))
theorem at_sp (k d : Int) (L : LH) : Sp X 76 [.int .i64 k, .int .i64 d] L (fun v L' => v = .agg (encSt ⟨k, d⟩).toArray ∧ L = L') := by
 refine Sp.enter (n := 8) Tryz.func76 rfl rfl rfl rfl fun C hX _ hL0 r => ?_
 refine W.go 99 rfl ?_
 refine W.ret r rfl rfl ?_
 exact ⟨rfl, rfl⟩
theorem hot_sp (L : LH) : Sp X 77 [] L (fun v L' => ∃ b, v = .slice (some ⟨b, 0, none⟩) 3 3 ∧ L b = none ∧ L' = L.put b (.cells #[.int .i64 1, .int .i64 2, .int .i64 3] 3)) := by
 refine Sp.enter (n := 2) Tryz.func77 rfl rfl rfl rfl fun C hX _ hL0 r => ?_
 refine W.goP [0] 2 rfl ?_
 refine W.go 99 rfl ?_
 refine W.pub 0 (.inr ⟨_, _, _, rfl⟩) rfl rfl ?_
 intro b hb _
 refine W.ret r rfl rfl ?_
 exact ⟨b, rfl, hb, rfl⟩
theorem cold_sp (L : LH) : Sp X 79 [] L (fun v L' => ∃ b, v = .slice (some ⟨b, 0, none⟩) 3 3 ∧ L b = none ∧ L' = L.put b (.cells #[.int .i64 0, .int .i64 0, .int .i64 0] 3)) := by
 refine Sp.enter (n := 2) Tryz.func79 rfl rfl rfl rfl fun C hX _ hL0 r => ?_
 refine W.goP [0] 2 rfl ?_
 refine W.go 99 rfl ?_
 refine W.pub 0 (.inr ⟨_, _, _, rfl⟩) rfl rfl ?_
 intro b hb _
 refine W.ret r rfl rfl ?_
 exact ⟨b, rfl, hb, rfl⟩
theorem both_sp (k d k2 d2 : Int) (L : LH) : Sp X 78 [.int .i64 k, .int .i64 d, .int .i64 k2, .int .i64 d2] L (fun v L' => ∃ b, v = .slice (some ⟨b, 0, none⟩) 2 2 ∧ L b = none ∧ L' = L.put b (.cells #[.int .i64 k, .int .i64 d, .int .i64 k2, .int .i64 d2] 30)) := by
 refine Sp.enter (n := 16) Tryz.func78 rfl rfl rfl rfl fun C hX _ hL0 r => ?_
 refine W.go 99 rfl ?_
 refine W.eff rfl rfl rfl (Ef.call rfl (at_sp _ _ _)) ?_
 rintro _ _ _ ⟨_, rfl, rfl, rfl, rfl⟩
 refine W.go 99 rfl ?_
 refine W.eff rfl rfl rfl (Ef.call rfl (at_sp _ _ _)) ?_
 rintro _ _ _ ⟨_, rfl, rfl, rfl, rfl⟩
 refine W.go 99 rfl ?_
 refine W.pub 15 (.inr ⟨_, _, _, rfl⟩) rfl rfl ?_
 intro b hb _
 refine W.ret r rfl rfl ?_
 exact ⟨b, rfl, hb, rfl⟩
end Go.Mz


set_option maxRecDepth 100000
namespace Go.Mz
open Go.Conc Go.Proofs
variable {X : Logic Tryz.prog}
def StandH (s : St) (a : Stand) : Prop := a = ⟨-1, 0⟩ ∨ (0 ≤ a.shelf ∧ a.shelf < s.shelves.length ∧ 0 ≤ a.day ∧ a.day < s.days)
theorem StandOf_sp (s : St) (p : Pt) (b : Nat) (ad : Option Addr) (cap : Nat) (l : List Int) (n : Nat) (L : LH) (h : HatAt L b ad cap l n) (hn : n ≤ 900000) (hl : l.length ≤ 140737488355328) (h1 : 1 ≤ s.shelves.length) (h2 : s.shelves.length ≤ 1000) (h3 : 1 ≤ s.days) (h4 : s.days ≤ 1000) :
  Sp X 25 [pt b, stA s p] L (fun v L' => (∃ a : Stand, v = .agg (encSt a).toArray ∧ StandH s a) ∧ (∀ b', b' ≠ b → L' b' = L b') ∧ ∃ m, m ≤ n + 3 ∧ HatAt L' b ad cap l m) := by
 refine Sp.enter (n := 20) Tryz.func25 rfl rfl rfl rfl fun C hX _ hL0 r => ?_
 refine W.go 99 rfl ?_
 refine W.eff rfl rfl rfl (Ef.call rfl (Seldom_sp b ad cap l n 4 L h (by omega) hl (by omega))) ?_
 rintro _ _ _ ⟨_, rfl, rfl, ⟨y, rfl⟩, hk, hs⟩
 refine W.go 99 rfl ?_
 have g1 := h.next hk hs
 rename_i L1
 refine W.split rfl rfl rfl (fun e1 => W.go 99 rfl ?_) (fun e1 => W.go 99 rfl ?_)
 ·refine W.ret r rfl rfl ?_
  exact ⟨⟨⟨-1, 0⟩, rfl, .inl rfl⟩, hk, n + 1, by omega, g1⟩
 ·refine W.drawn (by kernel_rfl) noL (noL_le _) ?_
  refine DD.run' [0, 1, 2, 3, 4, 6, 7, 8, 9] rfl ?_
  rw [wrap64_in _ (by omega) (by omega), wrap64_in _ (by omega) (by omega)]
  have c1 := To_sp (X := C.X) b ad cap l (n + 1) (s.shelves.length - 1) L1 g1 (by omega) hl (by omega)
  rw [show ((s.shelves.length - 1 : Nat) : Int) = (s.shelves.length : Int) - 1 by omega] at c1
  refine DD.act 5 rfl rfl rfl rfl rfl (Ef.call rfl (c1)) ((by rintro _ _ _ ⟨_, rfl, rfl, ⟨y, rfl, _⟩, _⟩; exact ⟨noL_le _, rfl, .inl rfl⟩)) ?_
  rintro _ _ _ ⟨_, rfl, rfl, ⟨y1, rfl, hy1⟩, hk1, hs1⟩
  have g2 := g1.next hk1 hs1
  rename_i L2
  have c2 := To_sp (X := C.X) b ad cap l (n + 2) (s.days.toNat - 1) L2 g2 (by omega) hl (by omega)
  rw [show ((s.days.toNat - 1 : Nat) : Int) = s.days - 1 by omega] at c2
  refine DD.act 10 rfl rfl rfl rfl rfl (Ef.call rfl (c2)) ((by rintro _ _ _ ⟨_, rfl, rfl, ⟨y, rfl, _⟩, _⟩; exact ⟨noL_le _, rfl, .inl rfl⟩)) ?_
  rintro _ _ _ ⟨_, rfl, rfl, ⟨y2, rfl, hy2⟩, hk2, hs2⟩
  have g3 := g2.next hk2 hs2
  refine DD.run' [11] rfl ?_
  refine DD.act 12 rfl rfl rfl rfl rfl (Ef.sto rfl) (by rintro _ _ _ ⟨rfl, rfl, rfl⟩; exact ⟨noL_le _, rfl, .inr rfl⟩) ?_
  rintro _ _ _ ⟨rfl, rfl, rfl⟩
  refine .fin rfl ?_
  refine W.ret r rfl rfl ?_
  exact ⟨⟨⟨y1, y2⟩, rfl, .inr (by show 0 ≤ (y1 : Int) ∧ (y1 : Int) < _ ∧ 0 ≤ (y2 : Int) ∧ (y2 : Int) < _; omega)⟩, fun b' hb => (hk2 b' hb).trans ((hk1 b' hb).trans (hk b' hb)), n + 3, by omega, g3⟩
theorem HatAt.le {L L' : LH} {b : Nat} {ad : Option Addr} {cap : Nat} {l : List Int} {n : Nat} (h : HatAt L b ad cap l n) (hl : Le L L') : HatAt L' b ad cap l n :=
 ⟨let ⟨sd, g⟩ := h.blk; ⟨sd, hl _ _ g⟩, h.ints.le fun b' x hx => by
  rw [but_get (fun e => by subst e; unfold LH.but at hx; rw [if_pos rfl] at hx; cases hx)]
  exact hl _ _ (but_le _ _ _ _ hx)⟩
structure HatGr {α : Type} (L : LH) (b : Nat) (ad : Option Addr) (cap : Nat) (l : List Int) (n k : Nat) (e : TypeId) (enc : α → List Value) (L' : LH) (v : Value) (t : List α) (I : LH) : Prop where
 g : Grow I k e enc L' v t
 h : HatAt I b ad cap l n
 i : ∀ b', b' ≠ b → I b' = L b'
section
variable {α : Type} {L L2 L3 I : LH} {b : Nat} {ad : Option Addr} {cap : Nat} {l : List Int} {n k : Nat} {e : TypeId} {enc : α → List Value} {v : Value} {t : List α}
theorem HatGr.hat (h : HatGr L b ad cap l n k e enc L2 v t I) : HatAt L2 b ad cap l n := h.h.le h.g.1
theorem HatGr.nil (h : HatAt L b ad cap l n) : HatGr L b ad cap l n k e enc L (.slice none 0 0) [] L := ⟨Grow.nil (Le.refl _), h, fun _ _ => rfl⟩
theorem HatGr.step (h : HatGr L b ad cap l n k e enc L2 v t I) (hk : ∀ b', b' ≠ b → L3 b' = L2 b') (hs : ∃ seed : Int, L3 b = some (.cells [Value.slice ad l.length cap, .int .i64 ((n + 1 : Nat) : Int), .int .u64 seed].toArray 98 (0, 0), true)) : ∃ I', HatGr L b ad cap l (n + 1) k e enc L3 v t I' := by
 obtain ⟨sd, g⟩ := hs
 obtain ⟨sd0, g0⟩ := h.h.blk
 have e3 : L3 = L2.put b (.cells [Value.slice ad l.length cap, .int .i64 ((n + 1 : Nat) : Int), .int .u64 sd].toArray 98) := by
  funext b'
  by_cases hb : b' = b
  ·subst hb; rw [put_same]; exact g
  ·rw [put_ne _ _ hb]; exact hk b' hb
 refine ⟨I.put b (.cells [Value.slice ad l.length cap, .int .i64 ((n + 1 : Nat) : Int), .int .u64 sd].toArray 98), ?_, ?_, fun b' hb => (put_ne _ _ hb).trans (h.i b' hb)⟩
 ·rw [e3]; exact h.g.setO (by rw [g0]; simp) _
 ·exact h.h.next (fun b' hb => put_ne _ _ hb) ⟨sd, put_same _ _ _⟩
theorem HatGr.le (h : HatGr L b ad cap l n k e enc L2 v t I) : Le (L.but b) L2 := fun b' x hx => by
 have hb : b' ≠ b := fun e => by subst e; unfold LH.but at hx; rw [if_pos rfl] at hx; cases hx
 rw [but_get hb] at hx
 exact h.g.1 _ _ ((h.i b' hb).trans hx)
theorem Grow.sl_but {c : Array Value} {ty : TypeId} {fz : Nat × Nat} {wr : Bool} {a : Option Addr} {len cp : Nat} (h : Grow I k e enc L (.slice a len cp) t) (hk : ∀ x, (enc x).length = k) (hb : L b = some (.cells c ty fz, wr)) (hne : ty ≠ e) : len = t.length ∧ SlAt (L.but b) a k enc t := by
 obtain ⟨hI, ob, ho, hn⟩ := h
 refine Grow.at (I := fun _ => none) ⟨fun _ _ h => by (cases h), ob, ho.keep fun b' hb' => ?_, fun _ _ => rfl⟩ hk
 subst hb'
 obtain ⟨_, c', _, h2, _⟩ := ho
 exact but_get fun e => by subst e; rw [hb] at h2; cases h2; exact hne rfl
end
theorem heatsGo_snoc {top rise h : Int} : ∀ {t : List Int} {x : Int}, heatsGo top rise x t = 0 → 0 ≤ h → h ≤ top → h ≤ IntKind.i64.wrap (t.getLast?.getD x + rise) → heatsGo top rise x (t ++ [h]) = 0
 | [], x, _, h1, h2, h3 => by
  have : inB h 0 top = true := inB_iff.2 ⟨h1, h2⟩
  simp only [List.nil_append, heatsGo, this]
  simp at h3 ⊢; omega
 | y :: t, x, h0, h1, h2, h3 => by
  unfold heatsGo at h0
  split at h0
  ·cases h0
  ·rename_i c1
   split at h0
   ·cases h0
   ·rename_i c2
    rw [List.cons_append, heatsGo, if_neg c1, if_neg c2]
    refine heatsGo_snoc h0 h1 h2 ?_
    cases t with
    | nil => simpa using h3
    | cons z t =>
     rw [List.getLast?_cons_cons] at h3
     simp only [List.getLast?_cons, Option.getD_some] at h3 ⊢
     exact h3
theorem HeatsOf_sp (s : St) (p : Pt) (b : Nat) (ad : Option Addr) (cap : Nat) (l : List Int) (n : Nat) (L : LH) (h : HatAt L b ad cap l n) (hn : n ≤ 900000) (hl : l.length ≤ 140737488355328) (hok : Ok s) :
  Sp X 39 [pt b, stA s p] L (fun v L' => ∃ t I m, heatsE s t = 0 ∧ m ≤ n + 8 ∧ HatGr L b ad cap l m 1 3 encI L' v t I) := by
 have d1 := hok.d1
 have d4 := hok.d4
 have n0 := hok.n0
 have n5 := hok.n5
 have t0 := hok.t0
 have t5 := hok.t5
 have r0 := hok.r0
 have r3 := hok.r3
 refine Sp.enter (n := 33) Tryz.func39 rfl rfl rfl rfl fun C hX _ hL0 r => ?_
 refine W.go 99 rfl ?_
 refine W.loop (fun w E B L' => ∃ (t : List Int) (x : Int) (v : Value) (I : LH) (m : Nat), w = s.days.toNat - t.length ∧ t.length ≤ s.days.toNat ∧ heatsGo s.top s.rise s.now t = 0 ∧ x = t.getLast?.getD s.now ∧ 0 ≤ x ∧ x ≤ 5 ∧ m ≤ n + 2 * t.length ∧ HatGr L b ad cap l m 1 3 encI L' v t I ∧
   E = [(0, .v (pt b)), (3, .p 0 0), (5, .v v), (6, .v (.int .i64 x)), (7, .v (.int .i64 t.length))] ∧ B = [some ⟨cellsS (.v (stA s p)), 25⟩])
  ⟨[], s.now, _, L, n, rfl, by simp, rfl, rfl, n0, n5, by simp, HatGr.nil h, rfl, rfl⟩ ⟨rfl, rfl, rfl, rfl, rfl, trivial⟩ ⟨rfl, trivial⟩ ?_
 rintro _ _ _ L2 ⟨t, x, v, I, m, rfl, ht, hgo, hx, x0, x5, hm, hg, rfl, rfl⟩ again
 refine W.go 99 rfl ?_
 refine W.split rfl rfl rfl (fun e1 => ?_) (fun e1 => ?_)
 ·have htd : (t.length : Int) < s.days := by simpa using e1
  refine W.go 99 rfl ?_
  rw [wrap64_in (x + s.rise) (by omega) (by omega)]
  have hsd := Seldom_sp (X := C.X) b ad cap l m 1 L2 hg.hat (by omega) hl (by omega)
  refine W.eff rfl rfl rfl (Ef.call rfl (hsd)) ?_
  rintro _ _ _ ⟨_, rfl, rfl, ⟨y, rfl⟩, hk, hs⟩
  obtain ⟨I1, hg1⟩ := hg.step hk hs
  rename_i L3
  generalize hx1 : (if x + s.rise < s.top then x + s.rise else s.top) = x1
  have hx1a : 0 ≤ x1 ∧ x1 ≤ 5 ∧ x1 ≤ s.top ∧ x1 ≤ x + s.rise := by rw [← hx1]; split <;> omega
  refine W.cut2 (fun E B L4 => ∃ (x2 : Int) (I2 : LH) (m2 : Nat), 0 ≤ x2 ∧ x2 ≤ x1 ∧ m2 ≤ m + 2 ∧ HatGr L b ad cap l m2 1 3 encI L4 v t I2 ∧ SubE E [(0, .v (pt b)), (3, .p 0 0), (5, .v v), (6, .v (.int .i64 x2)), (7, .v (.int .i64 t.length))] ∧ PreB B [some ⟨cellsS (.v (stA s p)), 25⟩]) ?_ ?_
  ·rintro E B L4 ⟨x2, I2, m2, h1, h2, h3, hg2, hE, hB⟩
   refine W.weak hE hB ?_
   refine W.go 99 rfl ?_
   obtain ⟨ad', cap', rfl, _⟩ := hg2.g.slice
   refine W.eff rfl rfl rfl (Ef.grow rfl rfl rfl rfl rfl rfl rfl rfl rfl encI_len encI_sg hg2.g (ls := [x2]) (.own rfl rfl rfl rfl) (by simp; omega)) ?_
   rintro _ _ _ ⟨v', rfl, rfl, hg3, _⟩
   refine W.go 99 rfl ?_
   exact W.again (again _ _ _ _ (by simp; omega) ⟨t ++ [x2], x2, v', I2, m2, rfl, by simp; omega, heatsGo_snoc hgo h1 (by omega) (by rw [← hx, wrap64_in _ (by omega) (by omega)]; omega), by simp, h1, by omega, by simp; omega, ⟨hg3, hg2.h, hg2.i⟩, rfl, rfl⟩) (by exact ⟨rfl, rfl, rfl, rfl, congrArg some (by rw [inc64 (by omega), List.length_append]; rfl), trivial⟩) (by exact ⟨rfl, trivial⟩)
  ·intro hJ
   refine W.go 1 rfl ?_
   refine W.split rfl rfl rfl (fun e2 => ?_) (fun e2 => ?_)
   ·refine W.go 99 rfl ?_
    have hto := To_sp (X := C.X) b ad cap l (m + 1) x1.toNat L3 hg1.hat (by omega) hl (by omega)
    rw [show ((x1.toNat : Nat) : Int) = x1 by omega] at hto
    refine W.eff rfl rfl rfl (Ef.call rfl (hto)) ?_
    rintro _ _ _ ⟨_, rfl, rfl, ⟨y2, rfl, hy2⟩, hk2, hs2⟩
    obtain ⟨I2, hg2⟩ := hg1.step hk2 hs2
    refine W.go 2 rfl ?_
    exact hJ _ _ _ ⟨y2, I2, m + 2, by omega, by omega, by omega, hg2, ⟨rfl, rfl, rfl, rfl, rfl, trivial⟩, ⟨rfl, trivial⟩⟩
   ·refine W.go 2 rfl ?_
    refine hJ _ _ _ ?_
    exact ⟨x1, I1, m + 1, hx1a.1, by omega, by omega, hg1, ⟨rfl, rfl, rfl, rfl, rfl, trivial⟩, ⟨rfl, trivial⟩⟩
 ·have htd : ¬ (t.length : Int) < s.days := by simpa using e1
  refine W.go 99 rfl ?_
  refine W.ret r rfl rfl ?_
  refine ⟨t, I, m, ?_, by omega, hg⟩
  unfold heatsE
  rw [if_neg (by rw [Decidable.not_not, sizedE_0]; omega)]; exact hgo
end Go.Mz


set_option maxRecDepth 100000
namespace Go.Mz
open Go.Conc Go.Proofs
variable {X : Logic Tryz.prog}
structure StoveH (s : St) (kc kd : Nat) : Prop where
 ok : Ok s
 c : s.cones.length ≤ kc
 d : s.days ≤ kd
 n : s.now ≤ 2
 t1 : 1 ≤ s.top
 t4 : s.top ≤ 4
 co : ∀ c ∈ s.cones, ConeH c
theorem dec64 {i : Nat} (h : i ≤ 140737488355328) : IntKind.i64.wrap (((i + 1 : Nat) : Int) - 1) = (i : Int) := by
 rw [wrap64_in _ (by omega) (by omega)]; omega
theorem ints3 {L : LH} {b : Nat} {x0 x1 x2 : Int} {t : TypeId} (h : L b = some (.cells #[.int .i64 x0, .int .i64 x1, .int .i64 x2] t (0, 0), true)) : IntsAt L (some ⟨b, 0, none⟩) [x0, x1, x2] := fun i z hz => ⟨_, rfl, fun j v hv => by
 rw [add_of, Nat.zero_add]
 refine cell_of h ?_
 match i, hz, j, hv with
 | 0, hz, 0, hv => cases hz; cases hv; rfl
 | 1, hz, 0, hv => cases hz; cases hv; rfl
 | 2, hz, 0, hv => cases hz; cases hv; rfl⟩
theorem HatGr.more {α : Type} {L L2 L3 I : LH} {b : Nat} {ad : Option Addr} {cap : Nat} {l : List Int} {n k : Nat} {e : TypeId} {enc : α → List Value} {v : Value} {t : List α} (h : HatGr L b ad cap l n k e enc L2 v t I) (hl : Le L2 L3) : HatGr L b ad cap l n k e enc L3 v t I := ⟨h.g.le hl, h.h, h.i⟩
theorem HatAt.off {L : LH} {b b8 : Nat} {ad : Option Addr} {cap : Nat} {l : List Int} {n : Nat} (h : HatAt L b ad cap l n) (hb : L b8 = none) : b8 ≠ b := fun e => by
 subst e
 obtain ⟨sd, g⟩ := h.blk
 rw [g] at hb; cases hb
theorem but_but {L L' : LH} {b : Nat} (h : Le (L.but b) L') : Le (L.but b) (L'.but b) := fun b' x hx => by
 have hb : b' ≠ b := fun e => by subst e; unfold LH.but at hx; rw [if_pos rfl] at hx; cases hx
 rw [but_get hb]; exact h _ _ hx
theorem but_same {L L' : LH} {b : Nat} (h : ∀ b', b' ≠ b → L' b' = L b') : Le (L.but b) L' := fun b' x hx => by
 have hb : b' ≠ b := fun e => by subst e; unfold LH.but at hx; rw [if_pos rfl] at hx; cases hx
 rw [but_get hb] at hx; rw [h b' hb]; exact hx
theorem but_trans {L L1 L2 : LH} {b : Nat} (h : Le (L.but b) L1) (h2 : Le (L1.but b) L2) : Le (L.but b) L2 := (but_but h).trans h2
theorem HatGr.call {α : Type} {L L2 L3 I : LH} {b : Nat} {ad : Option Addr} {cap : Nat} {l : List Int} {n n' k : Nat} {e : TypeId} {enc : α → List Value} {v : Value} {t : List α} (h : HatGr L b ad cap l n k e enc L2 v t I) (hl : Le (L2.but b) L3) (hh : HatAt L3 b ad cap l n') : ∃ I', HatGr L b ad cap l n' k e enc L3 v t I' := by
 obtain ⟨sd0, g0⟩ := h.h.blk
 obtain ⟨sd, g⟩ := hh.blk
 obtain ⟨hI, ob, ho, hn⟩ := h.g
 have hne : ∀ b', b' ≠ b → (I.put b (.cells [Value.slice ad l.length cap, .int .i64 n', .int .u64 sd].toArray 98)) b' = I b' := fun b' hb => put_ne _ _ hb
 refine ⟨I.put b (.cells [Value.slice ad l.length cap, .int .i64 n', .int .u64 sd].toArray 98), ⟨fun b' x hx => ?_, ob, ho.keep fun b' hb' => ?_, fun b' hb' => ?_⟩, ⟨⟨sd, put_same _ _ _⟩, ?_⟩, fun b' hb => (hne b' hb).trans (h.i b' hb)⟩
 ·by_cases hb : b' = b
  ·subst hb; rw [put_same] at hx; rw [← hx]; exact g
  ·rw [hne b' hb] at hx
   exact hl _ _ (by rw [but_get hb]; exact hI _ _ hx)
 ·subst hb'
  have hb : b' ≠ b := fun e => by subst e; have := hn _ rfl; rw [g0] at this; cases this
  obtain ⟨_, c, _, h2, _⟩ := ho
  rw [h2]
  exact hl _ _ (by rw [but_get hb]; exact h2)
 ·have hb : b' ≠ b := fun e => by subst e; have := hn _ hb'; rw [g0] at this; cases this
  rw [hne b' hb]; exact hn b' hb'
 ·refine h.h.ints.le fun b' x hx => ?_
  have hb : b' ≠ b := fun e => by subst e; unfold LH.but at hx; rw [if_pos rfl] at hx; cases hx
  rw [but_get hb] at hx ⊢
  rw [hne b' hb]; exact hx
theorem StoveOfC_sp (b : Nat) (ad : Option Addr) (cap : Nat) (l : List Int) (n kc kd : Nat) (L : LH) (h : HatAt L b ad cap l n) (hn : n ≤ 800000) (hl : l.length ≤ 140737488355328) (hc3 : kc ≤ 3) (hd1 : 1 ≤ kd) (hd4 : kd ≤ 4) :
    Sp X 38 [pt b, .int .i64 kc, .int .i64 kd] L (fun v L' => ∃ s p m, v = stA s p ∧ StoveH s kc kd ∧ m ≤ n + 40 ∧ Le (L.but b) L' ∧ HatAt L' b ad cap l m ∧ StAt (L'.but b) s p ∧ s.cones.length ≤ p.c2) := by
  refine Sp.enter (n := 52) Tryz.func38 rfl rfl rfl rfl fun C hX _ hL0 r => ?_
  refine W.go 99 rfl ?_
  have f1 := From_sp (X := C.X) b ad cap l n 1 (kd - 1) L h (by omega) hl (by omega) (by omega) (by omega)
  rw [show (1 : Int) + ((kd - 1 : Nat) : Int) = (kd : Int) by omega] at f1
  refine W.eff rfl rfl rfl (Ef.call rfl (f1)) ?_
  rintro _ _ _ ⟨_, rfl, rfl, ⟨dy, rfl, a1, a2⟩, hk1, hs1⟩
  refine W.go 99 rfl ?_
  have g1 := h.next hk1 hs1
  rename_i L1
  refine W.eff rfl rfl rfl (Ef.call rfl (To_sp b ad cap l (n + 1) 2 L1 g1 (by omega) hl (by omega))) ?_
  rintro _ _ _ ⟨_, rfl, rfl, ⟨nw, rfl, a3⟩, hk2, hs2⟩
  refine W.go 99 rfl ?_
  have g2 := g1.next hk2 hs2
  rename_i L2
  have f3 := From_sp (X := C.X) b ad cap l (n + 2) 0 3 L2 g2 (by omega) hl (by omega) (by omega) (by omega)
  refine W.eff rfl rfl rfl (Ef.call rfl (f3)) ?_
  rintro _ _ _ ⟨_, rfl, rfl, ⟨rs, rfl, a4, a5⟩, hk3, hs3⟩
  refine W.go 99 rfl ?_
  have g3 := g2.next hk3 hs3
  rename_i L3
  have f4 := From_sp (X := C.X) b ad cap l (n + 3) 1 3 L3 g3 (by omega) hl (by omega) (by omega) (by omega)
  refine W.eff rfl rfl rfl (Ef.call rfl (f4)) ?_
  rintro _ _ _ ⟨_, rfl, rfl, ⟨tp, rfl, a6, a7⟩, hk4, hs4⟩
  refine W.go 99 rfl ?_
  have g4 := g3.next hk4 hs4
  rename_i L4
  have f5 := From_sp (X := C.X) b ad cap l (n + 4) 1 2 L4 g4 (by omega) hl (by omega) (by omega) (by omega)
  refine W.eff rfl rfl rfl (Ef.call rfl (f5)) ?_
  rintro _ _ _ ⟨_, rfl, rfl, ⟨ks, rfl, a8, a9⟩, hk5, hs5⟩
  refine W.go 99 rfl ?_
  have g5 := g4.next hk5 hs5
  rename_i L5
  obtain ⟨k5, rfl⟩ : ∃ k5 : Nat, ks = k5 := ⟨ks.toNat, by omega⟩
  refine W.loop (fun w E B L' => ∃ (t : List Shelf) (v : Value) (I : LH) (m i : Nat), w = i ∧ i + t.length = k5 ∧ m ≤ n + 5 + 2 * t.length ∧ (∀ x ∈ t, 0 ≤ x.lift ∧ x.lift ≤ 3 ∧ 1 ≤ x.room ∧ x.room ≤ 2) ∧ HatGr L5 b ad cap l m 2 59 encSh L' v t I ∧
      E = [(0, .v (pt b)), (1, .v (.int .i64 kc)), (6, .p 0 0), (7, .p 1 0), (8, .v (.int .i64 i))] ∧ B = [some ⟨List.map SV.v ti25.z.cells.toList, 25⟩, some ⟨[.v v, .v (.slice none 0 0), .v (.int .i64 dy), .v (.int .i64 nw), .v (.int .i64 rs), .v (.int .i64 tp)], 25⟩])
    ⟨[], _, _, n + 5, k5, rfl, by simp, by simp, by simp, HatGr.nil g5, rfl, rfl⟩ (by exact ⟨rfl, rfl, rfl, rfl, rfl, trivial⟩) (by exact ⟨rfl, rfl, trivial⟩) ?_
  rintro i _ _ L6 ⟨t, v, I, m, _, rfl, hit, hm, hsh, hg, rfl, rfl⟩ again
  refine W.go 99 rfl ?_
  refine W.split rfl rfl rfl (fun e1 => ?_) (fun e1 => ?_)
  · obtain ⟨i, rfl⟩ : ∃ j, i = j + 1 := ⟨i - 1, by have : (0 : Int) < i := by simpa using e1
                                                   omega⟩
    refine W.go 99 rfl ?_
    refine W.drawn (by kernel_rfl) noL (noL_le _) ?_
    refine DD.run' [0, 1, 2, 4, 5] rfl ?_
    refine DD.act 3 rfl rfl rfl rfl rfl (Ef.call rfl ((To_sp b ad cap l m 3 L6 hg.hat (by omega) hl (by omega)))) ((by rintro _ _ _ ⟨_, rfl, rfl, ⟨y, rfl, _⟩, _⟩; exact ⟨noL_le _, rfl, .inl rfl⟩)) ?_
    rintro _ _ _ ⟨_, rfl, rfl, ⟨y1, rfl, hy1⟩, hk6, hs6⟩
    obtain ⟨I1, hg1⟩ := hg.step hk6 hs6
    rename_i L7
    refine DD.act 6 rfl rfl rfl rfl rfl (Ef.pub 31 (.inr ⟨_, _, _, rfl⟩) rfl rfl (fun b8 hb8 _ => Ef.call rfl (One_sp b ad (some ⟨b8, 0, none⟩) cap 3 l [1, 1, 2] (m + 1) _ (hg1.hat.le (Le.put hb8 _)) (ints3 (put_same _ _ _)) (by omega) hl (by decide) (by decide) (fun a ha => by cases ha; exact hg1.hat.off hb8)))) ((by rintro _ _ _ ⟨b8, hb8, _, _, rfl, rfl, ⟨y, rfl, _⟩, _⟩; exact ⟨noL_le _, rfl, .inl rfl⟩)) ?_
    rintro _ _ _ ⟨b8, hb8, _, _, rfl, rfl, ⟨y2, rfl, hy2⟩, hk8, hs8⟩
    obtain ⟨I2, hg2⟩ := (hg1.more (Le.put hb8 _)).step hk8 hs8
    rename_i L8
    obtain ⟨ad', cap', rfl, _⟩ := hg.g.slice
    refine DD.run' [7, 8] rfl ?_
    refine DD.act 9 rfl rfl rfl rfl rfl (Ef.grow rfl rfl rfl rfl rfl rfl rfl rfl rfl encSh_len encSh_sg hg2.g (ls := [⟨(y1 : Int), y2⟩]) (.own rfl rfl rfl rfl) (by simp; omega)) ((by rintro _ _ _ ⟨_, rfl, rfl, hg, _⟩; exact ⟨noL_le _, rfl, .inl rfl⟩)) ?_
    rintro _ _ _ ⟨v', rfl, rfl, hg3, _⟩
    obtain ⟨ad2, cap2, rfl, _⟩ := hg3.slice
    refine DD.run' [10] rfl ?_
    refine DD.act 11 rfl rfl rfl rfl rfl (Ef.sto rfl) (by rintro _ _ _ ⟨rfl, rfl, rfl⟩; exact ⟨noL_le _, rfl, .inr rfl⟩) ?_
    rintro _ _ _ ⟨rfl, rfl, rfl⟩
    refine .fin rfl ?_
    refine W.go 99 rfl ?_
    rw [dec64 (by omega)]
    refine W.again (again i _ _ _ (by omega) ⟨t ++ [(⟨(y1 : Int), y2⟩ : Shelf)], _, I2, m + 2, i, rfl, by simp; omega, by simp; omega, ?_, ⟨hg3, hg2.h, hg2.i⟩, rfl, rfl⟩) (by exact ⟨rfl, rfl, rfl, rfl, rfl, trivial⟩) (by exact ⟨rfl, rfl, trivial⟩)
    intro x hx
    rcases List.mem_append.1 hx with hx | hx
    · exact hsh x hx
    · simp at hx hy2
      subst hx
      show 0 ≤ (y1 : Int) ∧ (y1 : Int) ≤ 3 ∧ 1 ≤ y2 ∧ y2 ≤ 2
      omega
  · have hi0 : i = 0 := by have : ¬ (0 : Int) < i := by simpa using e1
                           omega
    subst hi0
    refine W.go 99 rfl ?_
    obtain ⟨sa, sc, rfl, hsc⟩ := hg.g.slice
    obtain ⟨sd6, hb6⟩ := hg.hat.blk
    have hshL := (hg.g.sl_but encSh_len hb6 (by decide)).2
    have hk7 := To_sp (X := C.X) b ad cap l m kc L6 hg.hat (by omega) hl (by omega)
    refine W.eff rfl rfl rfl (Ef.call rfl (hk7)) ?_
    rintro _ _ _ ⟨_, rfl, rfl, ⟨kq, rfl, hkq⟩, hk7, hs7⟩
    refine W.go 99 rfl ?_
    have g7 := hg.hat.next hk7 hs7
    rename_i L7
    refine W.loop (fun w E B L' => ∃ (u : List Cone) (v : Value) (I : LH) (m2 i : Nat), w = i ∧ i + u.length = kq ∧ m2 ≤ m + 1 + 4 * u.length ∧ (∀ x ∈ u, ConeH x) ∧ HatGr L7 b ad cap l m2 4 27 encCo L' v u I ∧
        E = [(0, .v (pt b)), (6, .p 0 0), (7, .p 1 0), (9, .v (.int .i64 i))] ∧ B = [some ⟨List.map SV.v ti25.z.cells.toList, 25⟩, some ⟨[.v (.slice sa t.length sc), .v v, .v (.int .i64 dy), .v (.int .i64 nw), .v (.int .i64 rs), .v (.int .i64 tp)], 25⟩])
      ⟨[], _, _, m + 1, kq, rfl, by simp, by simp, by simp, HatGr.nil g7, rfl, rfl⟩ (by exact ⟨rfl, rfl, rfl, rfl, trivial⟩) (by exact ⟨rfl, rfl, trivial⟩) ?_
    rintro i _ _ L8 ⟨u, v, I2, m2, _, rfl, hiu, hm2, hco, hg2, rfl, rfl⟩ again2
    refine W.go 99 rfl ?_
    refine W.split rfl rfl rfl (fun e2 => ?_) (fun e2 => ?_)
    · obtain ⟨i, rfl⟩ : ∃ j, i = j + 1 := ⟨i - 1, by have : (0 : Int) < i := by simpa using e2
                                                     omega⟩
      obtain ⟨ua, uc, rfl, huc⟩ := hg2.g.slice
      refine W.go 99 rfl ?_
      refine W.drawn (by kernel_rfl) noL (noL_le _) ?_
      refine DD.run' [0, 1, 2] rfl ?_
      refine DD.act 3 rfl rfl rfl rfl rfl (Ef.call rfl ((ConeOf_sp b ad cap l m2 L8 hg2.hat (by omega) hl))) ((by rintro _ _ _ ⟨_, rfl, rfl, ⟨y, rfl, _⟩, _⟩; exact ⟨noL_le _, rfl, .inl rfl⟩)) ?_
      rintro _ _ _ ⟨_, rfl, rfl, ⟨c, rfl, hc⟩, hle9, hh9⟩
      obtain ⟨I3, hg3⟩ := hg2.call hle9 hh9
      refine DD.run' [4] rfl ?_
      refine DD.act 5 rfl rfl rfl rfl rfl (Ef.grow rfl rfl rfl rfl rfl rfl rfl rfl rfl encCo_len encCo_sg hg3.g (ls := [c]) (.own rfl rfl rfl rfl) (by simp; omega)) ((by rintro _ _ _ ⟨_, rfl, rfl, hg, _⟩; exact ⟨noL_le _, rfl, .inl rfl⟩)) ?_
      rintro _ _ _ ⟨v', rfl, rfl, hg4, _⟩
      obtain ⟨ad2, cap2, rfl, _⟩ := hg4.slice
      refine DD.run' [6] rfl ?_
      refine DD.act 7 rfl rfl rfl rfl rfl (Ef.sto rfl) (by rintro _ _ _ ⟨rfl, rfl, rfl⟩; exact ⟨noL_le _, rfl, .inr rfl⟩) ?_
      rintro _ _ _ ⟨rfl, rfl, rfl⟩
      refine .fin rfl ?_
      refine W.go 99 rfl ?_
      rw [dec64 (by omega)]
      refine W.again (again2 i _ _ _ (by omega) ⟨u ++ [c], _, I3, m2 + 4, i, rfl, by simp; omega, by simp; omega, ?_, ⟨hg4, hg3.h, hg3.i⟩, rfl, rfl⟩) (by exact ⟨rfl, rfl, rfl, rfl, trivial⟩) (by exact ⟨rfl, rfl, trivial⟩)
      intro x hx
      rcases List.mem_append.1 hx with hx | hx
      · exact hco x hx
      · rw [List.mem_singleton.1 hx]; exact hc
    · have hi0 : i = 0 := by have : ¬ (0 : Int) < i := by simpa using e2
                             omega
      subst hi0
      obtain ⟨ua, uc, rfl, huc⟩ := hg2.g.slice
      obtain ⟨sd8, hb8⟩ := hg2.hat.blk
      have hcoL := (hg2.g.sl_but encCo_len hb8 (by decide)).2
      refine W.go 99 rfl ?_
      refine W.ret r rfl rfl ?_
      have hok : Ok ⟨t, u, dy, nw, rs, tp⟩ := ⟨by show 1 ≤ t.length; omega, by show t.length ≤ 3; omega, hsh, by show u.length ≤ 3; omega, fun c hc => by have := hco c hc; unfold ConeH at this; omega, a1, by show dy ≤ 4; omega, by show 0 ≤ (nw : Int); omega, by show (nw : Int) ≤ 5; omega, by show 0 ≤ tp; omega, by show tp ≤ 5; omega, a4, by show rs ≤ 3; omega⟩
      have hL6 : Le (L.but b) L6 := but_trans (but_trans (but_trans (but_trans (but_trans (but_same hk1) (but_same hk2)) (but_same hk3)) (but_same hk4)) (but_same hk5)) hg.le
      have hL68 : Le (L6.but b) L8 := but_trans (but_same hk7) hg2.le
      exact ⟨⟨t, u, dy, nw, rs, tp⟩, ⟨sa, ua, sc, uc⟩, m2, rfl, ⟨hok, by show u.length ≤ kc; omega, a2, by show (nw : Int) ≤ 2; omega, a6, by show tp ≤ 4; omega, hco⟩, by omega, but_trans hL6 hL68, hg2.hat, ⟨hshL.le (but_but hL68), hcoL, by show t.length ≤ _; omega, by show u.length ≤ _; omega⟩, huc⟩
theorem StoveOf_sp (b : Nat) (ad : Option Addr) (cap : Nat) (l : List Int) (n kc kd : Nat) (L : LH) (h : HatAt L b ad cap l n) (hn : n ≤ 800000) (hl : l.length ≤ 140737488355328) (hc3 : kc ≤ 3) (hd1 : 1 ≤ kd) (hd4 : kd ≤ 4) :
  Sp X 38 [pt b, .int .i64 kc, .int .i64 kd] L (fun v L' => ∃ s p m, v = stA s p ∧ StoveH s kc kd ∧ m ≤ n + 40 ∧ Le (L.but b) L' ∧ HatAt L' b ad cap l m ∧ StAt (L'.but b) s p) :=
 (StoveOfC_sp b ad cap l n kc kd L h hn hl hc3 hd1 hd4).mono (fun _ _ ⟨s, p, m, h1, h2, h3, h4, h5, h6, _⟩ => ⟨s, p, m, h1, h2, h3, h4, h5, h6⟩) (fun _ _ h => h)
end Go.Mz


set_option maxRecDepth 100000
namespace Go.Mz
open Go.Conc Go.Proofs
variable {X : Logic Tryz.prog}
theorem made_sp (b : Nat) (ad : Option Addr) (cap : Nat) (l : List Int) (n : Nat) (L : LH) (h : HatAt L b ad cap l n) (hn : n ≤ 700000) (hl : l.length ≤ 140737488355328) :
  Sp X 40 [pt b] L (fun v L' => ∃ s p m, v = stA s p ∧ (StoveH s 3 3 ∨ StoveH s 2 4) ∧ m ≤ n + 41 ∧ Le (L.but b) L' ∧ HatAt L' b ad cap l m ∧ StAt (L'.but b) s p) := by
 refine Sp.enter (n := 9) Tryz.func40 rfl rfl rfl rfl fun C hX _ hL0 r => ?_
 refine W.go 99 rfl ?_
 refine W.eff rfl rfl rfl (Ef.call rfl (Seldom_sp b ad cap l n 1 L h (by omega) hl (by omega))) ?_
 rintro _ _ _ ⟨_, rfl, rfl, ⟨y, rfl⟩, hk, hs⟩
 refine W.go 99 rfl ?_
 have g1 := h.next hk hs
 rename_i L1
 refine W.split rfl rfl rfl (fun e1 => W.go 99 rfl ?_) (fun e1 => W.go 99 rfl ?_)
 ·refine W.eff rfl rfl rfl (Ef.call rfl ((StoveOf_sp b ad cap l (n + 1) 3 3 L1 g1 (by omega) hl (by omega) (by omega) (by omega)))) ?_
  rintro _ _ _ ⟨_, rfl, rfl, s, p, m, rfl, hs, hm, hle, hh, hst⟩
  refine W.go 99 rfl ?_
  refine W.ret r rfl rfl ?_
  exact ⟨s, p, m, rfl, .inl hs, by omega, but_trans (but_same hk) hle, hh, hst⟩
 ·refine W.eff rfl rfl rfl (Ef.call rfl ((StoveOf_sp b ad cap l (n + 1) 2 4 L1 g1 (by omega) hl (by omega) (by omega) (by omega)))) ?_
  rintro _ _ _ ⟨_, rfl, rfl, s, p, m, rfl, hs, hm, hle, hh, hst⟩
  refine W.go 99 rfl ?_
  refine W.ret r rfl rfl ?_
  exact ⟨s, p, m, rfl, .inr hs, by omega, but_trans (but_same hk) hle, hh, hst⟩
theorem DupStove_sp (s : St) (p : Pt) (L : LH) (h : StAt L s p) (h1 : s.shelves.length ≤ 1000000) (h2 : s.cones.length ≤ 1000000) :
  Sp X 26 [stA s p] L (fun v L' => ∃ sa ca c1 c2 I, v = stA s ⟨sa, ca, c1, c2⟩ ∧ Grow L 2 59 encSh I (.slice sa s.shelves.length c1) s.shelves ∧ Grow I 4 27 encCo L' (.slice ca s.cones.length c2) s.cones) := by
 refine Sp.enter (n := 14) Tryz.func26 rfl rfl rfl rfl fun C hX _ hL0 r => ?_
 refine W.go 99 rfl ?_
 refine W.drawn (by kernel_rfl) _ (Le.refl _) ?_
 refine DD.run' [0, 1, 2, 4, 5, 6] rfl ?_
 refine DD.act 3 rfl rfl rfl rfl rfl (Ef.pub 3 (.inr ⟨_, _, _, rfl⟩) rfl rfl (fun b3 hb3 _ => Ef.grow rfl rfl rfl rfl rfl rfl rfl rfl rfl encSh_len encSh_sg (Grow.new (Le.put hb3 _) (put_same _ _ _) hb3) (ls := s.shelves) (.sl (h.sh.le (Le.put hb3 _)) encSh_len rfl) (by simp; omega))) ((by rintro _ _ _ ⟨b3, hb3, _, _, rfl, rfl, hg, _⟩; exact ⟨hg.1, rfl, .inl rfl⟩)) ?_
 rintro _ _ _ ⟨b3, hb3, _, v1, rfl, rfl, hg1, _⟩
 rename_i L1 _ _
 rw [List.nil_append] at hg1
 have hco := h.co.le hg1.1
 obtain ⟨sa, c1, rfl, _⟩ := hg1.slice
 refine DD.run' [8] rfl ?_
 refine DD.act 7 rfl rfl rfl rfl rfl (Ef.pub 7 (.inr ⟨_, _, _, rfl⟩) rfl rfl (fun b7 hb7 _ => Ef.grow rfl rfl rfl rfl rfl rfl rfl rfl rfl encCo_len encCo_sg (Grow.new (Le.put hb7 _) (put_same _ _ _) hb7) (ls := s.cones) (.sl (hco.le (Le.put hb7 _)) encCo_len rfl) (by simp; omega))) (by rintro _ _ _ ⟨b7, hb7, _, _, rfl, rfl, hg, _⟩; exact ⟨hg1.1.trans hg.1, rfl, .inl rfl⟩) ?_
 rintro _ _ _ ⟨b7, hb7, _, v2, rfl, rfl, hg2, _⟩
 rw [List.nil_append] at hg2
 have hl2 := hg1.1.trans hg2.1
 obtain ⟨ca, c2, rfl, _⟩ := hg2.slice
 refine DD.act 9 rfl rfl rfl rfl rfl (Ef.sto rfl) (by rintro _ _ _ ⟨rfl, rfl, rfl⟩; exact ⟨hl2, rfl, .inr rfl⟩) ?_
 rintro _ _ _ ⟨rfl, rfl, rfl⟩
 refine DD.run' [10] rfl ?_
 refine DD.act 11 rfl rfl rfl rfl rfl (Ef.sto rfl) (by rintro _ _ _ ⟨rfl, rfl, rfl⟩; exact ⟨hl2, rfl, .inr rfl⟩) ?_
 rintro _ _ _ ⟨rfl, rfl, rfl⟩
 refine .fin rfl ?_
 refine W.go 99 rfl ?_
 refine W.ret r rfl rfl ?_
 exact ⟨sa, ca, c1, c2, L1, rfl, hg1, hg2⟩
theorem EqStoves_sp (s : St) (p p2 : Pt) (L : LH) (h : StAt L s p) (h2 : StAt L s p2) : Sp X 32 [stA s p, stA s p2] L (fun v L' => v = .bool true ∧ L = L') := by
 obtain ⟨sa, ca, c1, c2⟩ := p
 obtain ⟨sb, cb, d1, d2⟩ := p2
 have hsa : SlAt L sa 2 encSh s.shelves := h.sh
 have hsb : SlAt L sb 2 encSh s.shelves := h2.sh
 have hca : SlAt L ca 4 encCo s.cones := h.co
 have hcb : SlAt L cb 4 encCo s.cones := h2.co
 refine Sp.enter (n := 87) Tryz.func32 rfl rfl rfl rfl fun C hX _ hL0 r => ?_
 refine W.go 99 rfl ?_
 rw [bne_self_eq_false]
 refine W.split rfl rfl rfl (fun c => absurd c (by decide)) (fun c => ?_)
 refine W.go 99 rfl ?_
 rw [bne_self_eq_false]
 refine W.split rfl rfl rfl (fun c => absurd c (by decide)) (fun c => ?_)
 refine W.go 99 rfl ?_
 rw [bne_self_eq_false]
 refine W.split rfl rfl rfl (fun c => absurd c (by decide)) (fun c => ?_)
 refine W.go 99 rfl ?_
 rw [bne_self_eq_false]
 refine W.split rfl rfl rfl (fun c => absurd c (by decide)) (fun c => ?_)
 refine W.go 99 rfl ?_
 rw [bne_self_eq_false]
 refine W.split rfl rfl rfl (fun c => absurd c (by decide)) (fun c => ?_)
 refine W.go 99 rfl ?_
 rw [bne_self_eq_false]
 refine W.split rfl rfl rfl (fun c => absurd c (by decide)) (fun c => ?_)
 refine W.go 99 rfl ?_
 have l1 := h.l1
 have l2 := h.l2
 refine W.loop (fun m E B L' => ∃ i : Nat, m = s.shelves.length - i ∧ i ≤ s.shelves.length ∧ L = L' ∧ E = [(2, .p 0 0), (3, .p 1 0), (5, .v (.int .i64 i))] ∧ B = [some ⟨cellsS (.v (stA s ⟨sa, ca, c1, c2⟩)), 25⟩, some ⟨cellsS (.v (stA s ⟨sb, cb, d1, d2⟩)), 25⟩])
  ⟨0, rfl, by omega, rfl, rfl, rfl⟩ (by exact ⟨rfl, rfl, rfl, trivial⟩) (by exact ⟨rfl, rfl, trivial⟩) ?_
 rintro _ _ _ _ ⟨i, rfl, hi, rfl, rfl, rfl⟩ again
 refine W.go 99 rfl ?_
 refine W.split rfl rfl rfl (fun e1 => W.go 99 rfl ?_) (fun e1 => W.go 99 rfl ?_)
 ·have hil : i < s.shelves.length := by simpa using e1
  have hx := List.getElem?_eq_getElem hil
  obtain ⟨aa, rfl⟩ := hsa.addr hil
  obtain ⟨ab, rfl⟩ := hsb.addr hil
  refine W.drawn (by kernel_rfl) _ (Le.refl _) ?_
  refine DD.run' [0, 1, 2, 5, 6, 7] rfl ?_
  refine DD.vf 3 rfl rfl rfl rfl rfl (Vf.idx rfl rfl rfl rfl rfl rfl (hil)) ?_
  refine DD.vf 4 rfl rfl rfl rfl rfl (Vf.loadN rfl rfl rfl (hsa.whole hx rfl)) ?_
  refine DD.vf 8 rfl rfl rfl rfl rfl (Vf.idx rfl rfl rfl rfl rfl rfl (hil)) ?_
  refine DD.vf 9 rfl rfl rfl rfl rfl (Vf.loadN rfl rfl rfl (hsb.whole hx rfl)) ?_
  refine DD.vf 10 rfl rfl rfl rfl rfl (Vf.eqS (xs := [s.shelves[i].lift, s.shelves[i].room]) (ys := [s.shelves[i].lift, s.shelves[i].room]) (.inr rfl) rfl rfl rfl rfl (by kernel_rfl) (fun n Q H R => eq59 (n := n + 1))) ?_
  refine .fin rfl ?_
  refine W.go 99 rfl ?_
  refine W.split rfl rfl rfl (fun e3 => W.go 99 rfl ?_) (fun e3 => W.go 99 rfl ?_)
  ·exact absurd e3 (by simp [eqC])
  ·exact W.again (again _ _ _ _ (by omega) ⟨i + 1, rfl, by omega, rfl, rfl, rfl⟩) ⟨rfl, rfl, congrArg some (inc64 (by omega)), trivial⟩ ⟨rfl, rfl, trivial⟩
 ·refine W.loop (fun m E B L' => ∃ i : Nat, m = s.cones.length - i ∧ i ≤ s.cones.length ∧ L = L' ∧ E = [(2, .p 0 0), (3, .p 1 0), (6, .v (.int .i64 i))] ∧ B = [some ⟨cellsS (.v (stA s ⟨sa, ca, c1, c2⟩)), 25⟩, some ⟨cellsS (.v (stA s ⟨sb, cb, d1, d2⟩)), 25⟩])
   ⟨0, rfl, by omega, rfl, rfl, rfl⟩ (by exact ⟨rfl, rfl, rfl, trivial⟩) (by exact ⟨rfl, rfl, trivial⟩) ?_
  rintro _ _ _ _ ⟨j, rfl, hj, rfl, rfl, rfl⟩ again2
  refine W.go 99 rfl ?_
  refine W.split rfl rfl rfl (fun e2 => W.go 99 rfl ?_) (fun e2 => W.go 99 rfl ?_)
  ·have hjl : j < s.cones.length := by simpa using e2
   have hx := List.getElem?_eq_getElem hjl
   obtain ⟨aa, rfl⟩ := hca.addr hjl
   obtain ⟨ab, rfl⟩ := hcb.addr hjl
   refine W.drawn (by kernel_rfl) _ (Le.refl _) ?_
   refine DD.run' [0, 1, 2, 5, 6, 7] rfl ?_
   refine DD.vf 3 rfl rfl rfl rfl rfl (Vf.idx rfl rfl rfl rfl rfl rfl (hjl)) ?_
   refine DD.vf 4 rfl rfl rfl rfl rfl (Vf.loadN rfl rfl rfl (hca.whole hx rfl)) ?_
   refine DD.vf 8 rfl rfl rfl rfl rfl (Vf.idx rfl rfl rfl rfl rfl rfl (hjl)) ?_
   refine DD.vf 9 rfl rfl rfl rfl rfl (Vf.loadN rfl rfl rfl (hcb.whole hx rfl)) ?_
   refine DD.vf 10 rfl rfl rfl rfl rfl (Vf.eqS (xs := [s.cones[j].wet, s.cones[j].cold, s.cones[j].jump, s.cones[j].most]) (ys := [s.cones[j].wet, s.cones[j].cold, s.cones[j].jump, s.cones[j].most]) (.inr rfl) rfl rfl rfl rfl (by kernel_rfl) (fun n Q H R => eq27 (n := n + 1))) ?_
   refine .fin rfl ?_
   refine W.go 99 rfl ?_
   refine W.split rfl rfl rfl (fun e3 => W.go 99 rfl ?_) (fun e3 => W.go 99 rfl ?_)
   ·exact absurd e3 (by simp [eqC])
   ·exact W.again (again2 _ _ _ _ (by omega) ⟨j + 1, rfl, by omega, rfl, rfl, rfl⟩) ⟨rfl, rfl, congrArg some (inc64 (by omega)), trivial⟩ ⟨rfl, rfl, trivial⟩
  ·exact W.ret r rfl rfl ⟨rfl, rfl⟩
end Go.Mz


set_option maxRecDepth 100000
namespace Go.Mz
open Go.Conc Go.Proofs
variable {X : Logic Tryz.prog}
def vastB (s : St) : Bool := decide (20 < s.shelves.length) || decide (20 < s.cones.length) || (decide (s.cones.length = 3) && decide (s.days = 4))
theorem vast_sp (s : St) (p : Pt) (L : LH) : Sp X 20 [stA s p] L (fun v L' => v = .bool (vastB s) ∧ L = L') := by
 refine Sp.enter (n := 24) Tryz.func20 rfl rfl rfl rfl fun C hX _ hL0 r => ?_
 refine W.go 99 rfl ?_
 refine W.split rfl rfl rfl (fun e1 => ?_) (fun e1 => ?_)
 ·refine W.go 99 rfl ?_
  refine W.ret r rfl rfl ?_
  have : 20 < s.shelves.length := by simp at e1; omega
  unfold vastB
  rw [decide_eq_true this]
  exact ⟨rfl, rfl⟩
 ·have h1 : ¬ 20 < s.shelves.length := by simp at e1; omega
  refine W.go 99 rfl ?_
  refine W.split rfl rfl rfl (fun e2 => ?_) (fun e2 => ?_)
  ·refine W.go 99 rfl ?_
   refine W.ret r rfl rfl ?_
   have : 20 < s.cones.length := by simp at e2; omega
   unfold vastB
   rw [decide_eq_true this, Bool.or_true]
   exact ⟨rfl, rfl⟩
  ·have h2 : ¬ 20 < s.cones.length := by simp at e2; omega
   refine W.go 99 rfl ?_
   refine W.split rfl rfl rfl (fun e3 => ?_) (fun e3 => ?_)
   ·refine W.go 99 rfl ?_
    refine W.ret r rfl rfl ?_
    have : s.cones.length = 3 := by simp at e3; omega
    unfold vastB
    rw [decide_eq_false h1, decide_eq_false h2, decide_eq_true this]
    refine ⟨?_, rfl⟩
    simp [retV]
    rfl
   ·refine W.go 99 rfl ?_
    refine W.ret r rfl rfl ?_
    have : ¬ s.cones.length = 3 := by simp at e3; omega
    unfold vastB
    rw [decide_eq_false h1, decide_eq_false h2, decide_eq_false this]
    exact ⟨rfl, rfl⟩
theorem flat_set_get {α : Type} {enc : α → List Value} {k : Nat} (hk : ∀ x, (enc x).length = k) : ∀ (l : List α) (d : Nat) (x : α) (i : Nat), d < l.length → ((l.set d x).flatMap enc)[i]? = if d * k ≤ i ∧ i < d * k + k then (enc x)[i - d * k]? else (l.flatMap enc)[i]?
 | [], _, _, _, h => absurd h (Nat.not_lt_zero _)
 | y :: l, 0, x, i, _ => by
  simp only [List.set_cons_zero, List.flatMap_cons, Nat.zero_mul, Nat.zero_add, Nat.zero_le, true_and, Nat.sub_zero]
  by_cases h : i < k
  ·rw [if_pos h, List.getElem?_append_left (by rw [hk]; exact h)]
  ·rw [if_neg h, List.getElem?_append_right (by rw [hk]; omega), List.getElem?_append_right (by rw [hk]; omega), hk, hk]
 | y :: l, d + 1, x, i, h => by
  simp only [List.set_cons_succ, List.flatMap_cons]
  have e : (d + 1) * k = d * k + k := Nat.succ_mul d k
  by_cases h2 : i < k
  ·rw [List.getElem?_append_left (by rw [hk]; exact h2), List.getElem?_append_left (by rw [hk]; exact h2), if_neg (by omega)]
  ·rw [List.getElem?_append_right (by rw [hk]; omega), List.getElem?_append_right (by rw [hk]; omega), hk, flat_set_get hk l d x (i - k) (by simpa using h)]
   by_cases h3 : d * k ≤ i - k ∧ i - k < d * k + k
   ·rw [if_pos h3, if_pos (by omega), e, show i - k - d * k = i - (d * k + k) by omega]
   ·rw [if_neg h3, if_neg (by omega)]
theorem Grow.setN {α : Type} {I L : LH} {k : Nat} {e : TypeId} {enc : α → List Value} {v : Value} {l : List α} {d : Nat} (h : Grow I k e enc L v l) (hk : ∀ x, (enc x).length = k) (hd : d < l.length) (x : α) :
  ∃ b cap c, v = .slice (some ⟨b, 0, none⟩) l.length cap ∧ I b = none ∧ L b = some (.cells c e (0, 0), true) ∧ d * k + k ≤ c.size ∧ Grow I k e enc (L.put b (.cells (putRow c (d * k) (enc x)) e)) v (l.set d x) := by
 obtain ⟨hI, ob, ho, hn⟩ := h
 cases ob with
 | none => obtain ⟨_, h, _⟩ := ho; omega
 | some b =>
  obtain ⟨cap, c, h1, h2, h3, h4, h5, h6⟩ := ho
  have hsz : d * k + k ≤ c.size := by
   rw [h3, ← Nat.succ_mul]
   exact Nat.mul_le_mul_right _ (by omega)
  have hb := hn b rfl
  refine ⟨b, cap, c, h1, hb, h2, hsz, fun b' y hy => ?_, some b, ⟨cap, putRow c (d * k) (enc x), ?_, put_same _ _ _, ?_, ?_, ?_, fun i y hy => ?_⟩, fun b' hb' => by cases hb'; exact hb⟩
  ·rw [put_ne _ _ (fun e => by subst e; rw [hb] at hy; cases hy)]; exact hI _ _ hy
  ·rw [List.length_set]; exact h1
  ·rw [putRow_size]; exact h3
  ·rw [List.length_set]; exact h4
  ·have : ∀ l : List α, (l.flatMap enc).length = l.length * k := fun l => by
    induction l with
    | nil => simp
    | cons a l ih => rw [List.flatMap_cons, List.length_append, hk, ih, List.length_cons, Nat.succ_mul]; omega
   exact this _
  ·rw [flat_set_get hk l d x i hd] at hy
   rw [putRow_get]
   split at hy
   ·rename_i h7
    rw [if_neg (by omega)]
    have hlt : i - d * k < (enc x).length := by rw [hk]; omega
    rw [List.getElem?_eq_getElem hlt] at hy
    rw [dif_pos ⟨hlt, by omega⟩]; exact hy
   ·rename_i h7
    have := h6 i y hy
    split
    ·exact this
    ·rw [dif_neg (by rw [hk]; omega)]; exact this
theorem several_sp (s : St) (p : Pt) (c : Cone) (ha : Option Addr) (hc : Nat) (hs : List Int) (b : Nat) (ad : Option Addr) (cap : Nat) (l : List Int) (n : Nat) (L : LH) (hst : StAt L s p) (hh : IntsAt L ha hs) (h : HatAt L b ad cap l n) (hn : n ≤ 600000) (hl : l.length ≤ 140737488355328) :
  Sp X 23 [stA s p, .agg (encCo c).toArray, .slice ha hs.length hc, pt b] L (fun v L' => ∃ own p1 t ta tc cs2 p2 ba bb m, v = .tuple #[.slice (some ⟨ba, 0, none⟩) 4 4, .slice (some ⟨bb, 0, none⟩) 4 4] ∧
   L' ba = some (.cells (bxS s p ++ bxS own p1 ++ bxS { own with cones := cs2 } p2 ++ bxS own p1).toArray 25 (0, 0), true) ∧ L' bb = some (.cells #[.slice ha hs.length hc, .slice ta t.length tc, .slice ta t.length tc, .slice ha hs.length hc] 28 (0, 0), true) ∧
   (StoveH own 3 3 ∨ StoveH own 2 4) ∧ heatsE own t = 0 ∧ cs2.length = own.cones.length ∧ m ≤ n + 60 ∧ HatAt L' b ad cap l m ∧ Le (L.but b) L' ∧ StAt (L'.but b) own p1 ∧ StAt (L'.but b) { own with cones := cs2 } p2 ∧ IntsAt (L'.but b) ta t ∧ ba ≠ b ∧ bb ≠ b) := by
 refine Sp.enter (n := 44) Tryz.func23 rfl rfl rfl rfl fun C hX _ hL0 r => ?_
 refine W.go 99 rfl ?_
 refine W.eff rfl rfl rfl (Ef.call rfl (made_sp b ad cap l n L h (by omega) hl)) ?_
 rintro _ _ _ ⟨_, rfl, rfl, own, p1, m, rfl, hs1, hm1, hle1, hh1, hst1⟩
 refine W.go 99 rfl ?_
 rename_i L1
 have hok1 : Ok own := hs1.elim (fun h => h.ok) (fun h => h.ok)
 have hs3 := hok1.s3
 have hc3 := hok1.c3
 refine W.eff rfl rfl rfl (Ef.call rfl (HeatsOf_sp own p1 b ad cap l m L1 hh1 (by omega) hl hok1)) ?_
 rintro _ _ _ ⟨_, rfl, rfl, t, I2, m2, ht, hm2, hg2⟩
 rename_i L2 _
 obtain ⟨ta, tc, rfl, _⟩ := hg2.g.slice
 obtain ⟨sd2, hb2⟩ := hg2.hat.blk
 have htL := (hg2.g.sl_but encI_len hb2 (by decide)).2
 have hst2 : StAt (L2.but b) own p1 := hst1.le (but_but hg2.le)
 refine W.go 99 rfl ?_
 refine W.eff rfl rfl rfl (Ef.call rfl (DupStove_sp own p1 L2 (hst2.le (but_le _ _)) (by omega) (by omega))) ?_
 rintro _ _ _ ⟨_, rfl, rfl, sa, ca, c1, c2, I3, rfl, hgs3, hg3⟩
 rename_i L3
 have hl3 := hgs3.1
 refine W.go 99 rfl ?_
 have g3 := hg2.hat.le (hl3.trans hg3.1)
 obtain ⟨sd3, hb3⟩ := g3.blk
 have hbI : I3 b ≠ none := by rw [hl3 _ _ hb2]; simp
 refine W.weak (E' := [(2, .v (.slice ha hs.length hc)), (3, .v (pt b)), (4, .p 0 0), (5, .p 1 0), (10, .p 2 0), (11, .v (.slice ta t.length tc)), (12, .p 3 0), (13, .v (.int .i64 own.cones.length)), (25, .v (.bool (decide (0 < (own.cones.length : Int)))))]) (B' := [some ⟨cellsS (.v (stA s p)), 25⟩, some ⟨cellsS (.v (.agg (encCo c).toArray)), 27⟩, some ⟨cellsS (.v (stA own p1)), 25⟩, some ⟨cellsS (.v (stA own ⟨sa, ca, c1, c2⟩)), 25⟩]) (by exact ⟨rfl, rfl, rfl, rfl, rfl, rfl, rfl, rfl, rfl, trivial⟩) (by exact ⟨rfl, rfl, rfl, rfl, trivial⟩) ?_
 refine W.cut1 (fun E B L4 => ∃ cs2 m3, cs2.length = own.cones.length ∧ m3 ≤ m2 + 1 ∧ HatAt L4 b ad cap l m3 ∧ Le (L2.but b) L4 ∧ SlAt (L4.but b) sa 2 encSh own.shelves ∧ SlAt (L4.but b) ca 4 encCo cs2 ∧
   SubE E [(2, .v (.slice ha hs.length hc)), (3, .v (pt b)), (4, .p 0 0), (10, .p 2 0), (11, .v (.slice ta t.length tc)), (12, .p 3 0)] ∧ PreB B [some ⟨cellsS (.v (stA s p)), 25⟩, some ⟨cellsS (.v (.agg (encCo c).toArray)), 27⟩, some ⟨cellsS (.v (stA own p1)), 25⟩, some ⟨cellsS (.v (stA own ⟨sa, ca, c1, c2⟩)), 25⟩]) ?_ ?_
 ·rintro E B L4 ⟨cs2, m3, hcs2, hm3, hh4, hle4, hsh4, hco4, hE, hB⟩
  refine W.weak hE hB ?_
  refine W.go 99 rfl ?_
  refine W.pub 8 (.inr ⟨_, _, _, rfl⟩) rfl rfl ?_
  intro ba hba _
  refine W.pub 9 (.inr ⟨_, _, _, rfl⟩) rfl rfl ?_
  intro bb hbb _
  have na := hh4.off hba
  have f1 := Le.put hba (.cells (bxS s p ++ bxS own p1 ++ bxS own ⟨sa, ca, c1, c2⟩ ++ bxS own p1).toArray 25)
  have f2 := Le.put hbb (.cells #[.slice ha hs.length hc, .slice ta t.length tc, .slice ta t.length tc, .slice ha hs.length hc] 28)
  have k1 := f2 _ _ (put_same L4 ba (.cells (bxS s p ++ bxS own p1 ++ bxS own ⟨sa, ca, c1, c2⟩ ++ bxS own p1).toArray 25))
  have k2 := put_same (L4.put ba (.cells (bxS s p ++ bxS own p1 ++ bxS own ⟨sa, ca, c1, c2⟩ ++ bxS own p1).toArray 25)) bb (.cells #[.slice ha hs.length hc, .slice ta t.length tc, .slice ta t.length tc, .slice ha hs.length hc] 28)
  have nb : bb ≠ b := (hh4.le f1).off hbb
  have hl45 := f1.trans f2
  have hbut : Le (L4.but b) (LH.but ((L4.put ba (.cells (bxS s p ++ bxS own p1 ++ bxS own ⟨sa, ca, c1, c2⟩ ++ bxS own p1).toArray 25)).put bb (.cells #[.slice ha hs.length hc, .slice ta t.length tc, .slice ta t.length tc, .slice ha hs.length hc] 28)) b) := but_but ((but_le _ _).trans hl45)
  have h24 : Le (L2.but b) (L4.but b) := but_but hle4
  refine W.ret r rfl rfl ?_
  refine ⟨own, p1, t, ta, tc, cs2, ⟨sa, ca, c1, c2⟩, ba, bb, m3, rfl, ?_, k2, hs1, ht, hcs2, by omega, hh4.le hl45, (but_trans (but_trans hle1 hg2.le) hle4).trans hl45, hst2.le (h24.trans hbut), ⟨hsh4.le hbut, hco4.le hbut, by show own.shelves.length ≤ _; omega, by show cs2.length ≤ _; omega⟩, htL.le (h24.trans hbut), na, nb⟩
  have e1 : bxS { own with cones := cs2 } ⟨sa, ca, c1, c2⟩ = bxS own ⟨sa, ca, c1, c2⟩ := by
   unfold bxS
   rw [hcs2]
  rw [e1]; exact k1
 ·intro hJ
  have hsa4 : ∀ L4 : LH, Le (I3.but b) L4 → SlAt (L4.but b) sa 2 encSh own.shelves := fun L4 h4 => (hgs3.sl_but encSh_len (hl3 _ _ hb2) (by decide)).2.le (but_but h4)
  refine W.split rfl rfl rfl (fun e1 => ?_) (fun e1 => ?_)
  ·have hn1 : 1 ≤ own.cones.length := by simp at e1; omega
   refine W.go 99 rfl ?_
   obtain ⟨b', cap', cc, hv3, hbI', hb'3, hsz, hset⟩ := hg3.setN (d := 0) encCo_len (by omega) c
   obtain ⟨rfl, rfl⟩ : ca = some ⟨b', 0, none⟩ ∧ c2 = cap' := by injection hv3 with h1 _ h2; exact ⟨h1, h2⟩
   clear hset hsz
   refine W.drawn (by kernel_rfl) noL (noL_le _) ?_
   refine DD.run' [0, 1, 2, 3, 4, 6] rfl ?_
   rw [wrap64_in _ (by omega) (by omega)]
   have hto := To_sp (X := C.X) b ad cap l m2 (own.cones.length - 1) L3 g3 (by omega) hl (by omega)
   rw [show ((own.cones.length - 1 : Nat) : Int) = (own.cones.length : Int) - 1 by omega] at hto
   refine DD.act 5 rfl rfl rfl rfl rfl (Ef.call rfl (hto)) ((by rintro _ _ _ ⟨_, rfl, rfl, ⟨y, rfl, _⟩, _⟩; exact ⟨noL_le _, rfl, .inl rfl⟩)) ?_
   rintro _ _ _ ⟨_, rfl, rfl, ⟨y, rfl, hy⟩, hk4, hs4⟩
   rename_i L4
   have g4 := g3.next hk4 hs4
   have hyl : y < own.cones.length := by omega
   have hgr3 : HatGr I3 b ad cap l m2 4 27 encCo L3 (.slice (some ⟨b', 0, none⟩) own.cones.length c2) own.cones I3 := ⟨hg3, hg2.hat.le hl3, fun _ _ => rfl⟩
   obtain ⟨I4, hg4⟩ := hgr3.step hk4 hs4
   obtain ⟨b2, cap2, c4, hv4, hbI4, hb4, hsz4, hset4⟩ := hg4.g.setN encCo_len hyl c
   obtain rfl : b' = b2 := by injection hv4 with h1 _ _; injection h1 with h1; injection h1
   refine DD.vf 7 rfl rfl rfl rfl rfl (Vf.idx rfl rfl rfl rfl rfl rfl (hyl)) ?_
   have hx7 : (Addr.add ⟨b', 0, none⟩ (y * 4)) = ⟨b', y * 4, none⟩ := by rw [add_of, Nat.zero_add]
   refine DD.act 8 rfl rfl rfl rfl rfl (Ef.stoF (congrArg (fun a => some (SV.v (.pointer (some a)))) hx7) ⟨_, rfl, rfl⟩ rfl hb4 rfl hsz4 (singles rfl)) ((by rintro _ _ _ ⟨rfl, rfl, rfl⟩; exact ⟨noL_le _, rfl, .inl rfl⟩)) ?_
   rintro _ _ _ ⟨rfl, rfl, rfl⟩
   refine .fin rfl ?_
   refine hJ _ _ _ ?_
   have hI34 : Le (I3.but b) I4 := but_same hg4.i
   obtain ⟨sd4, hb5⟩ := (hg4.h.le hset4.1).blk
   exact ⟨own.cones.set y c, m2 + 1, List.length_set .., by omega, hg4.h.le hset4.1, ((but_but ((but_le _ _).trans hl3)).trans hI34).trans hset4.1, hsa4 _ (hI34.trans hset4.1), by have := (hset4.sl_but encCo_len hb5 (by decide)).2; exact this, ⟨rfl, rfl, rfl, rfl, rfl, rfl, trivial⟩, ⟨rfl, rfl, rfl, rfl, trivial⟩⟩
  ·refine W.go 2 rfl ?_
   refine hJ _ _ _ ?_
   exact ⟨own.cones, m2, rfl, by omega, g3, (but_le _ _).trans (hl3.trans hg3.1), hsa4 _ ((but_le _ _).trans hg3.1), (hg3.sl_but encCo_len hb3 (by decide)).2, ⟨rfl, rfl, rfl, rfl, rfl, rfl, trivial⟩, ⟨rfl, rfl, rfl, rfl, trivial⟩⟩
end Go.Mz

