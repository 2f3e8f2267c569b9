/- Lemmas on which the claim leans. -/
import Derived.Test.YtfnjganjlkoehaaGreatDoorMzAt
set_option maxRecDepth 100000
namespace Go.Mz
open Go.Conc Go.Proofs
variable {X : Logic Tryz.prog}
def longB (s : Sw) : Bool := decide (20 < s.loaves.length) || decide (20 < s.stock.length) || decide (20 < s.wants.length) || s.loaves.any fun l => decide (20 < l.length)
theorem long_no {s : Sw} (h : longB s = false) : Sm s := by
 unfold longB at h
 simp only [Bool.or_eq_false_iff, decide_eq_false_iff_not, List.any_eq_false] at h
 exact ⟨by omega, by omega, by omega, fun l hl => by have := h.2 l hl; simp at this; omega⟩
theorem long_sp (s : Sw) (p : Wp) (L : LH) (hs : SwAt L s p) : Sp X 20 [swA s p] L (fun v L' => v = .bool (longB s) ∧ L = L') := by
 refine Sp.enter (n := 34) Tryz.func20 rfl rfl rfl rfl fun C hX _ hL0 r => ?_
 refine W.go 99 rfl ?_
 refine W.split rfl rfl rfl (fun e1 => ?_) (fun e1 => ?_)
 ·refine W.go 99 rfl ?_
  have : 20 < s.loaves.length := by simp at e1; omega
  exact W.ret r rfl rfl ⟨by unfold longB; simp [this, retV], rfl⟩
 have n1 : ¬ 20 < s.loaves.length := by simp at e1; omega
 refine W.go 99 rfl ?_
 refine W.split rfl rfl rfl (fun e2 => ?_) (fun e2 => ?_)
 ·refine W.go 99 rfl ?_
  have : 20 < s.stock.length := by simp at e2; omega
  exact W.ret r rfl rfl ⟨by unfold longB; simp [this, retV], rfl⟩
 have n2 : ¬ 20 < s.stock.length := by simp at e2; omega
 refine W.go 99 rfl ?_
 refine W.split rfl rfl rfl (fun e3 => ?_) (fun e3 => ?_)
 ·refine W.go 99 rfl ?_
  have : 20 < s.wants.length := by simp at e3; omega
  exact W.ret r rfl rfl ⟨by unfold longB; simp [this, retV], rfl⟩
 have n3 : ¬ 20 < s.wants.length := by simp at e3; omega
 refine W.go 99 rfl ?_
 have base : longB s = s.loaves.any fun l => decide (20 < l.length) := by unfold longB; rw [decide_eq_false n1, decide_eq_false n2, decide_eq_false n3]; rfl
 refine W.loop (fun m E B L' => ∃ i : Nat, m = s.loaves.length - i ∧ i ≤ s.loaves.length ∧ (s.loaves.take i).any (fun l => decide (20 < l.length)) = false ∧ E = [(1, .p 0 0), (3, .v (.int .i64 i))] ∧ B = [some ⟨cellsS (.v (swA s p)), 26⟩] ∧ L = L')
  ⟨0, rfl, by omega, by simp, rfl, rfl, rfl⟩ (by exact ⟨rfl, rfl, trivial⟩) (by exact ⟨rfl, trivial⟩) ?_
 rintro _ _ _ _ ⟨i, rfl, h1, hg, rfl, rfl, rfl⟩ again
 refine W.go 99 rfl ?_
 refine W.split rfl rfl rfl (fun d1 => W.go 99 rfl ?_) (fun d1 => W.go 99 rfl ?_)
 ·have hi : i < s.loaves.length := by simpa using d1
  have hl : s.loaves[i]? = some s.loaves[i] := List.getElem?_eq_getElem hi
  obtain ⟨la, hla⟩ := hs.lo.addr hi
  have hlo := hs.lo
  rw [hla] at hlo
  obtain ⟨a, c, hc, hsl, hcp⟩ := hlo.row hl
  obtain ⟨qa, qb, qc, qd, qe, qf⟩ := p
  obtain rfl : qa = some la := hla
  refine W.vf rfl rfl rfl rfl (Vf.idx1 rfl rfl rfl rfl rfl rfl rfl (hi)) ?_
  refine W.go 99 rfl ?_
  refine W.vf rfl rfl rfl rfl (Vf.load rfl rfl rfl (hc)) ?_
  refine W.go 99 rfl ?_
  refine W.split rfl rfl rfl (fun d2 => W.go 99 rfl ?_) (fun d2 => W.go 99 rfl ?_)
  ·have hb : 20 < s.loaves[i].length := by simp at d2; omega
   exact W.ret r rfl rfl ⟨by rw [base, List.any_eq_true.2 ⟨s.loaves[i], List.getElem_mem hi, decide_eq_true hb⟩]; rfl, rfl⟩
  ·have hb : ¬ 20 < s.loaves[i].length := by simp at d2; omega
   exact W.again (again _ _ _ _ (by omega) ⟨i + 1, rfl, by omega, by rw [List.take_succ_eq_append_getElem hi, List.any_append, hg]; simp; omega, rfl, rfl, rfl⟩) ⟨rfl, congrArg some (inc64 (by omega)), trivial⟩ ⟨rfl, trivial⟩
 ·have hie : i = s.loaves.length := by simp at d1; omega
  subst hie
  rw [List.take_length] at hg
  exact W.ret r rfl rfl ⟨by rw [base, hg]; rfl, rfl⟩
def encSP (x : Sw × Wp) : List Value := encSw x.1 x.2
theorem encSP_len (x : Sw × Wp) : (encSP x).length = 4 := rfl
structure SvAt (L : LH) (ba : Nat) (Ss : List (Sw × Wp)) : Prop where
 ss : SlAt L (some ⟨ba, 0, none⟩) 4 encSP Ss
 so : ∀ x ∈ Ss, SwAt L x.1 x.2 ∧ Sm x.1
theorem SvAt.le {L L' : LH} {ba : Nat} {Ss : List (Sw × Wp)} (h : SvAt L ba Ss) (hl : Le L L') : SvAt L' ba Ss := ⟨h.ss.le hl, fun x hx => ⟨(h.so x hx).1.le hl, (h.so x hx).2⟩⟩
theorem several_sp (s : Sw) (p : Wp) (x : Want) (b : Nat) (ad : Option Addr) (cap : Nat) (l : List Int) (n : Nat) (L : LH) (hs : SwAt (L.but b) s p) (hn : Sm s) (h : HatAt L b ad cap l n) (hn' : n ≤ 600000) (hl : l.length ≤ 140737488355328) :
  Sp X 23 [swA s p, .agg (encWt x).toArray, pt b] L (fun v L' => ∃ own p1 p2 ba m, v = .slice (some ⟨ba, 0, none⟩) 3 3 ∧ SawH own 3 4 ∧ m ≤ n + 100 ∧ HatAt L' b ad cap l m ∧ Le (L.but b) L' ∧
   SvAt (L'.but b) ba [(s, p), (own, p1), ({ own with wants := own.wants ++ [x] }, p2)]) := by
 refine Sp.enter (n := 23) Tryz.func23 rfl rfl rfl rfl fun C hX _ hL0 r => ?_
 refine W.go 99 rfl ?_
 have c1 := SawOf_sp (X := C.X) b ad cap l n 3 4 L h (by omega) hl (by omega) (by omega) (by omega)
 refine W.eff rfl rfl rfl (Ef.call rfl (c1)) ?_
 rintro _ _ _ ⟨v1, rfl, rfl, own, p1, m, rfl, ho, hm, hL1, g1, hsw1⟩
 refine W.go 99 rfl ?_
 rename_i L1
 have hsm := (sawE_0 ho.e).sm
 refine W.eff rfl rfl rfl (Ef.call rfl ((DupSaw_sp own p1 (L1.but b) hsw1 hsm).frame (but_le L1 b))) ?_
 rintro _ _ _ ⟨v2, rfl, rfl, F, ⟨p2, I, hd⟩, hpo⟩
 rename_i L2
 have hv := hd.v
 subst hv
 have hb1 : (L1.but b) b = none := by unfold LH.but; rw [if_pos rfl]
 obtain ⟨sd, gb⟩ := g1.blk
 have hFb : F b = none := Classical.byContradiction fun e => (hpo.fresh b e).elim (fun h => h hb1) fun h => by rw [gb] at h; cases h
 have hb2 := hpo.keep b _ hb1 gb
 have hLF := hd.at_.2
 have hg := hd.wt
 obtain ⟨hI, ob, how, hob⟩ := hg
 have hne : ob ≠ some b := fun e => by
  subst e
  obtain ⟨c, e⟩ := how.ty
  rw [hFb] at e; cases e
 have how2 := how.le hpo.le
 obtain ⟨la, sa, wa, lc, sc, wc⟩ := p2
 refine W.go 99 rfl ?_
 refine W.eff rfl rfl rfl (Ef.grow rfl rfl rfl rfl rfl rfl rfl rfl rfl encWt_len (fun x => encWt_sg x) (Own.grow how2) (ls := [x]) (.own rfl rfl rfl rfl) (by have := hsm.hw; simp; omega)) ?_
 rintro _ _ _ ⟨v3, rfl, rfl, hg3, _⟩
 rename_i L3 _
 obtain ⟨wa3, wc3, rfl, hwc3⟩ := hg3.slice
 have hI2 : Le I (off ob L2) := le_off (hI.trans hpo.le) hob
 have hb3 := hg3.1 _ _ ((off_get hne).trans hb2)
 have hw3 := (hg3.sl_but encWt_len hb3 (by decide)).2
 have hI3 : Le I (L3.but b) := fun q y hq => by
  have hq' : q ≠ b := fun e => by subst e; have := hI _ _ hq; rw [hFb] at this; cases this
  rw [but_get hq']; exact hg3.1 _ _ (hI2 _ _ hq)
 refine W.go 99 rfl ?_
 refine W.pub 22 (.inr ⟨_, _, _, rfl⟩) rfl rfl ?_
 intro ba hba _
 refine W.ret r rfl rfl ?_
 have hlp := Le.put hba (.cells ([(s, p), (own, p1), (({ own with wants := own.wants ++ [x] } : Sw), (⟨la, sa, wa3, lc, sc, wc3⟩ : Wp))].flatMap encSP).toArray 26)
 have hbab : ba ≠ b := fun e => by subst e; rw [hb3] at hba; cases hba
 have hlb : Le (L3.but b) ((L3.put ba (.cells ([(s, p), (own, p1), (({ own with wants := own.wants ++ [x] } : Sw), (⟨la, sa, wa3, lc, sc, wc3⟩ : Wp))].flatMap encSP).toArray 26)).but b) := but_but ((but_le _ _).trans hlp)
 have hI4 := hI3.trans hlb
 have h14 := hd.le.trans hI4
 refine ⟨own, p1, ⟨la, sa, wa3, lc, sc, wc3⟩, ba, m, rfl, ho, hm, ⟨⟨sd, hlp _ _ hb3⟩, g1.ints.le h14⟩, (but_but hL1).trans (h14.trans (but_le _ _)), sl_block (e := 26) encSP_len ((but_get hbab).trans (put_same _ _ _)), fun y hy => ?_⟩
 simp only [List.mem_cons, List.not_mem_nil, or_false] at hy
 have hw5 := ho.w
 rcases hy with rfl | rfl | rfl
 ·exact ⟨hs.le ((but_but hL1).trans h14), hn⟩
 ·exact ⟨hsw1.le h14, hsm⟩
 ·refine ⟨⟨hd.lo.le hI4, hd.st.le hI4, hw3.le hlb, hwc3⟩, hsm.hl, hsm.hs, ?_, hsm.hr⟩
  show (own.wants ++ [x]).length ≤ 1000
  simp; omega
end Go.Mz

