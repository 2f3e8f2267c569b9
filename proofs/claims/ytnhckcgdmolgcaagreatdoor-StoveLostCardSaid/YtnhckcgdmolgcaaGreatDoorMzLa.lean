/- Lemmas on which the claim leans. -/
import Derived.Test.YtnhckcgdmolgcaaGreatDoorMzAv
namespace Go.Mz
open Go
end Go.Mz


namespace Go.Mz
open Go.Conc
theorem W.asLit {P : Program} {C : Cx P} {n : Nat} {ds : List Deferred} {k : List Item} {E : Env} {B : List (Option Bx)} {L : LH} (s : Nat) {sv : SV} {p : Bool} (hs : get E s = some sv) (hb : boolOf sv = some p) (w : W C n ds k ((s, .lit p) :: E) B L) : W C n ds k E B L :=
 W.bool s hs hb (fun e => by rw [e] at w; exact w) (fun e => by rw [e] at w; exact w)
end Go.Mz


set_option maxRecDepth 100000
namespace Go.Mz
open Go.Conc Go.Proofs
theorem fate_in {s : St} {hs : List Int} {i : Nat} {a : Stand} {c : Cone} (h : Ok s) (hh : heatsE s hs = 0) (hi : s.cones[i]? = some c) (ha : isStand s a = true) : FateE s hs i a = ((fateS s hs c a).1, (fateS s hs c a).2, 0) := by
 have hl := (List.getElem?_eq_some_iff.1 hi).1
 have h1 : openE s hs [(i : Int)] [] = 0 := by
  unfold openE
  rw [ok_iff.2 h, hh]
  have : inB (i : Int) 0 ((s.cones.length : Int) - 1) = true := by unfold inB; simp; omega
  simp [firstE, this]
 have hc : coneAt s i = c := by unfold coneAt; rw [Int.toNat_natCast, hi]; rfl
 unfold FateE
 rw [if_neg (by rw [h1]; simp), ha, hc]; rfl
variable {Post : Value → World → Prop} {W0 : World}
end Go.Mz


namespace Go.Mz
open Go
end Go.Mz


namespace Go.Mz
open Go
def onlyS (s : St) (l : List Nat) : St := { s with cones := l.filterMap fun i => s.cones[i]? }
section
variable {s : St} {hs : List Int}
end
end Go.Mz


set_option maxRecDepth 100000
namespace Go.Mz
open Go
section
variable {s : St} {hs : List Int}
theorem openE_e (h : Ok s) : openE s hs [] [] = heatsE s hs := by
 unfold openE
 rw [ok_iff.2 h]
 by_cases hh : heatsE s hs = 0
 ·rw [hh]; simp [firstE]
 ·simp [firstE, hh]
theorem openE_0 (h : Ok s) (hh : heatsE s hs = 0) : openE s hs [] [] = 0 := by rw [openE_e h, hh]
theorem filt_at {p : Nat → Bool} {n i : Nat} (hi : i < n) (hp : p i = true) : ((List.range n).filter p)[((List.range i).filter p).length]? = some i := by
 rw [range_split hi, List.filter_append, List.getElem?_append_right (Nat.le_refl _), Nat.sub_self, List.filter_cons, if_pos hp]; rfl
theorem filt_more {p : Nat → Bool} {i : Nat} (hp : p i = true) : ((List.range (i + 1)).filter p).length = ((List.range i).filter p).length + 1 := by
 rw [List.range_succ, List.filter_append, List.length_append, List.filter_cons, if_pos hp]; rfl
theorem filt_same {p : Nat → Bool} {i : Nat} (hp : p i = false) : ((List.range (i + 1)).filter p).length = ((List.range i).filter p).length := by
 rw [List.range_succ, List.filter_append, List.length_append, List.filter_cons, if_neg (by rw [hp]; simp)]; rfl
theorem lost_can {i : Nat} {c : Cone} (hi : s.cones[i]? = some c) : lostB s hs i = !(grid s).any (dryB s hs c) := by
 unfold lostB
 rw [hi]
 show (standsS s hs c).isEmpty = _
 unfold standsS
 show ((grid s).filter (dryB s hs c)).isEmpty = _
 induction grid s with
 | nil => rfl
 | cons a l ih =>
  rw [List.filter_cons, List.any_cons]
  cases dryB s hs c a with
  | true => rfl
  | false => simpa using ih
theorem any_snoc {α : Type} {p : α → Bool} {l : List α} {a : α} : (l ++ [a]).any p = (l.any p || p a) := by simp
end
end Go.Mz


set_option maxRecDepth 100000
namespace Go.Mz
open Go.Conc Go.Proofs
variable {Post : Value → World → Prop} {W0 : World}
theorem SlO_run (na : Option Addr) (nc : Nat) (nums : List Int) (L : LH) (hn : IntsAt L na nums) (hgl : GlOk L) (hl2 : nums.length ≤ 140737488355328)
  (hQ : ∀ v L' w, (v = .bool true ∧ Dim L L') → Sub L' w → Same W0 w → Post v w) :
  FGo Tryz.prog Post W0 (G (Frame.enter Tryz.prog 12 [.slice na nums.length nc].toArray .normal) []) L := by
 refine root_enter (n := 94) (s := 2) Tryz.func12 rfl rfl (by kernel_rfl) rfl rfl hQ fun C hX _ hL0 r => ?_
 have drd : ∀ L2, GlOk L2 → Sp C.X 21 [] L2 (fun v L' => v = .bool true ∧ Dim L2 L') := fun L2 h => by rw [hX]; exact dried_sp L2 h
 refine W.go 99 rfl ?_
 refine W.eff rfl rfl rfl (Ef.call rfl (NewHat_sp na nc nums L hn)) ?_
 rintro _ _ _ ⟨_, rfl, rfl, b, rfl, hb, hle1, hh1⟩
 refine W.go 99 rfl ?_
 rename_i L1
 have hb1 := le_but hb hle1
 refine W.eff rfl rfl rfl (Ef.call rfl (StoveOf_sp b na nc nums 0 3 4 L1 hh1 (by omega) hl2 (by omega) (by omega) (by omega))) ?_
 rintro _ _ _ ⟨_, rfl, rfl, s, p, m, rfl, hs, hm, hle2, hh2, hst2⟩
 refine W.go 99 rfl ?_
 rename_i L2
 have hok := hs.ok
 have o2 := hok.c3
 have o3 := hok.s3
 have o4 := hok.d4
 have o5 := hok.d1
 refine W.eff rfl rfl rfl (Ef.call rfl (HeatsOf_sp s p b na nc nums m L2 hh2 (by omega) hl2 hok)) ?_
 rintro _ _ _ ⟨_, rfl, rfl, t, I3, m2, ht, hm2, hg3⟩
 rename_i L3 _
 have hhk := hok_of ht
 have htl := hhk.len
 obtain ⟨ta, tc, rfl, _⟩ := hg3.g.slice
 obtain ⟨sd3, hb3⟩ := hg3.hat.blk
 have ht3 := (hg3.g.sl_but encI_len hb3 (by decide)).2
 have hst3 : StAt (L3.but b) s p := hst2.le (but_but hg3.le)
 have hL3 : Le L (L3.but b) := hb1.trans (but_but (but_trans hle2 hg3.le))
 have hask : AskAt L3 s p ta t := ⟨hst3.le (but_le _ _), ht3.le (but_le _ _), hgl.le (hL3.trans (but_le _ _)), by omega⟩
 refine W.go 99 rfl ?_
 have hLo := Lost_sp (X := C.X) s p ta tc t L3 hask
 rw [openE_0 hok ht, if_pos rfl] at hLo
 refine W.eff rfl rfl rfl (Ef.call rfl (hLo)) ?_
 rintro _ _ _ ⟨_, rfl, rfl, _, rfl, ga, gc, rfl, hl5, hgs, -⟩
 refine W.go 99 rfl ?_
 rename_i L5
 have hask := hask.le hl5
 have hd5 : Dim L L5 := Dim.of_le ((hL3.trans (but_le _ _)).trans hl5)
 change SlAt L5 ga 1 encI (natI ((List.range s.cones.length).filter (lostB s t))) at hgs
 have hgn : (natI ((List.range s.cones.length).filter (lostB s t))).length = ((List.range s.cones.length).filter (lostB s t)).length := by simp [natI]
 have hgl3 : ((List.range s.cones.length).filter (lostB s t)).length ≤ 3 := by have := List.length_filter_le (lostB s t) (List.range s.cones.length); rw [List.length_range] at this; omega
 refine W.loop (fun w E B L' => ∃ i : Nat, w = s.cones.length - i ∧ i ≤ s.cones.length ∧ Le L5 L' ∧
   E = [(4, .p 0 0), (5, .v (.slice ta t.length tc)), (6, .v (.slice ga (natI ((List.range s.cones.length).filter (lostB s t))).length gc)), (7, .v (.int .i64 0)), (8, .v (.int .i64 ((List.range i).filter (lostB s t)).length)), (9, .v (.int .i64 i))] ∧ B = [some ⟨cellsS (.v (stA s p)), 25⟩])
  ⟨0, rfl, by omega, Le.refl _, rfl, rfl⟩ (by exact ⟨rfl, rfl, rfl, rfl, rfl, rfl, trivial⟩) (by exact ⟨rfl, trivial⟩) ?_
 rintro _ _ _ L6 ⟨i, rfl, hi, hl6, rfl, rfl⟩ again
 refine W.go 99 rfl ?_
 refine W.split rfl rfl rfl (fun e1 => W.go 99 rfl ?_) (fun e1 => W.go 99 rfl ?_)
 ·have hin : i < s.cones.length := by simpa using e1
  obtain ⟨c, hcc⟩ : ∃ c, s.cones[i]? = some c := ⟨_, List.getElem?_eq_getElem hin⟩
  refine W.loop (fun w E B L' => ∃ (k : Nat) (bo : Bool), w = s.shelves.length - k ∧ k ≤ s.shelves.length ∧ Le L5 L' ∧ (gridTo s k 0).any (dryB s t c) = bo ∧
    E = [(4, .p 0 0), (5, .v (.slice ta t.length tc)), (6, .v (.slice ga (natI ((List.range s.cones.length).filter (lostB s t))).length gc)), (7, .v (.int .i64 0)), (8, .v (.int .i64 ((List.range i).filter (lostB s t)).length)), (9, .v (.int .i64 i)), (10, .lit bo), (11, .v (.int .i64 k))] ∧ B = [some ⟨cellsS (.v (stA s p)), 25⟩])
   ⟨0, false, rfl, by omega, hl6, rfl, rfl, rfl⟩ (by exact ⟨rfl, rfl, rfl, rfl, rfl, rfl, rfl, rfl, trivial⟩) (by exact ⟨rfl, trivial⟩) ?_
  rintro _ _ _ L7 ⟨k, bo, rfl, hk, hl7, hbo, rfl, rfl⟩ again2
  refine W.go 99 rfl ?_
  refine W.split rfl rfl rfl (fun e2 => W.go 99 rfl ?_) (fun e2 => W.go 99 rfl ?_)
  ·have hkn : k < s.shelves.length := by simpa using e2
   refine W.loop (fun w E B L' => ∃ (d : Nat) (bo : Bool), w = s.days.toNat - d ∧ d ≤ s.days.toNat ∧ Le L5 L' ∧ (gridTo s k d).any (dryB s t c) = bo ∧
     E = [(4, .p 0 0), (5, .v (.slice ta t.length tc)), (6, .v (.slice ga (natI ((List.range s.cones.length).filter (lostB s t))).length gc)), (7, .v (.int .i64 0)), (8, .v (.int .i64 ((List.range i).filter (lostB s t)).length)), (9, .v (.int .i64 i)), (10, .lit bo), (11, .v (.int .i64 k)), (12, .v (.int .i64 d))] ∧ B = [some ⟨cellsS (.v (stA s p)), 25⟩])
    ⟨0, bo, rfl, by omega, hl7, hbo, rfl, rfl⟩ (by exact ⟨rfl, rfl, rfl, rfl, rfl, rfl, rfl, rfl, rfl, trivial⟩) (by exact ⟨rfl, trivial⟩) ?_
   clear hbo hl7
   rintro _ _ _ L8 ⟨d, bo, rfl, hd, hl8, hbo, rfl, rfl⟩ again3
   refine W.go 99 rfl ?_
   refine W.split rfl rfl rfl (fun e3 => W.go 99 rfl ?_) (fun e3 => W.go 99 rfl ?_)
   ·have hdn : d < s.days.toNat := by simp at e3; omega
    have hisst : isStand s ⟨(k : Int), (d : Int)⟩ = true := by unfold isStand inB; simp; omega
    have hF := Fate_sp (X := C.X) s p ta tc t i ⟨k, d⟩ L8 (hask.le hl8)
    rw [fate_in hok ht hcc hisst] at hF
    have hnew : (gridTo s k (d + 1)).any (dryB s t c) = (bo || dryB s t c ⟨k, d⟩) := by rw [gridTo_succ, any_snoc, hbo]
    refine W.eff rfl rfl rfl (Ef.call rfl (hF)) ?_
    rintro _ _ _ ⟨_, rfl, rfl, rfl, hl9⟩
    refine W.go 99 rfl ?_
    refine W.split rfl rfl rfl (fun h => absurd h (by simp)) (fun _ => ?_)
    refine W.go 99 rfl ?_
    cases bo with
    | true =>
     refine W.go 99 rfl ?_
     exact W.again (again3 _ _ _ _ (by omega) ⟨d + 1, true, rfl, by omega, hl8.trans hl9, by rw [hnew]; rfl, rfl, rfl⟩) (by exact ⟨rfl, rfl, rfl, rfl, rfl, rfl, rfl, rfl, congrArg some (inc64 (by omega)), trivial⟩) (by exact ⟨rfl, trivial⟩)
    | false =>
     refine W.go 99 rfl ?_
     refine W.asLit 10 rfl rfl ?_
     exact W.again (again3 _ _ _ _ (by omega) ⟨d + 1, dryB s t c ⟨k, d⟩, rfl, by omega, hl8.trans hl9, by rw [hnew]; rfl, rfl, rfl⟩) (by exact ⟨rfl, rfl, rfl, rfl, rfl, rfl, rfl, rfl, congrArg some (inc64 (by omega)), trivial⟩) (by exact ⟨rfl, trivial⟩)
   ·have hde : d = s.days.toNat := by simp at e3; omega
    exact W.again (again2 _ _ _ _ (by omega) ⟨k + 1, bo, rfl, by omega, hl8, by rw [gridTo_row, ← hde]; exact hbo, rfl, rfl⟩) (by exact ⟨rfl, rfl, rfl, rfl, rfl, rfl, rfl, congrArg some (inc64 (by omega)), trivial⟩) (by exact ⟨rfl, trivial⟩)
  ·have hke : k = s.shelves.length := by simp at e2; omega
   rw [hke, gridTo_all] at hbo
   have hlb : lostB s t i = !bo := by rw [lost_can hcc, hbo]
   cases bo with
   | true =>
    refine W.go 99 rfl ?_
    exact W.again (again _ _ _ _ (by omega) ⟨i + 1, rfl, by omega, hl7, rfl, rfl⟩) (by exact ⟨rfl, rfl, rfl, rfl, congrArg (fun (n : Nat) => some (SV.v (.int .i64 n))) (filt_same (p := lostB s t) hlb).symm, congrArg some (inc64 (by omega)), trivial⟩) (by exact ⟨rfl, trivial⟩)
   | false =>
    have hat := filt_at (p := lostB s t) hin hlb
    have hmore := filt_more (p := lostB s t) hlb
    have hatl := (List.getElem?_eq_some_iff.1 hat).1
    obtain ⟨ga', rfl⟩ := hgs.addr (i := ((List.range i).filter (lostB s t)).length) (by omega)
    refine W.go 99 rfl ?_
    refine W.split rfl rfl rfl (fun h => absurd h (by simp; omega)) (fun _ => ?_)
    refine W.go 99 rfl ?_
    refine W.vf rfl rfl rfl rfl (Vf.idx1 rfl rfl rfl rfl rfl rfl rfl ((show ((List.range i).filter (lostB s t)).length < (natI ((List.range s.cones.length).filter (lostB s t))).length by omega))) ?_
    refine W.vf rfl rfl rfl rfl (Vf.load rfl rfl rfl (((hgs.le hl7).int (x := (i : Int)) (by rw [natI, List.getElem?_map, hat]; rfl)))) ?_
    refine W.go 99 rfl ?_
    rw [bne_self_eq_false]
    refine W.split rfl rfl rfl (fun c => absurd c (by decide)) (fun c => ?_)
    refine W.go 99 rfl ?_
    exact W.again (again _ _ _ _ (by omega) ⟨i + 1, rfl, by omega, hl7, rfl, rfl⟩) (by exact ⟨rfl, rfl, rfl, rfl, by rw [hmore]; exact congrArg some (inc64 (by omega)), congrArg some (inc64 (by omega)), trivial⟩) (by exact ⟨rfl, trivial⟩)
 ·have hie : i = s.cones.length := by simp at e1; omega
  subst hie
  refine W.split rfl rfl rfl (fun c => ?_) (fun c => absurd c (by decide))
  refine W.go 99 rfl ?_
  refine W.split rfl rfl rfl (fun _ => ?_) (fun h => absurd h (by simp [hgn]))
  refine W.go 99 rfl ?_
  refine W.eff rfl rfl rfl (Ef.call rfl (drd L6 (hask.le hl6).gl)) ?_
  rintro _ _ _ ⟨_, rfl, rfl, rfl, hdm⟩
  refine W.go 99 rfl ?_
  exact W.retO r rfl ⟨rfl, (hd5.trans (Dim.of_le hl6)).trans hdm⟩
end Go.Mz

