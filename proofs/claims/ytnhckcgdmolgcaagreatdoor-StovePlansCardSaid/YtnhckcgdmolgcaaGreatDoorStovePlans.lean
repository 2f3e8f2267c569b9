/- For every stove, cone, heats, plan and number, valid or not, Right and Places of the program answer as the document for several stoves and plans, and change nothing; no condition beside the given bounds. -/
import Derived.Test.YtnhckcgdmolgcaaGreatDoorMzCa
import Derived.SevenTiedAt
set_option maxRecDepth 100000
namespace Go.Proofs.YtnhckcgdmolgcaaGreatDoor
open Go.Mz Go.Conc Go.ConcN Go.Proofs Go.ChangeShapes Go.WideShapes Go.RowKit
theorem stovePlans_lifted (os : Os) (started : os.Started) (H : Type) (enc : TypeId × Value → H) :
  ReturnsInLeavingWide {} Tryz.checked os 15 .any (fun w args => (Rows.stovePlansSpec.pre enc Tryz.prog Tryz.f15 [] false w args ∧ laidMetH Tryz.prog laidT w) ∧ sizedMet enc Tryz.prog Tryz.f15 (OpenSpec.ofChange Rows.stovePlansSpec) false w args)
   (Rows.stovePlansSpec.post enc Tryz.prog Tryz.f15 false true false false) := by
 refine returns_leaving (C := Tryz.checked) (X := fun w _ => laidMetH Tryz.prog laidT w) (fun _ _ _ hh h => h.of_heap hh) ownT started Tryz.func15
  (ChangeSpec.witness_at (enc := enc) (C := Tryz.checked) (os := os) (X := fun w _ => laidMetH Tryz.prog laidT w) false (laidW os) #[.agg #[.slice none 0 0, .slice none 0 0, .int .i64 0, .int .i64 0, .int .i64 0, .int .i64 0], .agg #[.int .i64 0, .int .i64 0, .int .i64 0, .int .i64 0], .slice none 0 0, .slice none 0 0, .int .i64 0, .slice none 0 0] 8 rfl (by kernel_rfl) (by kernel_rfl) (by kernel_rfl) (by kernel_rfl) (by kernel_rfl) (laidW_met os _)) ?_
 intro W base args ds gs before hval0 hW hsz0 hL
 have hval : ∀ (j : Nat) t v, Tryz.f15.params[j]? = some t → args[j]? = some v → Value.okWide Tryz.prog W .any base t v := hval0
 have hW' := hW
 have hlt : ∀ x ∈ before, x.block < W.heap.size := fun x hx => by simpa using hW'.lt x hx
 obtain ⟨p, q, hA0, hV0, rfl, hfz, hnd⟩ := hW
 have hA : DataW.TrodAll enc Tryz.prog W 0 (fun _ => true) true Tryz.f15.params.toList args.toList ds p := hA0
 have hV : DataW.TrodVars enc Tryz.prog W (fun _ => true) [] gs q := hV0
 obtain ⟨rfl, rfl⟩ : gs = [] ∧ q = [] := by
  cases gs with
  | nil => exact ⟨rfl, hV⟩
  | cons g r => exact absurd hV (by intro h; cases h)
 have hsz : (DataW.weightsEach Tryz.prog ([25, 27, 28, 41, 3, 28] ++ []) (ds ++ [])).all (· ≤ reachBytes) = true := by
  have := hsz0
  exact this
 rw [Tryz.params15] at hA hval
 have hA6 := hA
 rw [List.append_nil, List.append_nil] at hsz
 obtain ⟨v0, vs, d0, ds0, p0, q0, hargs, rfl, rfl, t0, hA⟩ := trodAll_cons hA
 obtain ⟨v1, vs1, d1, ds1, p1, q1, rfl, rfl, rfl, t1, hA⟩ := trodAll_cons hA
 obtain ⟨v2, vs2, d2, ds2, p2, q2, rfl, rfl, rfl, t2, hA⟩ := trodAll_cons hA
 obtain ⟨v3, vs3, d3, ds3, p3, q3, rfl, rfl, rfl, t3, hA⟩ := trodAll_cons hA
 obtain ⟨v4, vs4, d4, ds4, p4, q4, rfl, rfl, rfl, t4, hA⟩ := trodAll_cons hA
 obtain ⟨v5, vs5, d5, ds5, p5, q5, rfl, rfl, rfl, t5, hA⟩ := trodAll_cons hA
 obtain ⟨rfl, rfl, rfl⟩ := trodAll_nil hA
 obtain rfl : args = #[v0, v1, v2, v3, v4, v5] := Array.toList_inj.1 hargs
 have hwt : ∀ (j : Nat) t d, ([25, 27, 28, 41, 3, 28] : List TypeId)[j]? = some t → [d0, d1, d2, d3, d4, d5][j]? = some d → ∀ m ∈ d.weights Tryz.prog t, m ≤ reachBytes := fun j t d ht hd m hm => by
  have := List.all_eq_true.1 hsz m (weights_mem ht hd m hm)
  simpa using this
 obtain ⟨s0, pp0, rfl, hh0⟩ := open_stove (hval 0 25 v0 rfl rfl) t0 (hwt 0 25 d0 rfl rfl)
 obtain ⟨c1, rfl⟩ := open_cone (hval 1 27 v1 rfl rfl) t1
 obtain ⟨ha2, hc2, hs2, rfl, hh2, hl2⟩ := open_nums (hval 2 28 v2 rfl rfl) t2 (hwt 2 28 d2 rfl rfl)
 obtain ⟨ha3, hc3, hs3, rfl, hh3, hl3⟩ := open_stands (hval 3 41 v3 rfl rfl) t3 (hwt 3 41 d3 rfl rfl)
 obtain ⟨n4, rfl, _, _, _⟩ := open_int Tryz.underlying3 (hval 4 3 v4 rfl rfl) t4
 obtain ⟨ha5, hc5, hs5, rfl, hh5, hl5⟩ := open_nums (hval 5 28 v5 rfl rfl) t5 (hwt 5 28 d5 rfl rfl)
 refine root_runs (SpL_run s0 pp0 c1 ha2 hc2 hs2 ha3 hc3 hs3 n4 ha5 hc5 hs5 (startL W) hh0 hh2 hh3 hh5 (gl_of_laid hL) hl5 fun v L' w hq hsub hsame => ?_)
 obtain ⟨rfl, hd⟩ := hq
 have hb := below_of hd hsub hsame
 simp only [List.append_nil] at hW' hlt hA6
 refine ⟨_, _, _, [], p0 ++ (p1 ++ (p2 ++ (p3 ++ (p4 ++ p5)))), [], hW', ?_, ?_, rfl, hb.frame _, fun h => by cases h⟩
 ·exact trodAll_mk1 (shut_bool Tryz.underlying4 true)
 ·have hts : ∀ t ∈ ([25, 27, 28, 41, 3, 28] : List TypeId), Tryz.prog.readableRec t = true ∧ t < Tryz.prog.types.size := fun t ht => by
   simp only [List.mem_cons, List.not_mem_nil, or_false] at ht
   rcases ht with rfl | rfl | rfl | rfl | rfl | rfl
   ·exact ⟨by kernel_rfl, by rw [nTy]; decide⟩
   ·exact ⟨by kernel_rfl, by rw [nTy]; decide⟩
   ·exact ⟨by kernel_rfl, by rw [nTy]; decide⟩
   ·exact ⟨by kernel_rfl, by rw [nTy]; decide⟩
   ·exact ⟨by kernel_rfl, by rw [nTy]; decide⟩
   ·exact ⟨by kernel_rfl, by rw [nTy]; decide⟩
  have hfin := all_stays (ts := [25, 27, 28, 41, 3, 28]) laidOutT hts hA6 hb hlt
  exact hfin
end Go.Proofs.YtnhckcgdmolgcaaGreatDoor


set_option maxRecDepth 100000
namespace Go.Proofs.YtnhckcgdmolgcaaGreatDoor
open Go.Mz Go.Conc Go.ConcN Go.Proofs Go.ChangeShapes Go.WideShapes Go.RowKit
theorem sf15_10 : (Rows.stovePlansRow.inPlace == Tryz.prog.inPlace 15) = true := by kernel_rfl
theorem sf15_11 : (Rows.stovePlansRow.unfollowed == Tryz.prog.unfollowed 15) = true := by kernel_rfl
theorem sf15_12 : (Rows.stovePlansRow.recurses == Tryz.prog.recurses 15) = true := by kernel_rfl
theorem sf15_13 : (Rows.stovePlansRow.named == Tryz.prog.varsNamed 15) = true := by kernel_rfl
theorem sf15_lift : Tryz.prog.liftsFinal = Rows.stovePlansRow.lifted := stLifts
theorem sf15_closed : joinedFacts Tryz.prog 15 Tryz.f15 Rows.stovePlansSpec Rows.stovePlansRow = true := by
 unfold joinedFacts
 rw [sf15_10, sf15_11, sf15_12, sf15_13, stStops, stKnobs, stLaid, stRowed, stPlain, stHeard, stEnter, sf15_lift]
 kernel_rfl
theorem stovePlans_row : Rows.StovePlansSaid :=
 OpenClaim.holds_of_wide_leaving 15 Tryz.f15 rfl rfl rfl rfl rfl rfl rfl ⟨rfl, rfl, rfl, rfl, rfl⟩ rfl rfl rfl rfl rfl (by kernel_rfl) Tryz.func15 sf15_closed
  (of_decide_eq_true (by kernel_rfl)) (by unfold Func.isWrapper; first | (rw [if_pos (by decide +kernel)]; kernel_rfl) | (rw [if_neg (by decide +kernel)]; exact ⟨rfl, rfl⟩))
  (fun os started H enc _ => stovePlans_lifted os started H enc)
end Go.Proofs.YtnhckcgdmolgcaaGreatDoor


set_option maxRecDepth 100000
namespace Go.Proofs.YtnhckcgdmolgcaaGreatDoor
open Go.Mz Go.Conc Go.ConcN Go.Proofs
theorem stovePlans_card : Rows.StovePlansCardSaid :=
 goes_card stovePlans_row (by kernel_rfl) stovePlans_row_tie rfl ⟨rfl, rfl⟩
  (fun f fn hf hfn => by
   obtain rfl : f = 15 := Option.some.inj ((show Tryz.prog.funcNamed "muscovado/muscovadolaw10.StovePlans" = some 15 by kernel_rfl).symm.trans hf) |>.symm
   obtain rfl : fn = Tryz.f15 := (Option.some.inj (Tryz.func15.symm.trans hfn)).symm
   refine ⟨by kernel_rfl, fun j t ht => ?_⟩
   rw [Tryz.params15] at ht
   have h3 := List.mem_of_getElem? (l := [25, 27, 28, 41, 3, 28]) (i := j) (a := t) (by simpa using ht)
   simp only [List.mem_cons, List.not_mem_nil, or_false] at h3
   rcases h3 with e | e | e | e | e | e
   ·rw [e]; exact (show Tryz.prog.wantsStandIn 25 = false by kernel_rfl)
   ·rw [e]; exact (show Tryz.prog.wantsStandIn 27 = false by kernel_rfl)
   ·rw [e]; exact (show Tryz.prog.wantsStandIn 28 = false by kernel_rfl)
   ·rw [e]; exact (show Tryz.prog.wantsStandIn 41 = false by kernel_rfl)
   ·rw [e]; exact (show Tryz.prog.wantsStandIn 3 = false by kernel_rfl)
   ·rw [e]; exact (show Tryz.prog.wantsStandIn 28 = false by kernel_rfl))
  (by kernel_rfl)
#print axioms stovePlans_card
end Go.Proofs.YtnhckcgdmolgcaaGreatDoor

