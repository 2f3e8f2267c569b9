/- For every saw, want, kind and list of numbers, Need, Kerf and Add of the program answer as the document, and change nothing; no condition beside the given bounds. -/
import Derived.Test.YtfnjganjlkoehaaGreatDoorMzLc
import Derived.Test.YtfnjganjlkoehaaGreatDoorMzRd
import Derived.Test.YtfnjganjlkoehaaGreatDoorMzSaa
import Derived.Test.YtfnjganjlkoehaaGreatDoorMzSba
import Derived.SevenTiedAt
set_option maxRecDepth 100000
namespace Go.Proofs.YtfnjganjlkoehaaGreatDoor
open Go.Mz Go.Conc Go.ConcN Go.Proofs Go.ChangeShapes Go.WideShapes Go.RowKit
theorem sawNeeds_lifted (os : Os) (started : os.Started) (H : Type) (enc : TypeId × Value → H) :
  ReturnsInLeavingWide {} Tryz.checked os 18 .any (fun w args => (Rows.sawNeedsSpec.pre enc Tryz.prog Tryz.f18 [] false w args ∧ laidMetH Tryz.prog laidT w) ∧ sizedMet enc Tryz.prog Tryz.f18 (OpenSpec.ofChange Rows.sawNeedsSpec) false w args)
   (Rows.sawNeedsSpec.post enc Tryz.prog Tryz.f18 false true false false) := by
 refine returns_leaving (C := Tryz.checked) (X := fun w _ => laidMetH Tryz.prog laidT w) (fun _ _ _ hh h => h.of_heap hh) ownT started Tryz.func18
  (ChangeSpec.witness_at (enc := enc) (C := Tryz.checked) (os := os) (X := fun w _ => laidMetH Tryz.prog laidT w) false (laidW os) #[.agg #[.slice none 0 0, .slice none 0 0, .int .i64 0, .slice none 0 0], .agg #[.int .i64 0, .int .i64 0, .int .i64 0, .int .i64 0], .int .i64 0, .slice none 0 0] 8 rfl (by kernel_rfl) (by kernel_rfl) (by kernel_rfl) (by kernel_rfl) (by kernel_rfl) (laidW_met os _)) ?_
 intro W base args ds gs before hval0 hW hsz0 hL
 have hval : ∀ (j : Nat) t v, Tryz.f18.params[j]? = some t → args[j]? = some v → Value.okWide Tryz.prog W .any base t v := hval0
 have hW' := hW
 have hlt : ∀ x ∈ before, x.block < W.heap.size := fun x hx => by simpa using hW'.lt x hx
 obtain ⟨p, q, hA0, hV0, rfl, hfz, hnd⟩ := hW
 have hA : DataW.TrodAll enc Tryz.prog W 0 (fun _ => true) true Tryz.f18.params.toList args.toList ds p := hA0
 have hV : DataW.TrodVars enc Tryz.prog W (fun _ => true) [] gs q := hV0
 obtain ⟨rfl, rfl⟩ : gs = [] ∧ q = [] := by
  cases gs with
  | nil => exact ⟨rfl, hV⟩
  | cons g r => exact absurd hV (by intro h; cases h)
 have hsz : (DataW.weightsEach Tryz.prog ([26, 28, 3, 23] ++ []) (ds ++ [])).all (· ≤ reachBytes) = true := by
  have := hsz0
  exact this
 rw [Tryz.params18] at hA hval
 have hA6 := hA
 rw [List.append_nil, List.append_nil] at hsz
 obtain ⟨v0, vs, d0, ds0, p0, q0, hargs, rfl, rfl, t0, hA⟩ := trodAll_cons hA
 obtain ⟨v1, vs1, d1, ds1, p1, q1, rfl, rfl, rfl, t1, hA⟩ := trodAll_cons hA
 obtain ⟨v2, vs2, d2, ds2, p2, q2, rfl, rfl, rfl, t2, hA⟩ := trodAll_cons hA
 obtain ⟨v3, vs3, d3, ds3, p3, q3, rfl, rfl, rfl, t3, hA⟩ := trodAll_cons hA
 obtain ⟨rfl, rfl, rfl⟩ := trodAll_nil hA
 obtain rfl : args = #[v0, v1, v2, v3] := Array.toList_inj.1 hargs
 have hwt : ∀ (j : Nat) t d, ([26, 28, 3, 23] : List TypeId)[j]? = some t → [d0, d1, d2, d3][j]? = some d → ∀ m ∈ d.weights Tryz.prog t, m ≤ reachBytes := fun j t d ht hd m hm => by
  have := List.all_eq_true.1 hsz m (weights_mem ht hd m hm)
  simpa using this
 obtain ⟨s0, pp0, rfl, hh0⟩ := open_saw (hval 0 26 v0 rfl rfl) t0
 obtain ⟨c1, rfl⟩ := open_want (hval 1 28 v1 rfl rfl) t1
 obtain ⟨n2, rfl, _, _, _⟩ := open_int Tryz.underlying3 (hval 2 3 v2 rfl rfl) t2
 obtain ⟨ha3, hc3, hs3, rfl, hh3, hl3⟩ := open_nums (hval 3 23 v3 rfl rfl) t3 (hwt 3 23 d3 rfl rfl)
 refine root_runs (NsF_run s0 pp0 c1 n2 ha3 hc3 hs3 (startL W) hh0 hh3 (gl_of_laid hL) hl3 fun v L' w hq hsub hsame => ?_)
 obtain ⟨rfl, hd⟩ := hq
 have hb := below_of hd hsub hsame
 simp only [List.append_nil] at hW' hlt hA6
 refine ⟨_, _, _, [], p0 ++ (p1 ++ (p2 ++ p3)), [], hW', ?_, ?_, rfl, hb.frame _, fun h => by cases h⟩
 ·exact trodAll_mk1 (shut_bool Tryz.underlying4 true)
 ·have hts : ∀ t ∈ ([26, 28, 3, 23] : List TypeId), Tryz.prog.readableRec t = true ∧ t < Tryz.prog.types.size := fun t ht => by
   simp only [List.mem_cons, List.not_mem_nil, or_false] at ht
   rcases ht with rfl | rfl | rfl | rfl
   ·exact ⟨by kernel_rfl, by rw [nTy]; decide⟩
   ·exact ⟨by kernel_rfl, by rw [nTy]; decide⟩
   ·exact ⟨by kernel_rfl, by rw [nTy]; decide⟩
   ·exact ⟨by kernel_rfl, by rw [nTy]; decide⟩
  have hfin := all_stays (ts := [26, 28, 3, 23]) laidOutT hts hA6 hb hlt
  exact hfin
end Go.Proofs.YtfnjganjlkoehaaGreatDoor


set_option maxRecDepth 100000
namespace Go.Proofs.YtfnjganjlkoehaaGreatDoor
open Go.Mz Go.Conc Go.ConcN Go.Proofs Go.ChangeShapes Go.WideShapes Go.RowKit
theorem sf18_10 : (Rows.sawNeedsRow.inPlace == Tryz.prog.inPlace 18) = true := by kernel_rfl
theorem sf18_11 : (Rows.sawNeedsRow.unfollowed == Tryz.prog.unfollowed 18) = true := by kernel_rfl
theorem sf18_12 : (Rows.sawNeedsRow.recurses == Tryz.prog.recurses 18) = true := by kernel_rfl
theorem sf18_13 : (Rows.sawNeedsRow.named == Tryz.prog.varsNamed 18) = true := by kernel_rfl
theorem sf18_lift : Tryz.prog.liftsFinal = Rows.sawNeedsRow.lifted := stLifts
theorem sf18_closed : joinedFacts Tryz.prog 18 Tryz.f18 Rows.sawNeedsSpec Rows.sawNeedsRow = true := by
 unfold joinedFacts
 rw [sf18_10, sf18_11, sf18_12, sf18_13, stStops, stKnobs, stLaid, stRowed, stPlain, stHeard, stEnter, sf18_lift]
 kernel_rfl
theorem sawNeeds_row : Rows.SawNeedsSaid :=
 OpenClaim.holds_of_wide_leaving 18 Tryz.f18 rfl rfl rfl rfl rfl rfl rfl ⟨rfl, rfl, rfl, rfl, rfl⟩ rfl rfl rfl rfl rfl (by kernel_rfl) Tryz.func18 sf18_closed
  (of_decide_eq_true (by kernel_rfl)) (by unfold Func.isWrapper; first | (rw [if_pos (by decide +kernel)]; kernel_rfl) | (rw [if_neg (by decide +kernel)]; exact ⟨rfl, rfl⟩))
  (fun os started H enc _ => sawNeeds_lifted os started H enc)
end Go.Proofs.YtfnjganjlkoehaaGreatDoor


set_option maxRecDepth 100000
namespace Go.Proofs.YtfnjganjlkoehaaGreatDoor
open Go.Mz Go.Conc Go.ConcN Go.Proofs
theorem sawNeeds_card : Rows.SawNeedsCardSaid :=
 goes_card sawNeeds_row (by kernel_rfl) sawNeeds_row_tie rfl ⟨rfl, rfl⟩
  (fun f fn hf hfn => by
   obtain rfl : f = 18 := Option.some.inj ((show Tryz.prog.funcNamed "muscovado/muscovadolaw08.SawNeeds" = some 18 by kernel_rfl).symm.trans hf) |>.symm
   obtain rfl : fn = Tryz.f18 := (Option.some.inj (Tryz.func18.symm.trans hfn)).symm
   refine ⟨by kernel_rfl, fun j t ht => ?_⟩
   rw [Tryz.params18] at ht
   have h3 := List.mem_of_getElem? (l := [26, 28, 3, 23]) (i := j) (a := t) (by simpa using ht)
   simp only [List.mem_cons, List.not_mem_nil, or_false] at h3
   rcases h3 with e | e | e | e
   ·rw [e]; exact (show Tryz.prog.wantsStandIn 26 = false by kernel_rfl)
   ·rw [e]; exact (show Tryz.prog.wantsStandIn 28 = false by kernel_rfl)
   ·rw [e]; exact (show Tryz.prog.wantsStandIn 3 = false by kernel_rfl)
   ·rw [e]; exact (show Tryz.prog.wantsStandIn 23 = false by kernel_rfl))
  (by kernel_rfl)
#print axioms sawNeeds_card
end Go.Proofs.YtfnjganjlkoehaaGreatDoor

