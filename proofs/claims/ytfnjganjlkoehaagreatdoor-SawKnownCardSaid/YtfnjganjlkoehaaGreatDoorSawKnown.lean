/- The examples of the chapter have their results in Check, Slices, Right, Left, Crush, Fewest, Best, Refused, Verdict, Worth, Need, Kerf and Add of the program; it takes no argument, so there is no condition at all. -/
import Derived.Test.YtfnjganjlkoehaaGreatDoorMzLc
import Derived.Test.YtfnjganjlkoehaaGreatDoorMzRd
import Derived.Test.YtfnjganjlkoehaaGreatDoorMzSaa
import Derived.Test.YtfnjganjlkoehaaGreatDoorMzSba
import Derived.SevenTiedAt
set_option maxRecDepth 100000
namespace Go.Proofs.YtfnjganjlkoehaaGreatDoor
open Go.Mz Go.Conc Go.ConcN Go.Proofs Go.ChangeShapes Go.WideShapes Go.RowKit
theorem sawKnown_lifted (os : Os) (started : os.Started) (H : Type) (enc : TypeId × Value → H) :
  ReturnsInLeavingWide {} Tryz.checked os 19 .any (fun w args => (Rows.sawKnownSpec.pre enc Tryz.prog Tryz.f19 [] false w args ∧ laidMetH Tryz.prog laidT w) ∧ sizedMet enc Tryz.prog Tryz.f19 (OpenSpec.ofChange Rows.sawKnownSpec) false w args)
   (Rows.sawKnownSpec.post enc Tryz.prog Tryz.f19 false true false false) := by
 refine returns_leaving (C := Tryz.checked) (X := fun w _ => laidMetH Tryz.prog laidT w) (fun _ _ _ hh h => h.of_heap hh) ownT started Tryz.func19
  (ChangeSpec.witness_at (enc := enc) (C := Tryz.checked) (os := os) (X := fun w _ => laidMetH Tryz.prog laidT w) false (laidW os) #[] 8 rfl (by kernel_rfl) (by kernel_rfl) (by kernel_rfl) (by kernel_rfl) (by kernel_rfl) (laidW_met os _)) ?_
 intro W base args ds gs before hval0 hW hsz0 hL
 have hval : ∀ (j : Nat) t v, Tryz.f19.params[j]? = some t → args[j]? = some v → Value.okWide Tryz.prog W .any base t v := hval0
 have hW' := hW
 have hlt : ∀ x ∈ before, x.block < W.heap.size := fun x hx => by simpa using hW'.lt x hx
 obtain ⟨p, q, hA0, hV0, rfl, hfz, hnd⟩ := hW
 have hA : DataW.TrodAll enc Tryz.prog W 0 (fun _ => true) true Tryz.f19.params.toList args.toList ds p := hA0
 have hV : DataW.TrodVars enc Tryz.prog W (fun _ => true) [] gs q := hV0
 obtain ⟨rfl, rfl⟩ : gs = [] ∧ q = [] := by
  cases gs with
  | nil => exact ⟨rfl, hV⟩
  | cons g r => exact absurd hV (by intro h; cases h)
 have hsz : (DataW.weightsEach Tryz.prog ([] ++ []) (ds ++ [])).all (· ≤ reachBytes) = true := by
  have := hsz0
  exact this
 rw [Tryz.params19] at hA hval
 have hA6 := hA
 rw [List.append_nil, List.append_nil] at hsz
 obtain ⟨hargs, rfl, rfl⟩ := trodAll_nil hA
 obtain rfl : args = #[] := Array.toList_inj.1 hargs
 refine root_runs (KnF_run  (startL W)  (gl_of_laid hL)  fun v L' w hq hsub hsame => ?_)
 obtain ⟨rfl, hd⟩ := hq
 have hb := below_of hd hsub hsame
 refine ⟨_, _, _, [], [], [], hW', ?_, ?_, rfl, hb.frame _, fun h => by cases h⟩
 ·exact trodAll_mk1 (shut_bool Tryz.underlying4 true)
 ·have hts : ∀ t ∈ ([] : List TypeId), Tryz.prog.readableRec t = true ∧ t < Tryz.prog.types.size := fun t ht => by cases ht
  have hfin := all_stays (ts := []) laidOutT hts hA6 hb hlt
  exact hfin
end Go.Proofs.YtfnjganjlkoehaaGreatDoor


set_option maxRecDepth 100000
namespace Go.Proofs.YtfnjganjlkoehaaGreatDoor
open Go.Mz Go.Conc Go.ConcN Go.Proofs Go.ChangeShapes Go.WideShapes Go.RowKit
theorem sf19_10 : (Rows.sawKnownRow.inPlace == Tryz.prog.inPlace 19) = true := by kernel_rfl
theorem sf19_11 : (Rows.sawKnownRow.unfollowed == Tryz.prog.unfollowed 19) = true := by kernel_rfl
theorem sf19_12 : (Rows.sawKnownRow.recurses == Tryz.prog.recurses 19) = true := by kernel_rfl
theorem sf19_13 : (Rows.sawKnownRow.named == Tryz.prog.varsNamed 19) = true := by kernel_rfl
theorem sf19_lift : Tryz.prog.liftsFinal = Rows.sawKnownRow.lifted := stLifts
theorem sf19_closed : joinedFacts Tryz.prog 19 Tryz.f19 Rows.sawKnownSpec Rows.sawKnownRow = true := by
 unfold joinedFacts
 rw [sf19_10, sf19_11, sf19_12, sf19_13, stStops, stKnobs, stLaid, stRowed, stPlain, stHeard, stEnter, sf19_lift]
 kernel_rfl
theorem sawKnown_row : Rows.SawKnownSaid :=
 OpenClaim.holds_of_wide_leaving 19 Tryz.f19 rfl rfl rfl rfl rfl rfl rfl ⟨rfl, rfl, rfl, rfl, rfl⟩ rfl rfl rfl rfl rfl (by kernel_rfl) Tryz.func19 sf19_closed
  (of_decide_eq_true (by kernel_rfl)) (by unfold Func.isWrapper; first | (rw [if_pos (by decide +kernel)]; kernel_rfl) | (rw [if_neg (by decide +kernel)]; exact ⟨rfl, rfl⟩))
  (fun os started H enc _ => sawKnown_lifted os started H enc)
end Go.Proofs.YtfnjganjlkoehaaGreatDoor


set_option maxRecDepth 100000
namespace Go.Proofs.YtfnjganjlkoehaaGreatDoor
open Go.Mz Go.Conc Go.ConcN Go.Proofs
theorem sawKnown_card : Rows.SawKnownCardSaid :=
 goes_card sawKnown_row (by kernel_rfl) sawKnown_row_tie rfl ⟨rfl, rfl⟩
  (fun f fn hf hfn => by
   obtain rfl : f = 19 := Option.some.inj ((show Tryz.prog.funcNamed "muscovado/muscovadolaw08.SawKnown" = some 19 by kernel_rfl).symm.trans hf) |>.symm
   obtain rfl : fn = Tryz.f19 := (Option.some.inj (Tryz.func19.symm.trans hfn)).symm
   refine ⟨by kernel_rfl, fun j t ht => ?_⟩
   rw [Tryz.params19] at ht
   simp at ht)
  (by kernel_rfl)
#print axioms sawKnown_card
end Go.Proofs.YtfnjganjlkoehaaGreatDoor

