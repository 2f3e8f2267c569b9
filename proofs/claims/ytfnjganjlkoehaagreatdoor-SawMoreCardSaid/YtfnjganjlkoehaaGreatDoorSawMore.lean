/- For every list of numbers, no less is paid by a saw of which one more loaf is in stock, of one whose cut is narrower or as wide, nor of one a want of which pays more or as much, and the example of the chapter has its result; no condition beside the given bounds. -/
import Derived.Test.YtfnjganjlkoehaaGreatDoorMzLb
import Derived.Test.YtfnjganjlkoehaaGreatDoorMzRd
import Derived.Test.YtfnjganjlkoehaaGreatDoorMzSaa
import Derived.Test.YtfnjganjlkoehaaGreatDoorMzSba
import Derived.SevenTiedAt
set_option maxRecDepth 100000
namespace Go.Proofs.YtfnjganjlkoehaaGreatDoor
open Go.Mz Go.Conc Go.ConcN Go.Proofs Go.ChangeShapes Go.WideShapes Go.RowKit
theorem sawMore_lifted (os : Os) (started : os.Started) (H : Type) (enc : TypeId × Value → H) :
  ReturnsInLeavingWide {} Tryz.checked os 8 .any (fun w args => (Rows.sawMoreSpec.pre enc Tryz.prog Tryz.f8 [] false w args ∧ laidMetH Tryz.prog laidT w) ∧ sizedMet enc Tryz.prog Tryz.f8 (OpenSpec.ofChange Rows.sawMoreSpec) false w args)
   (Rows.sawMoreSpec.post enc Tryz.prog Tryz.f8 false true false false) := by
 refine returns_leaving (C := Tryz.checked) (X := fun w _ => laidMetH Tryz.prog laidT w) (fun _ _ _ hh h => h.of_heap hh) ownT started Tryz.func8
  (ChangeSpec.witness_at (enc := enc) (C := Tryz.checked) (os := os) (X := fun w _ => laidMetH Tryz.prog laidT w) false (laidW os) #[.slice none 0 0] 8 rfl (by kernel_rfl) (by kernel_rfl) (by kernel_rfl) (by kernel_rfl) (by kernel_rfl) (laidW_met os _)) ?_
 intro W base args ds gs before hval0 hW hsz0 hL
 have hval : ∀ (j : Nat) t v, Tryz.f8.params[j]? = some t → args[j]? = some v → Value.okWide Tryz.prog W .any base t v := hval0
 have hW' := hW
 have hlt : ∀ x ∈ before, x.block < W.heap.size := fun x hx => by simpa using hW'.lt x hx
 obtain ⟨p, q, hA0, hV0, rfl, hfz, hnd⟩ := hW
 have hA : DataW.TrodAll enc Tryz.prog W 0 (fun _ => true) true Tryz.f8.params.toList args.toList ds p := hA0
 have hV : DataW.TrodVars enc Tryz.prog W (fun _ => true) [] gs q := hV0
 obtain ⟨rfl, rfl⟩ : gs = [] ∧ q = [] := by
  cases gs with
  | nil => exact ⟨rfl, hV⟩
  | cons g r => exact absurd hV (by intro h; cases h)
 have hsz : (DataW.weightsEach Tryz.prog ([23] ++ []) (ds ++ [])).all (· ≤ reachBytes) = true := by
  have := hsz0
  exact this
 rw [Tryz.params8] at hA hval
 have hA6 := hA
 rw [List.append_nil, List.append_nil] at hsz
 obtain ⟨v0, vs, d0, ds0, p0, q0, hargs, rfl, rfl, t0, hA⟩ := trodAll_cons hA
 obtain ⟨rfl, rfl, rfl⟩ := trodAll_nil hA
 obtain rfl : args = #[v0] := Array.toList_inj.1 hargs
 have hwt : ∀ (j : Nat) t d, ([23] : List TypeId)[j]? = some t → [d0][j]? = some d → ∀ m ∈ d.weights Tryz.prog t, m ≤ reachBytes := fun j t d ht hd m hm => by
  have := List.all_eq_true.1 hsz m (weights_mem ht hd m hm)
  simpa using this
 obtain ⟨ha0, hc0, hs0, rfl, hh0, hl0⟩ := open_nums (hval 0 23 v0 rfl rfl) t0 (hwt 0 23 d0 rfl rfl)
 refine root_runs (MoF_run ha0 hc0 hs0 (startL W) hh0 (gl_of_laid hL) hl0 fun v L' w hq hsub hsame => ?_)
 obtain ⟨rfl, hd⟩ := hq
 have hb := below_of hd hsub hsame
 simp only [List.append_nil] at hW' hlt hA6
 refine ⟨_, _, _, [], p0, [], hW', ?_, ?_, rfl, hb.frame _, fun h => by cases h⟩
 ·exact trodAll_mk1 (shut_bool Tryz.underlying4 true)
 ·have hts : ∀ t ∈ ([23] : List TypeId), Tryz.prog.readableRec t = true ∧ t < Tryz.prog.types.size := fun t ht => by
   simp only [List.mem_cons, List.not_mem_nil, or_false] at ht
   rcases ht with rfl
   exact ⟨by kernel_rfl, by rw [nTy]; decide⟩
  have hfin := all_stays (ts := [23]) laidOutT hts hA6 hb hlt
  exact hfin
end Go.Proofs.YtfnjganjlkoehaaGreatDoor


set_option maxRecDepth 100000
namespace Go.Proofs.YtfnjganjlkoehaaGreatDoor
open Go.Mz Go.Conc Go.ConcN Go.Proofs Go.ChangeShapes Go.WideShapes Go.RowKit
theorem sf8_10 : (Rows.sawMoreRow.inPlace == Tryz.prog.inPlace 8) = true := by kernel_rfl
theorem sf8_11 : (Rows.sawMoreRow.unfollowed == Tryz.prog.unfollowed 8) = true := by kernel_rfl
theorem sf8_12 : (Rows.sawMoreRow.recurses == Tryz.prog.recurses 8) = true := by kernel_rfl
theorem sf8_13 : (Rows.sawMoreRow.named == Tryz.prog.varsNamed 8) = true := by kernel_rfl
theorem sf8_lift : Tryz.prog.liftsFinal = Rows.sawMoreRow.lifted := stLifts
theorem sf8_closed : joinedFacts Tryz.prog 8 Tryz.f8 Rows.sawMoreSpec Rows.sawMoreRow = true := by
 unfold joinedFacts
 rw [sf8_10, sf8_11, sf8_12, sf8_13, stStops, stKnobs, stLaid, stRowed, stPlain, stHeard, stEnter, sf8_lift]
 kernel_rfl
theorem sawMore_row : Rows.SawMoreSaid :=
 OpenClaim.holds_of_wide_leaving 8 Tryz.f8 rfl rfl rfl rfl rfl rfl rfl ⟨rfl, rfl, rfl, rfl, rfl⟩ rfl rfl rfl rfl rfl (by kernel_rfl) Tryz.func8 sf8_closed
  (of_decide_eq_true (by kernel_rfl)) (by unfold Func.isWrapper; first | (rw [if_pos (by decide +kernel)]; kernel_rfl) | (rw [if_neg (by decide +kernel)]; exact ⟨rfl, rfl⟩))
  (fun os started H enc _ => sawMore_lifted os started H enc)
end Go.Proofs.YtfnjganjlkoehaaGreatDoor


set_option maxRecDepth 100000
namespace Go.Proofs.YtfnjganjlkoehaaGreatDoor
open Go.Mz Go.Conc Go.ConcN Go.Proofs
theorem sawMore_card : Rows.SawMoreCardSaid :=
 goes_card sawMore_row (by kernel_rfl) sawMore_row_tie rfl ⟨rfl, rfl⟩
  (fun f fn hf hfn => by
   obtain rfl : f = 8 := Option.some.inj ((show Tryz.prog.funcNamed "muscovado/muscovadolaw08.SawMore" = some 8 by kernel_rfl).symm.trans hf) |>.symm
   obtain rfl : fn = Tryz.f8 := (Option.some.inj (Tryz.func8.symm.trans hfn)).symm
   refine ⟨by kernel_rfl, fun j t ht => ?_⟩
   rw [Tryz.params8] at ht
   have h3 := List.mem_of_getElem? (l := [23]) (i := j) (a := t) (by simpa using ht)
   simp only [List.mem_cons, List.not_mem_nil, or_false] at h3
   obtain rfl : t = 23 := h3
   exact (show Tryz.prog.wantsStandIn 23 = false by kernel_rfl))
  (by kernel_rfl)
#print axioms sawMore_card
end Go.Proofs.YtfnjganjlkoehaaGreatDoor

