/- For every list of numbers, a saw whose kinds have other numbers pays the same at best, and needs as few cones or as surely cannot be served, and the example of the chapter has its result; no condition beside the given bounds. -/
import Derived.Test.YtfnjganjlkoehaaGreatDoorMzLb
import Derived.Test.YtfnjganjlkoehaaGreatDoorMzRd
import Derived.Test.YtfnjganjlkoehaaGreatDoorMzSaa
import Derived.Test.YtfnjganjlkoehaaGreatDoorMzSba
import Derived.SevenTiedAt
set_option maxRecDepth 100000
namespace Go.Proofs.YtfnjganjlkoehaaGreatDoor
open Go.Mz Go.Conc Go.ConcN Go.Proofs Go.ChangeShapes Go.WideShapes Go.RowKit
theorem sawNumbered_lifted (os : Os) (started : os.Started) (H : Type) (enc : TypeId × Value → H) :
  ReturnsInLeavingWide {} Tryz.checked os 11 .any (fun w args => (Rows.sawNumberedSpec.pre enc Tryz.prog Tryz.f11 [] false w args ∧ laidMetH Tryz.prog laidT w) ∧ sizedMet enc Tryz.prog Tryz.f11 (OpenSpec.ofChange Rows.sawNumberedSpec) false w args)
   (Rows.sawNumberedSpec.post enc Tryz.prog Tryz.f11 false true false false) := by
 refine returns_leaving (C := Tryz.checked) (X := fun w _ => laidMetH Tryz.prog laidT w) (fun _ _ _ hh h => h.of_heap hh) ownT started Tryz.func11
  (ChangeSpec.witness_at (enc := enc) (C := Tryz.checked) (os := os) (X := fun w _ => laidMetH Tryz.prog laidT w) false (laidW os) #[.slice none 0 0] 8 rfl (by kernel_rfl) (by kernel_rfl) (by kernel_rfl) (by kernel_rfl) (by kernel_rfl) (laidW_met os _)) ?_
 intro W base args ds gs before hval0 hW hsz0 hL
 have hval : ∀ (j : Nat) t v, Tryz.f11.params[j]? = some t → args[j]? = some v → Value.okWide Tryz.prog W .any base t v := hval0
 have hW' := hW
 have hlt : ∀ x ∈ before, x.block < W.heap.size := fun x hx => by simpa using hW'.lt x hx
 obtain ⟨p, q, hA0, hV0, rfl, hfz, hnd⟩ := hW
 have hA : DataW.TrodAll enc Tryz.prog W 0 (fun _ => true) true Tryz.f11.params.toList args.toList ds p := hA0
 have hV : DataW.TrodVars enc Tryz.prog W (fun _ => true) [] gs q := hV0
 obtain ⟨rfl, rfl⟩ : gs = [] ∧ q = [] := by
  cases gs with
  | nil => exact ⟨rfl, hV⟩
  | cons g r => exact absurd hV (by intro h; cases h)
 have hsz : (DataW.weightsEach Tryz.prog ([23] ++ []) (ds ++ [])).all (· ≤ reachBytes) = true := by
  have := hsz0
  exact this
 rw [Tryz.params11] at hA hval
 have hA6 := hA
 rw [List.append_nil, List.append_nil] at hsz
 obtain ⟨v0, vs, d0, ds0, p0, q0, hargs, rfl, rfl, t0, hA⟩ := trodAll_cons hA
 obtain ⟨rfl, rfl, rfl⟩ := trodAll_nil hA
 obtain rfl : args = #[v0] := Array.toList_inj.1 hargs
 have hwt : ∀ (j : Nat) t d, ([23] : List TypeId)[j]? = some t → [d0][j]? = some d → ∀ m ∈ d.weights Tryz.prog t, m ≤ reachBytes := fun j t d ht hd m hm => by
  have := List.all_eq_true.1 hsz m (weights_mem ht hd m hm)
  simpa using this
 obtain ⟨ha0, hc0, hs0, rfl, hh0, hl0⟩ := open_nums (hval 0 23 v0 rfl rfl) t0 (hwt 0 23 d0 rfl rfl)
 refine root_runs (NmF_run ha0 hc0 hs0 (startL W) hh0 (gl_of_laid hL) hl0 fun v L' w hq hsub hsame => ?_)
 obtain ⟨rfl, hd⟩ := hq
 have hb := below_of hd hsub hsame
 simp only [List.append_nil] at hW' hlt hA6
 refine ⟨_, _, _, [], p0, [], hW', ?_, ?_, rfl, hb.frame _, fun h => by cases h⟩
 ·exact trodAll_mk1 (shut_bool Tryz.underlying4 true)
 ·have hts : ∀ t ∈ ([23] : List TypeId), Tryz.prog.readableRec t = true ∧ t < Tryz.prog.types.size := fun t ht => by
   simp only [List.mem_cons, List.not_mem_nil, or_false] at ht
   rcases ht with rfl
   exact ⟨by kernel_rfl, by rw [nTy]; decide⟩
  have hfin := all_stays (ts := [23]) laidOutT hts hA6 hb hlt
  exact hfin
end Go.Proofs.YtfnjganjlkoehaaGreatDoor


set_option maxRecDepth 100000
namespace Go.Proofs.YtfnjganjlkoehaaGreatDoor
open Go.Mz Go.Conc Go.ConcN Go.Proofs Go.ChangeShapes Go.WideShapes Go.RowKit
theorem sf11_10 : (Rows.sawNumberedRow.inPlace == Tryz.prog.inPlace 11) = true := by kernel_rfl
theorem sf11_11 : (Rows.sawNumberedRow.unfollowed == Tryz.prog.unfollowed 11) = true := by kernel_rfl
theorem sf11_12 : (Rows.sawNumberedRow.recurses == Tryz.prog.recurses 11) = true := by kernel_rfl
theorem sf11_13 : (Rows.sawNumberedRow.named == Tryz.prog.varsNamed 11) = true := by kernel_rfl
theorem sf11_lift : Tryz.prog.liftsFinal = Rows.sawNumberedRow.lifted := stLifts
theorem sf11_closed : joinedFacts Tryz.prog 11 Tryz.f11 Rows.sawNumberedSpec Rows.sawNumberedRow = true := by
 unfold joinedFacts
 rw [sf11_10, sf11_11, sf11_12, sf11_13, stStops, stKnobs, stLaid, stRowed, stPlain, stHeard, stEnter, sf11_lift]
 kernel_rfl
theorem sawNumbered_row : Rows.SawNumberedSaid :=
 OpenClaim.holds_of_wide_leaving 11 Tryz.f11 rfl rfl rfl rfl rfl rfl rfl ⟨rfl, rfl, rfl, rfl, rfl⟩ rfl rfl rfl rfl rfl (by kernel_rfl) Tryz.func11 sf11_closed
  (of_decide_eq_true (by kernel_rfl)) (by unfold Func.isWrapper; first | (rw [if_pos (by decide +kernel)]; kernel_rfl) | (rw [if_neg (by decide +kernel)]; exact ⟨rfl, rfl⟩))
  (fun os started H enc _ => sawNumbered_lifted os started H enc)
end Go.Proofs.YtfnjganjlkoehaaGreatDoor


set_option maxRecDepth 100000
namespace Go.Proofs.YtfnjganjlkoehaaGreatDoor
open Go.Mz Go.Conc Go.ConcN Go.Proofs
theorem sawNumbered_card : Rows.SawNumberedCardSaid :=
 goes_card sawNumbered_row (by kernel_rfl) sawNumbered_row_tie rfl ⟨rfl, rfl⟩
  (fun f fn hf hfn => by
   obtain rfl : f = 11 := Option.some.inj ((show Tryz.prog.funcNamed "muscovado/muscovadolaw08.SawNumbered" = some 11 by kernel_rfl).symm.trans hf) |>.symm
   obtain rfl : fn = Tryz.f11 := (Option.some.inj (Tryz.func11.symm.trans hfn)).symm
   refine ⟨by kernel_rfl, fun j t ht => ?_⟩
   rw [Tryz.params11] at ht
   have h3 := List.mem_of_getElem? (l := [23]) (i := j) (a := t) (by simpa using ht)
   simp only [List.mem_cons, List.not_mem_nil, or_false] at h3
   obtain rfl : t = 23 := h3
   exact (show Tryz.prog.wantsStandIn 23 = false by kernel_rfl))
  (by kernel_rfl)
#print axioms sawNumbered_card
end Go.Proofs.YtfnjganjlkoehaaGreatDoor

