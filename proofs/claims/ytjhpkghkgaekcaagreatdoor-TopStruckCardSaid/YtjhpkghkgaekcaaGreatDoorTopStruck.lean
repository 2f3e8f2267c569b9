/- For every list of numbers, TopStruck of the program returns true and leaves the numbers as they were; conditions: a calm run and the laid tables that the row names, and of the outside only the clock may move on. -/
import Derived.Test.YtjhpkghkgaekcaaGreatDoorMzRe
import Derived.Test.YtjhpkghkgaekcaaGreatDoorMzSaa
import Derived.Test.YtjhpkghkgaekcaaGreatDoorMzSba
import Derived.SevenTiedAt
set_option maxRecDepth 100000
namespace Go.Proofs.YtjhpkghkgaekcaaGreatDoor
open Go.Mz Go.Conc Go.ConcN Go.Proofs Go.ChangeShapes Go.WideShapes Go.RowKit
theorem topStruck_lifted (os : Os) (started : os.Started) (H : Type) (enc : TypeId × Value → H) (F : Stop.Interp) :
  ReturnsInLeavingWide { calm := true } Tryz.checked os 3 .any (fun w args => (Rows.topStruckSpec.pre enc Tryz.prog Tryz.f3 [] false w args ∧ laidMetH Tryz.prog laidT w) ∧ sizedMet enc Tryz.prog Tryz.f3 (OpenSpec.ofChange Rows.topStruckSpec) false w args)
   ((OpenSpec.ofChange Rows.topStruckSpec).postWith enc Tryz.prog Tryz.f3 F (outsideKept [.timePasses]) false true false) := by
 refine returns_leaving (C := Tryz.checked) (X := fun w _ => laidMetH Tryz.prog laidT w) (fun _ _ _ hh h => h.of_heap hh) ownT started Tryz.func3
  (witness_calm (enc := enc) (C := Tryz.checked) (os := os) (X := fun w _ => laidMetH Tryz.prog laidT w) (laidW os) #[.slice none 0 0] 8 rfl (by kernel_rfl) (by kernel_rfl) (by kernel_rfl) (by kernel_rfl) (by kernel_rfl) (laidW_met os _)) ?_
 intro W base args ds gs before hval0 hW hsz0 hL
 have hval : ∀ (j : Nat) t v, Tryz.f3.params[j]? = some t → args[j]? = some v → Value.okWide Tryz.prog W .any base t v := hval0
 have hW' := hW
 have hlt : ∀ x ∈ before, x.block < W.heap.size := fun x hx => by simpa using hW'.lt x hx
 obtain ⟨p, q, hA0, hV0, rfl, hfz, hnd⟩ := hW
 have hA : DataW.TrodAll enc Tryz.prog W 0 (fun _ => true) true Tryz.f3.params.toList args.toList ds p := hA0
 have hV : DataW.TrodVars enc Tryz.prog W (fun _ => true) [] gs q := hV0
 obtain ⟨rfl, rfl⟩ : gs = [] ∧ q = [] := by
  cases gs with
  | nil => exact ⟨rfl, hV⟩
  | cons g r => exact absurd hV (by intro h; cases h)
 have hsz : (DataW.weightsEach Tryz.prog ([22] ++ []) (ds ++ [])).all (· ≤ reachBytes) = true := by
  have := hsz0
  exact this
 rw [Tryz.params3] at hA hval
 have hA6 := hA
 rw [List.append_nil, List.append_nil] at hsz
 obtain ⟨v0, vs, d0, ds0, p0, q0, hargs, rfl, rfl, t0, hA⟩ := trodAll_cons hA
 obtain ⟨rfl, rfl, rfl⟩ := trodAll_nil hA
 obtain rfl : args = #[v0] := Array.toList_inj.1 hargs
 have hwt : ∀ (j : Nat) t d, ([22] : List TypeId)[j]? = some t → [d0][j]? = some d → ∀ m ∈ d.weights Tryz.prog t, m ≤ reachBytes := fun j t d ht hd m hm => by
  have := List.all_eq_true.1 hsz m (weights_mem ht hd m hm)
  simpa using this
 obtain ⟨ha0, hc0, hs0, rfl, hh0, hl0⟩ := open_nums (hval 0 22 v0 rfl rfl) t0 (hwt 0 22 d0 rfl rfl)
 refine root_runs (Struck_run ha0 hc0 hs0 (startL W) (gl_of_laid hL) hh0 hl0 fun v L' w hq hsub hsame => ?_)
 obtain ⟨rfl, hd⟩ := hq
 have hb := below_of hd hsub hsame
 simp only [List.append_nil] at hW' hlt hA6
 refine ⟨⟨_, _, _, [], p0, [], hW', ?_, ?_, rfl, hb.frame _, fun h => by cases h⟩, hsame.os⟩
 ·exact trodAll_mk1 (shut_bool Tryz.underlying4 true)
 ·have hts : ∀ t ∈ ([22] : List TypeId), Tryz.prog.readableRec t = true ∧ t < Tryz.prog.types.size := fun t ht => by
   simp only [List.mem_cons, List.not_mem_nil, or_false] at ht
   rcases ht with rfl
   exact ⟨by kernel_rfl, by rw [nTy]; decide⟩
  have hfin := all_stays (ts := [22]) laidOutT hts hA6 hb hlt
  exact hfin
end Go.Proofs.YtjhpkghkgaekcaaGreatDoor


set_option maxRecDepth 100000
namespace Go.Proofs.YtjhpkghkgaekcaaGreatDoor
open Go.Mz Go.Conc Go.ConcN Go.Proofs Go.ChangeShapes Go.WideShapes Go.RowKit
theorem sf3_10 : (Rows.topStruckRow.inPlace == Tryz.prog.inPlace 3) = true := by kernel_rfl
theorem sf3_11 : (Rows.topStruckRow.unfollowed == Tryz.prog.unfollowed 3) = true := by kernel_rfl
theorem sf3_12 : (Rows.topStruckRow.recurses == Tryz.prog.recurses 3) = true := by kernel_rfl
theorem sf3_13 : (Rows.topStruckRow.named == Tryz.prog.varsNamed 3) = true := by kernel_rfl
theorem sf3_lift : Tryz.prog.liftsFinal = Rows.topStruckRow.lifted := stLifts
theorem sf3_closed : joinedFacts Tryz.prog 3 Tryz.f3 Rows.topStruckSpec Rows.topStruckRow = true := by
 unfold joinedFacts
 rw [sf3_10, sf3_11, sf3_12, sf3_13, stStops, stKnobs, stLaid, stRowed, stPlain, stHeard, stEnter, sf3_lift]
 kernel_rfl
theorem topStruck_row : Rows.TopStruckSaid :=
 OpenClaim.holds_of_wide_leaving_time 3 Tryz.f3 rfl rfl rfl rfl rfl rfl rfl ⟨rfl, rfl, rfl, rfl, rfl⟩ rfl rfl rfl rfl rfl (by kernel_rfl) Tryz.func3 sf3_closed
  (of_decide_eq_true (by kernel_rfl)) (by unfold Func.isWrapper; first | (rw [if_pos (by decide +kernel)]; kernel_rfl) | (rw [if_neg (by decide +kernel)]; exact ⟨rfl, rfl⟩))
  (fun os started H enc _ F => topStruck_lifted os started H enc F)
end Go.Proofs.YtjhpkghkgaekcaaGreatDoor


set_option maxRecDepth 100000
namespace Go.Proofs.YtjhpkghkgaekcaaGreatDoor
open Go.Mz Go.Conc Go.ConcN Go.Proofs
theorem topStruck_card : Rows.TopStruckCardSaid :=
 goes_card topStruck_row (by kernel_rfl) topStruck_row_tie rfl ⟨rfl, rfl⟩
  (fun f fn hf hfn => by
   obtain rfl : f = 3 := Option.some.inj ((show Tryz.prog.funcNamed "muscovado/muscovadotop.TopStruck" = some 3 by kernel_rfl).symm.trans hf) |>.symm
   obtain rfl : fn = Tryz.f3 := (Option.some.inj (Tryz.func3.symm.trans hfn)).symm
   refine ⟨by kernel_rfl, fun j t ht => ?_⟩
   rw [Tryz.params3] at ht
   have h3 := List.mem_of_getElem? (l := [22]) (i := j) (a := t) (by simpa using ht)
   simp only [List.mem_cons, List.not_mem_nil, or_false] at h3
   obtain rfl : t = 22 := h3
   exact (show Tryz.prog.wantsStandIn 22 = false by kernel_rfl))
  (by kernel_rfl)
#print axioms topStruck_card
end Go.Proofs.YtjhpkghkgaekcaaGreatDoor

