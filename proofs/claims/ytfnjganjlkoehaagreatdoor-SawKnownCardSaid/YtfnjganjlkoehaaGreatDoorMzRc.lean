/- Lemmas on which the claim leans. -/
import Derived.Test.YtfnjganjlkoehaaGreatDoorMzRb
import Derived.Test.YtfnjganjlkoehaaGreatDoorTie
import Derived.Test.YtfnjganjlkoehaaGreatDoorCards
import Derived.LaidHandle
import Derived.LaidLaws
import Derived.ChangeVars
import Derived.RowKitTokens
set_option maxRecDepth 100000
namespace Go.Mz
open Go.Conc Go.ConcN Go.Proofs Go.ChangeShapes Go.WideShapes Go.RowKit
open Go.Proofs.YtfnjganjlkoehaaGreatDoor (Rows.laid_errors_errorType)
theorem errT : Tryz.prog.globalNamed "errors.errorType" = some 0 := by kernel_rfl
theorem rtT : (Tryz.prog.cutTypes.find? (·.1 == "internal/reflectlite.rtype")).map (·.2) = some 214 := by kernel_rfl
theorem nTy : Tryz.prog.types.size = 255 := by kernel_rfl
theorem oneTy : ((List.range 255).filter fun t => Tryz.prog.rowNamed t [101, 114, 114, 111, 114]) = [159] := by kernel_rfl
theorem hdlT : typeHandle Tryz.prog 159 = .pointer (some ⟨1, 159, none⟩) := by kernel_rfl
theorem ownT : ownKnob Tryz.prog.godebug = none := by kernel_rfl
theorem laidOutT : laidOutB Tryz.prog = true := by kernel_rfl
abbrev laidT : List (String × DataW Unit) := [("errors.errorType", Rows.laid_errors_errorType)]
theorem gl_of_laid {W : World} (h : laidMetH Tryz.prog laidT W) : GlOk (startL W) := by
 have h' : laidMet Tryz.prog [] W ∧ handlesMet Tryz.prog laidT W := h
 obtain ⟨name, u, ty, e1, e2, e3, e4, e5⟩ := h'.2 _ (List.mem_singleton.2 rfl)
 have en : name = [101, 114, 114, 111, 114] := (Option.some.inj e1).symm
 subst en
 obtain rfl := Option.some.inj (rtT.symm.trans e2)
 have hm : ty ∈ (List.range 255).filter fun t => Tryz.prog.rowNamed t [101, 114, 114, 111, 114] := List.mem_filter.2 ⟨List.mem_range.2 (by rw [← nTy]; exact e3), e4⟩
 rw [oneTy] at hm
 obtain rfl := List.mem_singleton.1 hm
 rw [hdlT] at e5
 exact start_cell (by simpa using World.var?_cell errT e5 0)
noncomputable def laidW (os : Os) : World :=
  let w0 := World.holding Tryz.prog os ⟨#[], #[], []⟩
  { w0 with heap := w0.heap.modify 0 fun
      | .cells _ t frozen => .cells #[.iface 214 (.agg #[.pointer (some ⟨1, 159, none⟩)])] t frozen
      | o => o }
theorem laidW_met (os : Os) (args : Array Value) : laidMetH Tryz.prog laidT ((laidW os).forCall (fun _ _ => 0) ⟨#[], args, []⟩).memory :=
 laidMetH_of_parts (laidMet_nil _ _) (by kernel_rfl)
section
variable {H : Type} {enc : TypeId × Value → H}
theorem returns_leaving {a : Assume} {C : Checked} {os : Os} {f : FuncId} {fn : Func} {s : ChangeSpec} {conds : List PathCond} {apart fresh handsOn again : Bool} {X : World → Array Value → Prop} (hX : ∀ (w w' : World) (args : Array Value), w.heap = w'.heap → X w args → X w' args)
  (own : ownKnob C.prog.godebug = none) (started : os.Started) (hfn : C.prog.funcs[f]? = some fn)
  (witness : ∃ (w : World) (tape : Tape) (i : Input), w.os = os ∧ (w.forCall tape i).Shaped C.prog ∧ i.vars = [] ∧ Input.okWide C.prog (w.forCall tape i) .any w.heap.size f i ∧
   ((s.pre enc C.prog fn conds apart (w.forCall tape i).memory i.args ∧ X (w.forCall tape i).memory i.args) ∧ sizedMet enc C.prog fn (OpenSpec.ofChange s) apart (w.forCall tape i).memory i.args) ∧ a.holds C.prog (lone (Frame.enter C.prog f i.args .normal) [] (w.forCall tape i)))
  (runs : ∀ (W : World) (base : Nat) (args : Array Value) (ds gs : List (DataW H)) (before : List MemPlace),
   (∀ (j : Nat) t v, fn.params[j]? = some t → args[j]? = some v → Value.okWide C.prog W .any base t v) →
   DataW.Whole enc C.prog fn.params.toList s.vars apart W args.toList ds gs before →
   (DataW.weightsEach C.prog (fn.params.toList ++ s.plain.varTypes C.prog) (ds ++ gs)).all (· ≤ reachBytes) = true → X W args →
   RunsGood C.prog (fun v W' => s.post enc C.prog fn apart fresh handsOn again W args v W') (solo (G (Frame.enter C.prog f args .normal) []) W) #[]) :
  ReturnsInLeavingWide a C os f .any (fun w args => (s.pre enc C.prog fn conds apart w args ∧ X w args) ∧ sizedMet enc C.prog fn (OpenSpec.ofChange s) apart w args) (s.post enc C.prog fn apart fresh handsOn again) := by
 refine returnsInLeavingWide_of_good own started witness ?_
 intro w tape i _ _ _ hok hpre _
 obtain ⟨_, _, _, fn', hfn', _, _, _, _, hval⟩ := hok
 have e : fn' = fn := Option.some.inj (hfn'.symm.trans hfn)
 subst e
 obtain ⟨⟨⟨ds, gs, before, hw, hc⟩, hx⟩, hz⟩ := hpre
 have hw' := DataW.Whole.of_heap (w' := w.forCall tape i) (by rfl) hw
 obtain ⟨M, last, o, w', t', h1, h2, h3, h4⟩ := runs (w.forCall tape i) w.heap.size i.args ds gs before hval hw' (hz.weights hw) (hX _ _ _ (by rfl) hx)
 exact ⟨M, last, o, w', t', h1, h2, h3, h4.mono fun v hp => ChangeSpec.post_blind hp⟩
theorem below_of {W w : World} {L' : LH} (hd : Dim (startL W) L') (hs : Sub L' w) (hw : Same W w) : Below W.heap.size W w := by
 have key : ∀ k, k < W.heap.size → w.heap[k]? = W.heap[k]? := fun k hk => by
  have h1 : W.heap[k]? = some W.heap[k] := Array.getElem?_eq_getElem hk
  obtain ⟨wr, h2⟩ := hd k W.heap[k] false (by unfold startL; rw [h1]; rfl)
  rw [hs k _ wr h2, h1]
 refine ⟨hw.os, hw.tape, hw.out, ?_, key⟩
 rcases Nat.eq_zero_or_pos W.heap.size with h | h
 ·omega
 ·have := key (W.heap.size - 1) (by omega)
  rw [Array.getElem?_eq_getElem (by omega : W.heap.size - 1 < W.heap.size)] at this
  have := (Array.getElem?_eq_some_iff.1 this).1
  omega
end
end Go.Mz

