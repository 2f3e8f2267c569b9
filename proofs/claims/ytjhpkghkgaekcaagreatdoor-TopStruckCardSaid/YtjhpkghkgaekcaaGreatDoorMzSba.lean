/- Lemmas on which the claim leans. -/
import Derived.Test.YtjhpkghkgaekcaaGreatDoorRows
import Derived.Conc.Holds
set_option maxRecDepth 100000
namespace Go.Mz
open Go Go.Proofs Go.Proofs.YtjhpkghkgaekcaaGreatDoor
theorem stPlain : Tryz.prog.plainKeys = false := by kernel_rfl
theorem stHeard : Tryz.prog.stopsHeard = true := by kernel_rfl
theorem stEnter : Tryz.prog.mayEnter = true := by kernel_rfl
theorem stLifts : Tryz.prog.liftsFinal = Rows.topStruckRow.lifted := by kernel_rfl
end Go.Mz

