/- Lemmas on which the claim leans. -/
import Derived.Test.YtjhpkghkgaekcaaGreatDoorRows
import Derived.Conc.Holds
set_option maxRecDepth 100000
namespace Go.Mz
open Go Go.Proofs
theorem stStops : Tryz.prog.stops = [] := by kernel_rfl
theorem stKnobs : Tryz.prog.stopKnobs = [] := by kernel_rfl
theorem stLaid : laidOutB Tryz.prog = true := by kernel_rfl
theorem stRowed : mapsRowed Tryz.prog = true := by kernel_rfl
end Go.Mz

