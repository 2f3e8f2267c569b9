/- Lemmas for the claim. -/
import Derived.Test.YtjhpkghkgaekcaaGreatDoorRows
import Derived.Conc.Holds
set_option linter.defProp false
set_option maxRecDepth 100000
namespace Go.Mz
open Go Go.Proofs
theorem Uo:Tryz.prog.stops=[]:=by kernel_rfl
theorem Uk:Tryz.prog.stopKnobs=[]:=by kernel_rfl
theorem Yw:laidOutB Tryz.prog=true:=by kernel_rfl
theorem Un:mapsRowed Tryz.prog=true:=by kernel_rfl
end Go.Mz
