/- Lemmas on which the claim leans. -/
import Derived.Test.YtjhpkghkgaekcaaGreatDoorRows
import Derived.Conc.Holds
set_option maxRecDepth 100000
namespace Go.Mz
open Go Go.Proofs
theorem SQ:Tryz.prog.stops=[]:=by kernel_rfl
theorem SL:Tryz.prog.stopKnobs=[]:=by kernel_rfl
theorem V8:laidOutB Tryz.prog=true:=by kernel_rfl
theorem SO:mapsRowed Tryz.prog=true:=by kernel_rfl
end Go.Mz
