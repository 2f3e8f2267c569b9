/- Lemmas on which the claim leans. -/
import Derived.Test.YtjhpkghkgaekcaaGreatDoorRows
import Derived.Conc.Holds
set_option maxRecDepth 100000
namespace Go.Mz
open Go Go.Proofs Go.Proofs.YtjhpkghkgaekcaaGreatDoor
theorem SN:Tryz.prog.plainKeys=false:=by kernel_rfl
theorem SK:Tryz.prog.stopsHeard=true:=by kernel_rfl
theorem SJ:Tryz.prog.mayEnter=true:=by kernel_rfl
theorem SM:Tryz.prog.liftsFinal=Rows.topStruckRow.lifted:=by kernel_rfl
end Go.Mz
