/- Lemmas for the claim. -/
import Derived.Test.YtjhpkghkgaekcaaGreatDoorRows
import Derived.Conc.Holds
set_option linter.defProp false
set_option maxRecDepth 100000
namespace Go.Mz
open Go Go.Proofs Go.Proofs.YtjhpkghkgaekcaaGreatDoor
theorem Um:Tryz.prog.plainKeys=false:=by kernel_rfl
theorem Uj:Tryz.prog.stopsHeard=true:=by kernel_rfl
theorem Ui:Tryz.prog.mayEnter=true:=by kernel_rfl
theorem Ul:Tryz.prog.liftsFinal=Rows.topStruckRow.lifted:=by kernel_rfl
end Go.Mz
