/- Lemmas on which the claim leans. -/
import Derived.Test.YtjhpkghkgaekcaaGreatDoorMzAj
import Derived.Conc.CrowdTrace
namespace Go.Mz
open Go.Conc
open Go.ConcN (sumTo upd sumTo_upd upd_ne upd_same)
section
variable {Ls Ls' : Nat → LH} {Sh Am Pt : Nat → Prop} {w w' : World} {t u : Trace}
open Classical in
open Classical in
def LH.join (L G : LH) : LH := fun b => match L b with | some x => some x | none => G b
end
end Go.Mz

