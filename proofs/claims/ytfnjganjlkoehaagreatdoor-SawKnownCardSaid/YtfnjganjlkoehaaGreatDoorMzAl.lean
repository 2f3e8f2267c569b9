/- Lemmas on which the claim leans. -/
import Derived.Test.YtfnjganjlkoehaaGreatDoorMzAk
import Derived.Conc.DeferLaws
namespace Go.Mz
open Go.Conc
section
variable {P : Program} (X : Logic P) {f : FuncId} {T : Array Value} {k : List Item} {ds : List Deferred} {cs : List Frame} {L : LH}
end
section
variable {P : Program} {n : Nat} {ds : List Deferred} {k : List Item} {E : Env} {B : List (Option Bx)} {L : LH} {ops : Array Oper} {i : Nat} {rest : List Nat}
variable {C : Cx P}
end
end Go.Mz

