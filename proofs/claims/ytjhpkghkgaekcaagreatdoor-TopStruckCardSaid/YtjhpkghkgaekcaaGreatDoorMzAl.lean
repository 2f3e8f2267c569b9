/- Lemmas on which the claim leans. -/
import Derived.Test.YtjhpkghkgaekcaaGreatDoorMzAk
import Derived.Conc.CrowdSel
import Derived.Conc.CrowdStepW
import Derived.Conc.WgGenN2
namespace Go.Mz
open Go.Conc Go.ConcN
open Go.ConcR (KK wgBlock WgAt stA smA rd wr mk Payload Aside2 DC0 Bk bk_of_mute)
instance pay0 : Payload := ⟨0⟩
end Go.Mz

