/- Lemmas on which the claim leans. -/
import Derived.Conc.CrowdSel
set_option linter.unusedSimpArgs false
namespace Go.Mz
open Go.Conc
end Go.Mz
