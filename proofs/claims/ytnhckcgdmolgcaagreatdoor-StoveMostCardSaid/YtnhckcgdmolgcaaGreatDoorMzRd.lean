/- Lemmas on which the claim leans. -/
import Derived.Test.YtnhckcgdmolgcaaGreatDoorMzRc
import Derived.SevenTiedAt
set_option maxRecDepth 100000
namespace Go.Proofs.YtnhckcgdmolgcaaGreatDoor
open Go.Mz Go.Conc Go.ConcN Go.Proofs
theorem goes_card {c : OpenClaim} {sp : OpenSpec} (hc : c.holds Tryz.pinned sp) (hw : c.wfByText sp = true) (htie : c.laidByTextAt .later Tryz.pinned [.handle] true) (hst : c.start = .entering) (hnb : c.noBlocks = false ∧ c.again = false)
  (hl : ∀ f fn, Tryz.prog.funcNamed c.func = some f → Tryz.prog.funcs[f]? = some fn → true = Tryz.prog.looks [] ∧ ∀ (j : Nat) t, fn.params[j]? = some t → Tryz.prog.wantsStandIn t = false) (hg : true = c.goesBy Tryz.prog) :
  Claim7.holds Tryz.pinned (.plain sp) { stood := { row := c, standIns := [], harness := (true, "e5cc782ceb8057f36a7a636c389fb1f00ac7c64b6cce6d8eb49da88a1095250b"), looks := true }, kinds := [], alts := [], goes := true, laidByText := true, laidKinds := [.handle], laidTests := true, laidLooks := .later } := by
 have hm : Tryz.pinned.checked.prog.mainIs = some (true, "e5cc782ceb8057f36a7a636c389fb1f00ac7c64b6cce6d8eb49da88a1095250b".toList) := by kernel_rfl
 have h1 := Claim7.tied_new_at .later [.handle] true (Claim7.new_of_sixth hc (true, "e5cc782ceb8057f36a7a636c389fb1f00ac7c64b6cce6d8eb49da88a1095250b") true hst hnb hm rfl hl) hw
 obtain ⟨h2, h3⟩ := h1
 exact ⟨⟨h2, h3⟩, (fun D hD => by cases hD), htie, (fun h => by cases h), hg⟩
end Go.Proofs.YtnhckcgdmolgcaaGreatDoor

