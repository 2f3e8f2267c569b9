/-
  DERIVED. GIVEN WITH THE SEED: THE CARDS: each row of YtjhpkghkgaekcaaGreatDoorRows.lean that lists a variable, with what it lists TIED to the program's text (the seventh form; the later family's looks); each row that meets fmt, with fmt's text TOLD by the authors' own Lean function (tested against real Go, not proved from fmt's source: count such statements apart). THE CARD IS WHAT COUNTS. Prove the row's statement (the work); the ties are given (YtjhpkghkgaekcaaGreatDoorTie.lean); close each card by the builder's one call (the guide's Derived/Test/ToyasCard.lean, 'card_holds'). Laid BY PROGRAM, IN A SANDBOX (cutbox-door.mjs). By AI agents, Wed Nov 11 2026. No macro, syntax, notation, axiom, sorry.
-/
import Derived.Test.YtjhpkghkgaekcaaGreatDoorRows
import GoSem.ClaimSeven
namespace Go.Proofs.YtjhpkghkgaekcaaGreatDoor
namespace Rows

/-- THE TIED CARD OF 'muscovadotop.TopStruck'. -/
def topStruckCard : Claim7 := { stood := { row := topStruckRow, standIns := [], harness := (true, "7c9dd4858c0a01b2c0de4dd95aade8bf6d04b54cd5416a47123202cc523bfa71"), looks := true }, kinds := [], alts := [], goes := true, laidByText := true, laidKinds := [.data, .data, .data, .data, .handle, .pinned], laidTests := true, laidLooks := .later }
def TopStruckCardSaid : Prop := Claim7.holds Tryz.pinned (.plain (OpenSpec.ofChange topStruckSpec)) topStruckCard

/-- THE TIED CARD OF 'muscovadotop.TopWanted'. -/
def topWantedCard : Claim7 := { stood := { row := topWantedRow, standIns := [], harness := (true, "7c9dd4858c0a01b2c0de4dd95aade8bf6d04b54cd5416a47123202cc523bfa71"), looks := true }, kinds := [], alts := [], goes := true, laidByText := true, laidKinds := [.data, .data, .data, .data, .handle, .pinned], laidTests := true, laidLooks := .later }
def TopWantedCardSaid : Prop := Claim7.holds Tryz.pinned (.plain (OpenSpec.ofChange topWantedSpec)) topWantedCard

/-- THE TIED CARD OF 'muscovadotop.TopVoided'. -/
def topVoidedCard : Claim7 := { stood := { row := topVoidedRow, standIns := [], harness := (true, "7c9dd4858c0a01b2c0de4dd95aade8bf6d04b54cd5416a47123202cc523bfa71"), looks := true }, kinds := [], alts := [], goes := true, laidByText := true, laidKinds := [.data, .data, .data, .data, .handle, .pinned], laidTests := true, laidLooks := .later }
def TopVoidedCardSaid : Prop := Claim7.holds Tryz.pinned (.plain (OpenSpec.ofChange topVoidedSpec)) topVoidedCard

/-- THE TIED CARD OF 'muscovadotop.TopSettled'. -/
def topSettledCard : Claim7 := { stood := { row := topSettledRow, standIns := [], harness := (true, "7c9dd4858c0a01b2c0de4dd95aade8bf6d04b54cd5416a47123202cc523bfa71"), looks := true }, kinds := [], alts := [], goes := true, laidByText := true, laidKinds := [.data, .data, .data, .data, .handle, .pinned], laidTests := true, laidLooks := .later }
def TopSettledCardSaid : Prop := Claim7.holds Tryz.pinned (.plain (OpenSpec.ofChange topSettledSpec)) topSettledCard
end Rows
end Go.Proofs.YtjhpkghkgaekcaaGreatDoor
