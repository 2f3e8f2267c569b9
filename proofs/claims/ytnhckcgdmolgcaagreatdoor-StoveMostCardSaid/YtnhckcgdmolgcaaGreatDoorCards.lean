/-
  DERIVED. GIVEN WITH THE SEED: THE CARDS: each row of YtnhckcgdmolgcaaGreatDoorRows.lean that lists a variable, with what it lists TIED to the program's text (the seventh form; the later family's looks); each row that meets fmt, with fmt's text TOLD by the authors' own Lean function (tested against real Go, not proved from fmt's source: count such statements apart). THE CARD IS WHAT COUNTS. Prove the row's statement (the work); the ties are given (YtnhckcgdmolgcaaGreatDoorTie.lean); close each card by the builder's one call (the guide's Derived/Test/ToyasCard.lean, 'card_holds'). Laid BY PROGRAM, IN A SANDBOX (cutbox-door.mjs). By AI agents, Wed Nov 11 2026. No macro, syntax, notation, axiom, sorry.
-/
import Derived.Test.YtnhckcgdmolgcaaGreatDoorRows
import GoSem.ClaimSeven
namespace Go.Proofs.YtnhckcgdmolgcaaGreatDoor
namespace Rows

/-- THE TIED CARD OF 'muscovadolaw10.StoveFates'. -/
def stoveFatesCard : Claim7 := { stood := { row := stoveFatesRow, standIns := [], harness := (true, "e5cc782ceb8057f36a7a636c389fb1f00ac7c64b6cce6d8eb49da88a1095250b"), looks := true }, kinds := [], alts := [], goes := true, laidByText := true, laidKinds := [.handle], laidTests := true, laidLooks := .later }
def StoveFatesCardSaid : Prop := Claim7.holds Tryz.pinned (.plain (OpenSpec.ofChange stoveFatesSpec)) stoveFatesCard

/-- THE TIED CARD OF 'muscovadolaw10.StoveFires'. -/
def stoveFiresCard : Claim7 := { stood := { row := stoveFiresRow, standIns := [], harness := (true, "e5cc782ceb8057f36a7a636c389fb1f00ac7c64b6cce6d8eb49da88a1095250b"), looks := true }, kinds := [], alts := [], goes := true, laidByText := true, laidKinds := [.handle], laidTests := true, laidLooks := .later }
def StoveFiresCardSaid : Prop := Claim7.holds Tryz.pinned (.plain (OpenSpec.ofChange stoveFiresSpec)) stoveFiresCard

/-- THE TIED CARD OF 'muscovadolaw10.StoveDried'. -/
def stoveDriedCard : Claim7 := { stood := { row := stoveDriedRow, standIns := [], harness := (true, "e5cc782ceb8057f36a7a636c389fb1f00ac7c64b6cce6d8eb49da88a1095250b"), looks := true }, kinds := [], alts := [], goes := true, laidByText := true, laidKinds := [.handle], laidTests := true, laidLooks := .later }
def StoveDriedCardSaid : Prop := Claim7.holds Tryz.pinned (.plain (OpenSpec.ofChange stoveDriedSpec)) stoveDriedCard

/-- THE TIED CARD OF 'muscovadolaw10.StoveHardier'. -/
def stoveHardierCard : Claim7 := { stood := { row := stoveHardierRow, standIns := [], harness := (true, "e5cc782ceb8057f36a7a636c389fb1f00ac7c64b6cce6d8eb49da88a1095250b"), looks := true }, kinds := [], alts := [], goes := true, laidByText := true, laidKinds := [.handle], laidTests := true, laidLooks := .later }
def StoveHardierCardSaid : Prop := Claim7.holds Tryz.pinned (.plain (OpenSpec.ofChange stoveHardierSpec)) stoveHardierCard

/-- THE TIED CARD OF 'muscovadolaw10.StoveNumbered'. -/
def stoveNumberedCard : Claim7 := { stood := { row := stoveNumberedRow, standIns := [], harness := (true, "e5cc782ceb8057f36a7a636c389fb1f00ac7c64b6cce6d8eb49da88a1095250b"), looks := true }, kinds := [], alts := [], goes := true, laidByText := true, laidKinds := [.handle], laidTests := true, laidLooks := .later }
def StoveNumberedCardSaid : Prop := Claim7.holds Tryz.pinned (.plain (OpenSpec.ofChange stoveNumberedSpec)) stoveNumberedCard

/-- THE TIED CARD OF 'muscovadolaw10.StoveMosts'. -/
def stoveMostsCard : Claim7 := { stood := { row := stoveMostsRow, standIns := [], harness := (true, "e5cc782ceb8057f36a7a636c389fb1f00ac7c64b6cce6d8eb49da88a1095250b"), looks := true }, kinds := [], alts := [], goes := true, laidByText := true, laidKinds := [.handle], laidTests := true, laidLooks := .later }
def StoveMostsCardSaid : Prop := Claim7.holds Tryz.pinned (.plain (OpenSpec.ofChange stoveMostsSpec)) stoveMostsCard

/-- THE TIED CARD OF 'muscovadolaw10.StoveCrowd'. -/
def stoveCrowdCard : Claim7 := { stood := { row := stoveCrowdRow, standIns := [], harness := (true, "e5cc782ceb8057f36a7a636c389fb1f00ac7c64b6cce6d8eb49da88a1095250b"), looks := true }, kinds := [], alts := [], goes := true, laidByText := true, laidKinds := [.handle], laidTests := true, laidLooks := .later }
def StoveCrowdCardSaid : Prop := Claim7.holds Tryz.pinned (.plain (OpenSpec.ofChange stoveCrowdSpec)) stoveCrowdCard

/-- THE TIED CARD OF 'muscovadolaw10.StoveFire'. -/
def stoveFireCard : Claim7 := { stood := { row := stoveFireRow, standIns := [], harness := (true, "e5cc782ceb8057f36a7a636c389fb1f00ac7c64b6cce6d8eb49da88a1095250b"), looks := true }, kinds := [], alts := [], goes := true, laidByText := true, laidKinds := [.handle], laidTests := true, laidLooks := .later }
def StoveFireCardSaid : Prop := Claim7.holds Tryz.pinned (.plain (OpenSpec.ofChange stoveFireSpec)) stoveFireCard

/-- THE TIED CARD OF 'muscovadolaw10.StoveSpare'. -/
def stoveSpareCard : Claim7 := { stood := { row := stoveSpareRow, standIns := [], harness := (true, "e5cc782ceb8057f36a7a636c389fb1f00ac7c64b6cce6d8eb49da88a1095250b"), looks := true }, kinds := [], alts := [], goes := true, laidByText := true, laidKinds := [.handle], laidTests := true, laidLooks := .later }
def StoveSpareCardSaid : Prop := Claim7.holds Tryz.pinned (.plain (OpenSpec.ofChange stoveSpareSpec)) stoveSpareCard

/-- THE TIED CARD OF 'muscovadolaw10.StoveLost'. -/
def stoveLostCard : Claim7 := { stood := { row := stoveLostRow, standIns := [], harness := (true, "e5cc782ceb8057f36a7a636c389fb1f00ac7c64b6cce6d8eb49da88a1095250b"), looks := true }, kinds := [], alts := [], goes := true, laidByText := true, laidKinds := [.handle], laidTests := true, laidLooks := .later }
def StoveLostCardSaid : Prop := Claim7.holds Tryz.pinned (.plain (OpenSpec.ofChange stoveLostSpec)) stoveLostCard

/-- THE TIED CARD OF 'muscovadolaw10.StoveSpares'. -/
def stoveSparesCard : Claim7 := { stood := { row := stoveSparesRow, standIns := [], harness := (true, "e5cc782ceb8057f36a7a636c389fb1f00ac7c64b6cce6d8eb49da88a1095250b"), looks := true }, kinds := [], alts := [], goes := true, laidByText := true, laidKinds := [.handle], laidTests := true, laidLooks := .later }
def StoveSparesCardSaid : Prop := Claim7.holds Tryz.pinned (.plain (OpenSpec.ofChange stoveSparesSpec)) stoveSparesCard

/-- THE TIED CARD OF 'muscovadolaw10.StoveAdd'. -/
def stoveAddCard : Claim7 := { stood := { row := stoveAddRow, standIns := [], harness := (true, "e5cc782ceb8057f36a7a636c389fb1f00ac7c64b6cce6d8eb49da88a1095250b"), looks := true }, kinds := [], alts := [], goes := true, laidByText := true, laidKinds := [.handle], laidTests := true, laidLooks := .later }
def StoveAddCardSaid : Prop := Claim7.holds Tryz.pinned (.plain (OpenSpec.ofChange stoveAddSpec)) stoveAddCard

/-- THE TIED CARD OF 'muscovadolaw10.StovePlans'. -/
def stovePlansCard : Claim7 := { stood := { row := stovePlansRow, standIns := [], harness := (true, "e5cc782ceb8057f36a7a636c389fb1f00ac7c64b6cce6d8eb49da88a1095250b"), looks := true }, kinds := [], alts := [], goes := true, laidByText := true, laidKinds := [.handle], laidTests := true, laidLooks := .later }
def StovePlansCardSaid : Prop := Claim7.holds Tryz.pinned (.plain (OpenSpec.ofChange stovePlansSpec)) stovePlansCard

/-- THE TIED CARD OF 'muscovadolaw10.StoveLosts'. -/
def stoveLostsCard : Claim7 := { stood := { row := stoveLostsRow, standIns := [], harness := (true, "e5cc782ceb8057f36a7a636c389fb1f00ac7c64b6cce6d8eb49da88a1095250b"), looks := true }, kinds := [], alts := [], goes := true, laidByText := true, laidKinds := [.handle], laidTests := true, laidLooks := .later }
def StoveLostsCardSaid : Prop := Claim7.holds Tryz.pinned (.plain (OpenSpec.ofChange stoveLostsSpec)) stoveLostsCard

/-- THE TIED CARD OF 'muscovadolaw10.StovePlaces'. -/
def stovePlacesCard : Claim7 := { stood := { row := stovePlacesRow, standIns := [], harness := (true, "e5cc782ceb8057f36a7a636c389fb1f00ac7c64b6cce6d8eb49da88a1095250b"), looks := true }, kinds := [], alts := [], goes := true, laidByText := true, laidKinds := [.handle], laidTests := true, laidLooks := .later }
def StovePlacesCardSaid : Prop := Claim7.holds Tryz.pinned (.plain (OpenSpec.ofChange stovePlacesSpec)) stovePlacesCard

/-- THE TIED CARD OF 'muscovadolaw10.StoveMost'. -/
def stoveMostCard : Claim7 := { stood := { row := stoveMostRow, standIns := [], harness := (true, "e5cc782ceb8057f36a7a636c389fb1f00ac7c64b6cce6d8eb49da88a1095250b"), looks := true }, kinds := [], alts := [], goes := true, laidByText := true, laidKinds := [.handle], laidTests := true, laidLooks := .later }
def StoveMostCardSaid : Prop := Claim7.holds Tryz.pinned (.plain (OpenSpec.ofChange stoveMostSpec)) stoveMostCard

/-- THE TIED CARD OF 'muscovadolaw10.StoveKnown'. -/
def stoveKnownCard : Claim7 := { stood := { row := stoveKnownRow, standIns := [], harness := (true, "e5cc782ceb8057f36a7a636c389fb1f00ac7c64b6cce6d8eb49da88a1095250b"), looks := true }, kinds := [], alts := [], goes := true, laidByText := true, laidKinds := [.handle], laidTests := true, laidLooks := .later }
def StoveKnownCardSaid : Prop := Claim7.holds Tryz.pinned (.plain (OpenSpec.ofChange stoveKnownSpec)) stoveKnownCard

/-- THE SECOND FORM's CARD OF 'muscovadolaw10.StoveFates'. -/
def stoveFatesUptoCard : Claim7 := { stood := { row := stoveFatesUptoRow, standIns := [], harness := (true, "e5cc782ceb8057f36a7a636c389fb1f00ac7c64b6cce6d8eb49da88a1095250b"), looks := true }, kinds := [], alts := [], goes := true, laidByText := true, laidKinds := [.handle], laidTests := true, laidLooks := .later }
def StoveFatesUptoCardSaid : Prop := Claim7.holds Tryz.pinned (.plain (OpenSpec.upto stoveFatesSpec)) stoveFatesUptoCard

/-- THE SECOND FORM's CARD OF 'muscovadolaw10.StoveFires'. -/
def stoveFiresUptoCard : Claim7 := { stood := { row := stoveFiresUptoRow, standIns := [], harness := (true, "e5cc782ceb8057f36a7a636c389fb1f00ac7c64b6cce6d8eb49da88a1095250b"), looks := true }, kinds := [], alts := [], goes := true, laidByText := true, laidKinds := [.handle], laidTests := true, laidLooks := .later }
def StoveFiresUptoCardSaid : Prop := Claim7.holds Tryz.pinned (.plain (OpenSpec.upto stoveFiresSpec)) stoveFiresUptoCard

/-- THE SECOND FORM's CARD OF 'muscovadolaw10.StoveDried'. -/
def stoveDriedUptoCard : Claim7 := { stood := { row := stoveDriedUptoRow, standIns := [], harness := (true, "e5cc782ceb8057f36a7a636c389fb1f00ac7c64b6cce6d8eb49da88a1095250b"), looks := true }, kinds := [], alts := [], goes := true, laidByText := true, laidKinds := [.handle], laidTests := true, laidLooks := .later }
def StoveDriedUptoCardSaid : Prop := Claim7.holds Tryz.pinned (.plain (OpenSpec.upto stoveDriedSpec)) stoveDriedUptoCard

/-- THE SECOND FORM's CARD OF 'muscovadolaw10.StoveHardier'. -/
def stoveHardierUptoCard : Claim7 := { stood := { row := stoveHardierUptoRow, standIns := [], harness := (true, "e5cc782ceb8057f36a7a636c389fb1f00ac7c64b6cce6d8eb49da88a1095250b"), looks := true }, kinds := [], alts := [], goes := true, laidByText := true, laidKinds := [.handle], laidTests := true, laidLooks := .later }
def StoveHardierUptoCardSaid : Prop := Claim7.holds Tryz.pinned (.plain (OpenSpec.upto stoveHardierSpec)) stoveHardierUptoCard

/-- THE SECOND FORM's CARD OF 'muscovadolaw10.StoveNumbered'. -/
def stoveNumberedUptoCard : Claim7 := { stood := { row := stoveNumberedUptoRow, standIns := [], harness := (true, "e5cc782ceb8057f36a7a636c389fb1f00ac7c64b6cce6d8eb49da88a1095250b"), looks := true }, kinds := [], alts := [], goes := true, laidByText := true, laidKinds := [.handle], laidTests := true, laidLooks := .later }
def StoveNumberedUptoCardSaid : Prop := Claim7.holds Tryz.pinned (.plain (OpenSpec.upto stoveNumberedSpec)) stoveNumberedUptoCard

/-- THE SECOND FORM's CARD OF 'muscovadolaw10.StoveMosts'. -/
def stoveMostsUptoCard : Claim7 := { stood := { row := stoveMostsUptoRow, standIns := [], harness := (true, "e5cc782ceb8057f36a7a636c389fb1f00ac7c64b6cce6d8eb49da88a1095250b"), looks := true }, kinds := [], alts := [], goes := true, laidByText := true, laidKinds := [.handle], laidTests := true, laidLooks := .later }
def StoveMostsUptoCardSaid : Prop := Claim7.holds Tryz.pinned (.plain (OpenSpec.upto stoveMostsSpec)) stoveMostsUptoCard

/-- THE SECOND FORM's CARD OF 'muscovadolaw10.StoveCrowd'. -/
def stoveCrowdUptoCard : Claim7 := { stood := { row := stoveCrowdUptoRow, standIns := [], harness := (true, "e5cc782ceb8057f36a7a636c389fb1f00ac7c64b6cce6d8eb49da88a1095250b"), looks := true }, kinds := [], alts := [], goes := true, laidByText := true, laidKinds := [.handle], laidTests := true, laidLooks := .later }
def StoveCrowdUptoCardSaid : Prop := Claim7.holds Tryz.pinned (.plain (OpenSpec.upto stoveCrowdSpec)) stoveCrowdUptoCard

/-- THE SECOND FORM's CARD OF 'muscovadolaw10.StoveFire'. -/
def stoveFireUptoCard : Claim7 := { stood := { row := stoveFireUptoRow, standIns := [], harness := (true, "e5cc782ceb8057f36a7a636c389fb1f00ac7c64b6cce6d8eb49da88a1095250b"), looks := true }, kinds := [], alts := [], goes := true, laidByText := true, laidKinds := [.handle], laidTests := true, laidLooks := .later }
def StoveFireUptoCardSaid : Prop := Claim7.holds Tryz.pinned (.plain (OpenSpec.upto stoveFireSpec)) stoveFireUptoCard

/-- THE SECOND FORM's CARD OF 'muscovadolaw10.StoveSpare'. -/
def stoveSpareUptoCard : Claim7 := { stood := { row := stoveSpareUptoRow, standIns := [], harness := (true, "e5cc782ceb8057f36a7a636c389fb1f00ac7c64b6cce6d8eb49da88a1095250b"), looks := true }, kinds := [], alts := [], goes := true, laidByText := true, laidKinds := [.handle], laidTests := true, laidLooks := .later }
def StoveSpareUptoCardSaid : Prop := Claim7.holds Tryz.pinned (.plain (OpenSpec.upto stoveSpareSpec)) stoveSpareUptoCard

/-- THE SECOND FORM's CARD OF 'muscovadolaw10.StoveLost'. -/
def stoveLostUptoCard : Claim7 := { stood := { row := stoveLostUptoRow, standIns := [], harness := (true, "e5cc782ceb8057f36a7a636c389fb1f00ac7c64b6cce6d8eb49da88a1095250b"), looks := true }, kinds := [], alts := [], goes := true, laidByText := true, laidKinds := [.handle], laidTests := true, laidLooks := .later }
def StoveLostUptoCardSaid : Prop := Claim7.holds Tryz.pinned (.plain (OpenSpec.upto stoveLostSpec)) stoveLostUptoCard

/-- THE SECOND FORM's CARD OF 'muscovadolaw10.StoveSpares'. -/
def stoveSparesUptoCard : Claim7 := { stood := { row := stoveSparesUptoRow, standIns := [], harness := (true, "e5cc782ceb8057f36a7a636c389fb1f00ac7c64b6cce6d8eb49da88a1095250b"), looks := true }, kinds := [], alts := [], goes := true, laidByText := true, laidKinds := [.handle], laidTests := true, laidLooks := .later }
def StoveSparesUptoCardSaid : Prop := Claim7.holds Tryz.pinned (.plain (OpenSpec.upto stoveSparesSpec)) stoveSparesUptoCard

/-- THE SECOND FORM's CARD OF 'muscovadolaw10.StoveAdd'. -/
def stoveAddUptoCard : Claim7 := { stood := { row := stoveAddUptoRow, standIns := [], harness := (true, "e5cc782ceb8057f36a7a636c389fb1f00ac7c64b6cce6d8eb49da88a1095250b"), looks := true }, kinds := [], alts := [], goes := true, laidByText := true, laidKinds := [.handle], laidTests := true, laidLooks := .later }
def StoveAddUptoCardSaid : Prop := Claim7.holds Tryz.pinned (.plain (OpenSpec.upto stoveAddSpec)) stoveAddUptoCard

/-- THE SECOND FORM's CARD OF 'muscovadolaw10.StovePlans'. -/
def stovePlansUptoCard : Claim7 := { stood := { row := stovePlansUptoRow, standIns := [], harness := (true, "e5cc782ceb8057f36a7a636c389fb1f00ac7c64b6cce6d8eb49da88a1095250b"), looks := true }, kinds := [], alts := [], goes := true, laidByText := true, laidKinds := [.handle], laidTests := true, laidLooks := .later }
def StovePlansUptoCardSaid : Prop := Claim7.holds Tryz.pinned (.plain (OpenSpec.upto stovePlansSpec)) stovePlansUptoCard

/-- THE SECOND FORM's CARD OF 'muscovadolaw10.StoveLosts'. -/
def stoveLostsUptoCard : Claim7 := { stood := { row := stoveLostsUptoRow, standIns := [], harness := (true, "e5cc782ceb8057f36a7a636c389fb1f00ac7c64b6cce6d8eb49da88a1095250b"), looks := true }, kinds := [], alts := [], goes := true, laidByText := true, laidKinds := [.handle], laidTests := true, laidLooks := .later }
def StoveLostsUptoCardSaid : Prop := Claim7.holds Tryz.pinned (.plain (OpenSpec.upto stoveLostsSpec)) stoveLostsUptoCard

/-- THE SECOND FORM's CARD OF 'muscovadolaw10.StovePlaces'. -/
def stovePlacesUptoCard : Claim7 := { stood := { row := stovePlacesUptoRow, standIns := [], harness := (true, "e5cc782ceb8057f36a7a636c389fb1f00ac7c64b6cce6d8eb49da88a1095250b"), looks := true }, kinds := [], alts := [], goes := true, laidByText := true, laidKinds := [.handle], laidTests := true, laidLooks := .later }
def StovePlacesUptoCardSaid : Prop := Claim7.holds Tryz.pinned (.plain (OpenSpec.upto stovePlacesSpec)) stovePlacesUptoCard

/-- THE SECOND FORM's CARD OF 'muscovadolaw10.StoveMost'. -/
def stoveMostUptoCard : Claim7 := { stood := { row := stoveMostUptoRow, standIns := [], harness := (true, "e5cc782ceb8057f36a7a636c389fb1f00ac7c64b6cce6d8eb49da88a1095250b"), looks := true }, kinds := [], alts := [], goes := true, laidByText := true, laidKinds := [.handle], laidTests := true, laidLooks := .later }
def StoveMostUptoCardSaid : Prop := Claim7.holds Tryz.pinned (.plain (OpenSpec.upto stoveMostSpec)) stoveMostUptoCard

/-- THE SECOND FORM's CARD OF 'muscovadolaw10.StoveKnown'. -/
def stoveKnownUptoCard : Claim7 := { stood := { row := stoveKnownUptoRow, standIns := [], harness := (true, "e5cc782ceb8057f36a7a636c389fb1f00ac7c64b6cce6d8eb49da88a1095250b"), looks := true }, kinds := [], alts := [], goes := true, laidByText := true, laidKinds := [.handle], laidTests := true, laidLooks := .later }
def StoveKnownUptoCardSaid : Prop := Claim7.holds Tryz.pinned (.plain (OpenSpec.upto stoveKnownSpec)) stoveKnownUptoCard
end Rows
end Go.Proofs.YtnhckcgdmolgcaaGreatDoor
