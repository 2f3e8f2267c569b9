/-
  DERIVED. GIVEN WITH THE SEED: THE CARDS: each row of YtfnjganjlkoehaaGreatDoorRows.lean that lists a variable, with what it lists TIED to the program's text (the seventh form; the later family's looks); each row that meets fmt, with fmt's text TOLD by the authors' own Lean function (tested against real Go, not proved from fmt's source: count such statements apart). THE CARD IS WHAT COUNTS. Prove the row's statement (the work); the ties are given (YtfnjganjlkoehaaGreatDoorTie.lean); close each card by the builder's one call (the guide's Derived/Test/ToyasCard.lean, 'card_holds'). Laid BY PROGRAM, IN A SANDBOX (cutbox-door.mjs). By AI agents, Wed Nov 11 2026. No macro, syntax, notation, axiom, sorry.
-/
import Derived.Test.YtfnjganjlkoehaaGreatDoorRows
import GoSem.ClaimSeven
namespace Go.Proofs.YtfnjganjlkoehaaGreatDoor
namespace Rows

/-- THE TIED CARD OF 'muscovadolaw08.SawSlices'. -/
def sawSlicesCard : Claim7 := { stood := { row := sawSlicesRow, standIns := [], harness := (true, "4602cdca1c6c403c298f93eeb19107feda67e49bdaddb9144daa4089e6176cbd"), looks := true }, kinds := [], alts := [], goes := true, laidByText := true, laidKinds := [.handle], laidTests := true, laidLooks := .later }
def SawSlicesCardSaid : Prop := Claim7.holds Tryz.pinned (.plain (OpenSpec.ofChange sawSlicesSpec)) sawSlicesCard

/-- THE TIED CARD OF 'muscovadolaw08.SawCrushes'. -/
def sawCrushesCard : Claim7 := { stood := { row := sawCrushesRow, standIns := [], harness := (true, "4602cdca1c6c403c298f93eeb19107feda67e49bdaddb9144daa4089e6176cbd"), looks := true }, kinds := [], alts := [], goes := true, laidByText := true, laidKinds := [.handle], laidTests := true, laidLooks := .later }
def SawCrushesCardSaid : Prop := Claim7.holds Tryz.pinned (.plain (OpenSpec.ofChange sawCrushesSpec)) sawCrushesCard

/-- THE TIED CARD OF 'muscovadolaw08.SawBests'. -/
def sawBestsCard : Claim7 := { stood := { row := sawBestsRow, standIns := [], harness := (true, "4602cdca1c6c403c298f93eeb19107feda67e49bdaddb9144daa4089e6176cbd"), looks := true }, kinds := [], alts := [], goes := true, laidByText := true, laidKinds := [.handle], laidTests := true, laidLooks := .later }
def SawBestsCardSaid : Prop := Claim7.holds Tryz.pinned (.plain (OpenSpec.ofChange sawBestsSpec)) sawBestsCard

/-- THE TIED CARD OF 'muscovadolaw08.SawWeighed'. -/
def sawWeighedCard : Claim7 := { stood := { row := sawWeighedRow, standIns := [], harness := (true, "4602cdca1c6c403c298f93eeb19107feda67e49bdaddb9144daa4089e6176cbd"), looks := true }, kinds := [], alts := [], goes := true, laidByText := true, laidKinds := [.handle], laidTests := true, laidLooks := .later }
def SawWeighedCardSaid : Prop := Claim7.holds Tryz.pinned (.plain (OpenSpec.ofChange sawWeighedSpec)) sawWeighedCard

/-- THE TIED CARD OF 'muscovadolaw08.SawRefused'. -/
def sawRefusedCard : Claim7 := { stood := { row := sawRefusedRow, standIns := [], harness := (true, "4602cdca1c6c403c298f93eeb19107feda67e49bdaddb9144daa4089e6176cbd"), looks := true }, kinds := [], alts := [], goes := true, laidByText := true, laidKinds := [.handle], laidTests := true, laidLooks := .later }
def SawRefusedCardSaid : Prop := Claim7.holds Tryz.pinned (.plain (OpenSpec.ofChange sawRefusedSpec)) sawRefusedCard

/-- THE TIED CARD OF 'muscovadolaw08.SawMore'. -/
def sawMoreCard : Claim7 := { stood := { row := sawMoreRow, standIns := [], harness := (true, "4602cdca1c6c403c298f93eeb19107feda67e49bdaddb9144daa4089e6176cbd"), looks := true }, kinds := [], alts := [], goes := true, laidByText := true, laidKinds := [.handle], laidTests := true, laidLooks := .later }
def SawMoreCardSaid : Prop := Claim7.holds Tryz.pinned (.plain (OpenSpec.ofChange sawMoreSpec)) sawMoreCard

/-- THE TIED CARD OF 'muscovadolaw08.SawFewer'. -/
def sawFewerCard : Claim7 := { stood := { row := sawFewerRow, standIns := [], harness := (true, "4602cdca1c6c403c298f93eeb19107feda67e49bdaddb9144daa4089e6176cbd"), looks := true }, kinds := [], alts := [], goes := true, laidByText := true, laidKinds := [.handle], laidTests := true, laidLooks := .later }
def SawFewerCardSaid : Prop := Claim7.holds Tryz.pinned (.plain (OpenSpec.ofChange sawFewerSpec)) sawFewerCard

/-- THE TIED CARD OF 'muscovadolaw08.SawSlice'. -/
def sawSliceCard : Claim7 := { stood := { row := sawSliceRow, standIns := [], harness := (true, "4602cdca1c6c403c298f93eeb19107feda67e49bdaddb9144daa4089e6176cbd"), looks := true }, kinds := [], alts := [], goes := true, laidByText := true, laidKinds := [.handle], laidTests := true, laidLooks := .later }
def SawSliceCardSaid : Prop := Claim7.holds Tryz.pinned (.plain (OpenSpec.ofChange sawSliceSpec)) sawSliceCard

/-- THE TIED CARD OF 'muscovadolaw08.SawNumbered'. -/
def sawNumberedCard : Claim7 := { stood := { row := sawNumberedRow, standIns := [], harness := (true, "4602cdca1c6c403c298f93eeb19107feda67e49bdaddb9144daa4089e6176cbd"), looks := true }, kinds := [], alts := [], goes := true, laidByText := true, laidKinds := [.handle], laidTests := true, laidLooks := .later }
def SawNumberedCardSaid : Prop := Claim7.holds Tryz.pinned (.plain (OpenSpec.ofChange sawNumberedSpec)) sawNumberedCard

/-- THE TIED CARD OF 'muscovadolaw08.SawPlans'. -/
def sawPlansCard : Claim7 := { stood := { row := sawPlansRow, standIns := [], harness := (true, "4602cdca1c6c403c298f93eeb19107feda67e49bdaddb9144daa4089e6176cbd"), looks := true }, kinds := [], alts := [], goes := true, laidByText := true, laidKinds := [.handle], laidTests := true, laidLooks := .later }
def SawPlansCardSaid : Prop := Claim7.holds Tryz.pinned (.plain (OpenSpec.ofChange sawPlansSpec)) sawPlansCard

/-- THE TIED CARD OF 'muscovadolaw08.SawCrush'. -/
def sawCrushCard : Claim7 := { stood := { row := sawCrushRow, standIns := [], harness := (true, "4602cdca1c6c403c298f93eeb19107feda67e49bdaddb9144daa4089e6176cbd"), looks := true }, kinds := [], alts := [], goes := true, laidByText := true, laidKinds := [.handle], laidTests := true, laidLooks := .later }
def SawCrushCardSaid : Prop := Claim7.holds Tryz.pinned (.plain (OpenSpec.ofChange sawCrushSpec)) sawCrushCard

/-- THE TIED CARD OF 'muscovadolaw08.SawNeed'. -/
def sawNeedCard : Claim7 := { stood := { row := sawNeedRow, standIns := [], harness := (true, "4602cdca1c6c403c298f93eeb19107feda67e49bdaddb9144daa4089e6176cbd"), looks := true }, kinds := [], alts := [], goes := true, laidByText := true, laidKinds := [.handle], laidTests := true, laidLooks := .later }
def SawNeedCardSaid : Prop := Claim7.holds Tryz.pinned (.plain (OpenSpec.ofChange sawNeedSpec)) sawNeedCard

/-- THE TIED CARD OF 'muscovadolaw08.SawAdd'. -/
def sawAddCard : Claim7 := { stood := { row := sawAddRow, standIns := [], harness := (true, "4602cdca1c6c403c298f93eeb19107feda67e49bdaddb9144daa4089e6176cbd"), looks := true }, kinds := [], alts := [], goes := true, laidByText := true, laidKinds := [.handle], laidTests := true, laidLooks := .later }
def SawAddCardSaid : Prop := Claim7.holds Tryz.pinned (.plain (OpenSpec.ofChange sawAddSpec)) sawAddCard

/-- THE TIED CARD OF 'muscovadolaw08.SawWorths'. -/
def sawWorthsCard : Claim7 := { stood := { row := sawWorthsRow, standIns := [], harness := (true, "4602cdca1c6c403c298f93eeb19107feda67e49bdaddb9144daa4089e6176cbd"), looks := true }, kinds := [], alts := [], goes := true, laidByText := true, laidKinds := [.handle], laidTests := true, laidLooks := .later }
def SawWorthsCardSaid : Prop := Claim7.holds Tryz.pinned (.plain (OpenSpec.ofChange sawWorthsSpec)) sawWorthsCard

/-- THE TIED CARD OF 'muscovadolaw08.SawBest'. -/
def sawBestCard : Claim7 := { stood := { row := sawBestRow, standIns := [], harness := (true, "4602cdca1c6c403c298f93eeb19107feda67e49bdaddb9144daa4089e6176cbd"), looks := true }, kinds := [], alts := [], goes := true, laidByText := true, laidKinds := [.handle], laidTests := true, laidLooks := .later }
def SawBestCardSaid : Prop := Claim7.holds Tryz.pinned (.plain (OpenSpec.ofChange sawBestSpec)) sawBestCard

/-- THE TIED CARD OF 'muscovadolaw08.SawNeeds'. -/
def sawNeedsCard : Claim7 := { stood := { row := sawNeedsRow, standIns := [], harness := (true, "4602cdca1c6c403c298f93eeb19107feda67e49bdaddb9144daa4089e6176cbd"), looks := true }, kinds := [], alts := [], goes := true, laidByText := true, laidKinds := [.handle], laidTests := true, laidLooks := .later }
def SawNeedsCardSaid : Prop := Claim7.holds Tryz.pinned (.plain (OpenSpec.ofChange sawNeedsSpec)) sawNeedsCard

/-- THE TIED CARD OF 'muscovadolaw08.SawKnown'. -/
def sawKnownCard : Claim7 := { stood := { row := sawKnownRow, standIns := [], harness := (true, "4602cdca1c6c403c298f93eeb19107feda67e49bdaddb9144daa4089e6176cbd"), looks := true }, kinds := [], alts := [], goes := true, laidByText := true, laidKinds := [.handle], laidTests := true, laidLooks := .later }
def SawKnownCardSaid : Prop := Claim7.holds Tryz.pinned (.plain (OpenSpec.ofChange sawKnownSpec)) sawKnownCard

/-- THE SECOND FORM's CARD OF 'muscovadolaw08.SawSlices'. -/
def sawSlicesUptoCard : Claim7 := { stood := { row := sawSlicesUptoRow, standIns := [], harness := (true, "4602cdca1c6c403c298f93eeb19107feda67e49bdaddb9144daa4089e6176cbd"), looks := true }, kinds := [], alts := [], goes := true, laidByText := true, laidKinds := [.handle], laidTests := true, laidLooks := .later }
def SawSlicesUptoCardSaid : Prop := Claim7.holds Tryz.pinned (.plain (OpenSpec.upto sawSlicesSpec)) sawSlicesUptoCard

/-- THE SECOND FORM's CARD OF 'muscovadolaw08.SawCrushes'. -/
def sawCrushesUptoCard : Claim7 := { stood := { row := sawCrushesUptoRow, standIns := [], harness := (true, "4602cdca1c6c403c298f93eeb19107feda67e49bdaddb9144daa4089e6176cbd"), looks := true }, kinds := [], alts := [], goes := true, laidByText := true, laidKinds := [.handle], laidTests := true, laidLooks := .later }
def SawCrushesUptoCardSaid : Prop := Claim7.holds Tryz.pinned (.plain (OpenSpec.upto sawCrushesSpec)) sawCrushesUptoCard

/-- THE SECOND FORM's CARD OF 'muscovadolaw08.SawBests'. -/
def sawBestsUptoCard : Claim7 := { stood := { row := sawBestsUptoRow, standIns := [], harness := (true, "4602cdca1c6c403c298f93eeb19107feda67e49bdaddb9144daa4089e6176cbd"), looks := true }, kinds := [], alts := [], goes := true, laidByText := true, laidKinds := [.handle], laidTests := true, laidLooks := .later }
def SawBestsUptoCardSaid : Prop := Claim7.holds Tryz.pinned (.plain (OpenSpec.upto sawBestsSpec)) sawBestsUptoCard

/-- THE SECOND FORM's CARD OF 'muscovadolaw08.SawWeighed'. -/
def sawWeighedUptoCard : Claim7 := { stood := { row := sawWeighedUptoRow, standIns := [], harness := (true, "4602cdca1c6c403c298f93eeb19107feda67e49bdaddb9144daa4089e6176cbd"), looks := true }, kinds := [], alts := [], goes := true, laidByText := true, laidKinds := [.handle], laidTests := true, laidLooks := .later }
def SawWeighedUptoCardSaid : Prop := Claim7.holds Tryz.pinned (.plain (OpenSpec.upto sawWeighedSpec)) sawWeighedUptoCard

/-- THE SECOND FORM's CARD OF 'muscovadolaw08.SawRefused'. -/
def sawRefusedUptoCard : Claim7 := { stood := { row := sawRefusedUptoRow, standIns := [], harness := (true, "4602cdca1c6c403c298f93eeb19107feda67e49bdaddb9144daa4089e6176cbd"), looks := true }, kinds := [], alts := [], goes := true, laidByText := true, laidKinds := [.handle], laidTests := true, laidLooks := .later }
def SawRefusedUptoCardSaid : Prop := Claim7.holds Tryz.pinned (.plain (OpenSpec.upto sawRefusedSpec)) sawRefusedUptoCard

/-- THE SECOND FORM's CARD OF 'muscovadolaw08.SawMore'. -/
def sawMoreUptoCard : Claim7 := { stood := { row := sawMoreUptoRow, standIns := [], harness := (true, "4602cdca1c6c403c298f93eeb19107feda67e49bdaddb9144daa4089e6176cbd"), looks := true }, kinds := [], alts := [], goes := true, laidByText := true, laidKinds := [.handle], laidTests := true, laidLooks := .later }
def SawMoreUptoCardSaid : Prop := Claim7.holds Tryz.pinned (.plain (OpenSpec.upto sawMoreSpec)) sawMoreUptoCard

/-- THE SECOND FORM's CARD OF 'muscovadolaw08.SawFewer'. -/
def sawFewerUptoCard : Claim7 := { stood := { row := sawFewerUptoRow, standIns := [], harness := (true, "4602cdca1c6c403c298f93eeb19107feda67e49bdaddb9144daa4089e6176cbd"), looks := true }, kinds := [], alts := [], goes := true, laidByText := true, laidKinds := [.handle], laidTests := true, laidLooks := .later }
def SawFewerUptoCardSaid : Prop := Claim7.holds Tryz.pinned (.plain (OpenSpec.upto sawFewerSpec)) sawFewerUptoCard

/-- THE SECOND FORM's CARD OF 'muscovadolaw08.SawSlice'. -/
def sawSliceUptoCard : Claim7 := { stood := { row := sawSliceUptoRow, standIns := [], harness := (true, "4602cdca1c6c403c298f93eeb19107feda67e49bdaddb9144daa4089e6176cbd"), looks := true }, kinds := [], alts := [], goes := true, laidByText := true, laidKinds := [.handle], laidTests := true, laidLooks := .later }
def SawSliceUptoCardSaid : Prop := Claim7.holds Tryz.pinned (.plain (OpenSpec.upto sawSliceSpec)) sawSliceUptoCard

/-- THE SECOND FORM's CARD OF 'muscovadolaw08.SawNumbered'. -/
def sawNumberedUptoCard : Claim7 := { stood := { row := sawNumberedUptoRow, standIns := [], harness := (true, "4602cdca1c6c403c298f93eeb19107feda67e49bdaddb9144daa4089e6176cbd"), looks := true }, kinds := [], alts := [], goes := true, laidByText := true, laidKinds := [.handle], laidTests := true, laidLooks := .later }
def SawNumberedUptoCardSaid : Prop := Claim7.holds Tryz.pinned (.plain (OpenSpec.upto sawNumberedSpec)) sawNumberedUptoCard

/-- THE SECOND FORM's CARD OF 'muscovadolaw08.SawPlans'. -/
def sawPlansUptoCard : Claim7 := { stood := { row := sawPlansUptoRow, standIns := [], harness := (true, "4602cdca1c6c403c298f93eeb19107feda67e49bdaddb9144daa4089e6176cbd"), looks := true }, kinds := [], alts := [], goes := true, laidByText := true, laidKinds := [.handle], laidTests := true, laidLooks := .later }
def SawPlansUptoCardSaid : Prop := Claim7.holds Tryz.pinned (.plain (OpenSpec.upto sawPlansSpec)) sawPlansUptoCard

/-- THE SECOND FORM's CARD OF 'muscovadolaw08.SawCrush'. -/
def sawCrushUptoCard : Claim7 := { stood := { row := sawCrushUptoRow, standIns := [], harness := (true, "4602cdca1c6c403c298f93eeb19107feda67e49bdaddb9144daa4089e6176cbd"), looks := true }, kinds := [], alts := [], goes := true, laidByText := true, laidKinds := [.handle], laidTests := true, laidLooks := .later }
def SawCrushUptoCardSaid : Prop := Claim7.holds Tryz.pinned (.plain (OpenSpec.upto sawCrushSpec)) sawCrushUptoCard

/-- THE SECOND FORM's CARD OF 'muscovadolaw08.SawNeed'. -/
def sawNeedUptoCard : Claim7 := { stood := { row := sawNeedUptoRow, standIns := [], harness := (true, "4602cdca1c6c403c298f93eeb19107feda67e49bdaddb9144daa4089e6176cbd"), looks := true }, kinds := [], alts := [], goes := true, laidByText := true, laidKinds := [.handle], laidTests := true, laidLooks := .later }
def SawNeedUptoCardSaid : Prop := Claim7.holds Tryz.pinned (.plain (OpenSpec.upto sawNeedSpec)) sawNeedUptoCard

/-- THE SECOND FORM's CARD OF 'muscovadolaw08.SawAdd'. -/
def sawAddUptoCard : Claim7 := { stood := { row := sawAddUptoRow, standIns := [], harness := (true, "4602cdca1c6c403c298f93eeb19107feda67e49bdaddb9144daa4089e6176cbd"), looks := true }, kinds := [], alts := [], goes := true, laidByText := true, laidKinds := [.handle], laidTests := true, laidLooks := .later }
def SawAddUptoCardSaid : Prop := Claim7.holds Tryz.pinned (.plain (OpenSpec.upto sawAddSpec)) sawAddUptoCard

/-- THE SECOND FORM's CARD OF 'muscovadolaw08.SawWorths'. -/
def sawWorthsUptoCard : Claim7 := { stood := { row := sawWorthsUptoRow, standIns := [], harness := (true, "4602cdca1c6c403c298f93eeb19107feda67e49bdaddb9144daa4089e6176cbd"), looks := true }, kinds := [], alts := [], goes := true, laidByText := true, laidKinds := [.handle], laidTests := true, laidLooks := .later }
def SawWorthsUptoCardSaid : Prop := Claim7.holds Tryz.pinned (.plain (OpenSpec.upto sawWorthsSpec)) sawWorthsUptoCard

/-- THE SECOND FORM's CARD OF 'muscovadolaw08.SawBest'. -/
def sawBestUptoCard : Claim7 := { stood := { row := sawBestUptoRow, standIns := [], harness := (true, "4602cdca1c6c403c298f93eeb19107feda67e49bdaddb9144daa4089e6176cbd"), looks := true }, kinds := [], alts := [], goes := true, laidByText := true, laidKinds := [.handle], laidTests := true, laidLooks := .later }
def SawBestUptoCardSaid : Prop := Claim7.holds Tryz.pinned (.plain (OpenSpec.upto sawBestSpec)) sawBestUptoCard

/-- THE SECOND FORM's CARD OF 'muscovadolaw08.SawNeeds'. -/
def sawNeedsUptoCard : Claim7 := { stood := { row := sawNeedsUptoRow, standIns := [], harness := (true, "4602cdca1c6c403c298f93eeb19107feda67e49bdaddb9144daa4089e6176cbd"), looks := true }, kinds := [], alts := [], goes := true, laidByText := true, laidKinds := [.handle], laidTests := true, laidLooks := .later }
def SawNeedsUptoCardSaid : Prop := Claim7.holds Tryz.pinned (.plain (OpenSpec.upto sawNeedsSpec)) sawNeedsUptoCard

/-- THE SECOND FORM's CARD OF 'muscovadolaw08.SawKnown'. -/
def sawKnownUptoCard : Claim7 := { stood := { row := sawKnownUptoRow, standIns := [], harness := (true, "4602cdca1c6c403c298f93eeb19107feda67e49bdaddb9144daa4089e6176cbd"), looks := true }, kinds := [], alts := [], goes := true, laidByText := true, laidKinds := [.handle], laidTests := true, laidLooks := .later }
def SawKnownUptoCardSaid : Prop := Claim7.holds Tryz.pinned (.plain (OpenSpec.upto sawKnownSpec)) sawKnownUptoCard
end Rows
end Go.Proofs.YtfnjganjlkoehaaGreatDoor
