/-
  DERIVED. GIVEN WITH THE SEED: THE CARDS: each row of YtahodlnphioepaaDoorRows.lean that lists a variable, with what it lists TIED to the program's text (the seventh form; the later family's looks); each row that meets fmt, with fmt's text TOLD by the authors' own Lean function (tested against real Go, not proved from fmt's source: count such statements apart). THE CARD IS WHAT COUNTS. Prove the row's statement (the work); the ties are given (YtahodlnphioepaaDoorTie.lean); close each card by the builder's one call (the guide's Derived/Test/ToyasCard.lean, 'card_holds'). Laid BY PROGRAM, IN A SANDBOX (cutbox-door.mjs). By AI agents, Wed Nov 11 2026. No macro, syntax, notation, axiom, sorry.
-/
import Derived.Test.YtahodlnphioepaaDoorRows
import GoSem.ClaimSeven
namespace Go.Proofs.YtahodlnphioepaaDoor
namespace Rows

/-- THE TIED CARD OF 'clerestorykeep2.DimMore'. -/
def dimMoreCard : Claim7 := { stood := { row := dimMoreRow, standIns := [], harness := (true, "738328bcdb50a25b13282af5bda5539fd67deb5ad6e507dd1bdc4dea5adf778f"), looks := false }, kinds := [], alts := [], laidByText := true, laidKinds := [.data, .widerDeep, .pinned], laidTests := true, laidLooks := .later }
def DimMoreCardSaid : Prop := Claim7.holds Tryd.pinned (.plain (OpenSpec.ofChange dimMoreSpec)) dimMoreCard

/-- THE TIED CARD OF 'clerestorykeep2.DimWhole'. -/
def dimWholeCard : Claim7 := { stood := { row := dimWholeRow, standIns := [], harness := (true, "738328bcdb50a25b13282af5bda5539fd67deb5ad6e507dd1bdc4dea5adf778f"), looks := false }, kinds := [], alts := [], laidByText := true, laidKinds := [.data, .widerDeep, .pinned], laidTests := true, laidLooks := .later }
def DimWholeCardSaid : Prop := Claim7.holds Tryd.pinned (.plain (OpenSpec.ofChange dimWholeSpec)) dimWholeCard

/-- THE TIED CARD OF 'clerestorykeep2.CountNext'. -/
def countNextCard : Claim7 := { stood := { row := countNextRow, standIns := [], harness := (true, "738328bcdb50a25b13282af5bda5539fd67deb5ad6e507dd1bdc4dea5adf778f"), looks := false }, kinds := [], alts := [], laidByText := true, laidKinds := [.data, .data, .data, .data, .pinned, .pinned], laidTests := true, laidLooks := .later }
def CountNextCardSaid : Prop := Claim7.holds Tryd.pinned (.plain (OpenSpec.ofChange countNextSpec)) countNextCard

/-- THE TIED CARD OF 'clerestorykeep2.VarPlain'. -/
def varPlainCard : Claim7 := { stood := { row := varPlainRow, standIns := [], harness := (true, "738328bcdb50a25b13282af5bda5539fd67deb5ad6e507dd1bdc4dea5adf778f"), looks := false }, kinds := [], alts := [], laidByText := true, laidKinds := [.data, .data, .data, .pinned, .pinned], laidTests := true, laidLooks := .later }
def VarPlainCardSaid : Prop := Claim7.holds Tryd.pinned (.plain (OpenSpec.ofChange varPlainSpec)) varPlainCard

/-- THE TIED CARD OF 'clerestorykeep2.DimBack'. -/
def dimBackCard : Claim7 := { stood := { row := dimBackRow, standIns := [], harness := (true, "738328bcdb50a25b13282af5bda5539fd67deb5ad6e507dd1bdc4dea5adf778f"), looks := false }, kinds := [], alts := [], laidByText := true, laidKinds := [.data, .data, .data, .data, .widerDeep, .pinned], laidTests := true, laidLooks := .later }
def DimBackCardSaid : Prop := Claim7.holds Tryd.pinned (.plain (OpenSpec.ofChange dimBackSpec)) dimBackCard

/-- THE TIED CARD OF 'clerestorykeep2.RuleLarge'. -/
def ruleLargeCard : Claim7 := { stood := { row := ruleLargeRow, standIns := [], harness := (true, "738328bcdb50a25b13282af5bda5539fd67deb5ad6e507dd1bdc4dea5adf778f"), looks := false }, kinds := [], alts := [], laidByText := true, laidKinds := [.data, .data, .data, .pinned, .pinned], laidTests := true, laidLooks := .later }
def RuleLargeCardSaid : Prop := Claim7.holds Tryd.pinned (.plain (OpenSpec.ofChange ruleLargeSpec)) ruleLargeCard

/-- THE TIED CARD OF 'clerestorykeep2.DeclSpoils'. -/
def declSpoilsCard : Claim7 := { stood := { row := declSpoilsRow, standIns := [], harness := (true, "738328bcdb50a25b13282af5bda5539fd67deb5ad6e507dd1bdc4dea5adf778f"), looks := false }, kinds := [], alts := [], laidByText := true, laidKinds := [.data, .data, .data, .pinned, .pinned], laidTests := true, laidLooks := .later }
def DeclSpoilsCardSaid : Prop := Claim7.holds Tryd.pinned (.plain (OpenSpec.ofChange declSpoilsSpec)) declSpoilsCard

/-- THE TIED CARD OF 'clerestorykeep2.DeclImportant'. -/
def declImportantCard : Claim7 := { stood := { row := declImportantRow, standIns := [], harness := (true, "738328bcdb50a25b13282af5bda5539fd67deb5ad6e507dd1bdc4dea5adf778f"), looks := false }, kinds := [], alts := [], laidByText := true, laidKinds := [.data, .data, .data, .pinned, .pinned], laidTests := true, laidLooks := .later }
def DeclImportantCardSaid : Prop := Claim7.holds Tryd.pinned (.plain (OpenSpec.ofChange declImportantSpec)) declImportantCard

/-- THE TIED CARD OF 'clerestorykeep2.DeclShown'. -/
def declShownCard : Claim7 := { stood := { row := declShownRow, standIns := [], harness := (true, "738328bcdb50a25b13282af5bda5539fd67deb5ad6e507dd1bdc4dea5adf778f"), looks := false }, kinds := [], alts := [], laidByText := true, laidKinds := [.data, .data, .data, .pinned, .pinned], laidTests := true, laidLooks := .later }
def DeclShownCardSaid : Prop := Claim7.holds Tryd.pinned (.plain (OpenSpec.ofChange declShownSpec)) declShownCard

/-- THE TIED CARD OF 'clerestorykeep2.VarAgain'. -/
def varAgainCard : Claim7 := { stood := { row := varAgainRow, standIns := [], harness := (true, "738328bcdb50a25b13282af5bda5539fd67deb5ad6e507dd1bdc4dea5adf778f"), looks := false }, kinds := [], alts := [], laidByText := true, laidKinds := [.data, .data, .data, .pinned, .pinned], laidTests := true, laidLooks := .later }
def VarAgainCardSaid : Prop := Claim7.holds Tryd.pinned (.plain (OpenSpec.ofChange varAgainSpec)) varAgainCard

/-- THE TIED CARD OF 'clerestorykeep2.VarRing'. -/
def varRingCard : Claim7 := { stood := { row := varRingRow, standIns := [], harness := (true, "738328bcdb50a25b13282af5bda5539fd67deb5ad6e507dd1bdc4dea5adf778f"), looks := false }, kinds := [], alts := [], laidByText := true, laidKinds := [.data, .data, .data, .pinned, .pinned], laidTests := true, laidLooks := .later }
def VarRingCardSaid : Prop := Claim7.holds Tryd.pinned (.plain (OpenSpec.ofChange varRingSpec)) varRingCard

/-- THE TIED CARD OF 'clerestorykeep2.VarTurned'. -/
def varTurnedCard : Claim7 := { stood := { row := varTurnedRow, standIns := [], harness := (true, "738328bcdb50a25b13282af5bda5539fd67deb5ad6e507dd1bdc4dea5adf778f"), looks := false }, kinds := [], alts := [], laidByText := true, laidKinds := [.data, .data, .data, .pinned, .pinned], laidTests := true, laidLooks := .later }
def VarTurnedCardSaid : Prop := Claim7.holds Tryd.pinned (.plain (OpenSpec.ofChange varTurnedSpec)) varTurnedCard

/-- THE SECOND FORM's CARD OF 'clerestorykeep2.DimMore'. -/
def dimMoreUptoCard : Claim7 := { stood := { row := dimMoreUptoRow, standIns := [], harness := (true, "738328bcdb50a25b13282af5bda5539fd67deb5ad6e507dd1bdc4dea5adf778f"), looks := false }, kinds := [], alts := [], laidByText := true, laidKinds := [.data, .widerDeep, .pinned], laidTests := true, laidLooks := .later }
def DimMoreUptoCardSaid : Prop := Claim7.holds Tryd.pinned (.plain (OpenSpec.upto dimMoreSpec)) dimMoreUptoCard

/-- THE SECOND FORM's CARD OF 'clerestorykeep2.DimWhole'. -/
def dimWholeUptoCard : Claim7 := { stood := { row := dimWholeUptoRow, standIns := [], harness := (true, "738328bcdb50a25b13282af5bda5539fd67deb5ad6e507dd1bdc4dea5adf778f"), looks := false }, kinds := [], alts := [], laidByText := true, laidKinds := [.data, .widerDeep, .pinned], laidTests := true, laidLooks := .later }
def DimWholeUptoCardSaid : Prop := Claim7.holds Tryd.pinned (.plain (OpenSpec.upto dimWholeSpec)) dimWholeUptoCard

/-- THE SECOND FORM's CARD OF 'clerestorykeep2.CountNext'. -/
def countNextUptoCard : Claim7 := { stood := { row := countNextUptoRow, standIns := [], harness := (true, "738328bcdb50a25b13282af5bda5539fd67deb5ad6e507dd1bdc4dea5adf778f"), looks := false }, kinds := [], alts := [], laidByText := true, laidKinds := [.data, .data, .data, .data, .pinned, .pinned], laidTests := true, laidLooks := .later }
def CountNextUptoCardSaid : Prop := Claim7.holds Tryd.pinned (.plain (OpenSpec.upto countNextSpec)) countNextUptoCard

/-- THE SECOND FORM's CARD OF 'clerestorykeep2.VarPlain'. -/
def varPlainUptoCard : Claim7 := { stood := { row := varPlainUptoRow, standIns := [], harness := (true, "738328bcdb50a25b13282af5bda5539fd67deb5ad6e507dd1bdc4dea5adf778f"), looks := false }, kinds := [], alts := [], laidByText := true, laidKinds := [.data, .data, .data, .pinned, .pinned], laidTests := true, laidLooks := .later }
def VarPlainUptoCardSaid : Prop := Claim7.holds Tryd.pinned (.plain (OpenSpec.upto varPlainSpec)) varPlainUptoCard

/-- THE SECOND FORM's CARD OF 'clerestorykeep2.DimBack'. -/
def dimBackUptoCard : Claim7 := { stood := { row := dimBackUptoRow, standIns := [], harness := (true, "738328bcdb50a25b13282af5bda5539fd67deb5ad6e507dd1bdc4dea5adf778f"), looks := false }, kinds := [], alts := [], laidByText := true, laidKinds := [.data, .data, .data, .data, .widerDeep, .pinned], laidTests := true, laidLooks := .later }
def DimBackUptoCardSaid : Prop := Claim7.holds Tryd.pinned (.plain (OpenSpec.upto dimBackSpec)) dimBackUptoCard

/-- THE SECOND FORM's CARD OF 'clerestorykeep2.RuleLarge'. -/
def ruleLargeUptoCard : Claim7 := { stood := { row := ruleLargeUptoRow, standIns := [], harness := (true, "738328bcdb50a25b13282af5bda5539fd67deb5ad6e507dd1bdc4dea5adf778f"), looks := false }, kinds := [], alts := [], laidByText := true, laidKinds := [.data, .data, .data, .pinned, .pinned], laidTests := true, laidLooks := .later }
def RuleLargeUptoCardSaid : Prop := Claim7.holds Tryd.pinned (.plain (OpenSpec.upto ruleLargeSpec)) ruleLargeUptoCard

/-- THE SECOND FORM's CARD OF 'clerestorykeep2.DeclSpoils'. -/
def declSpoilsUptoCard : Claim7 := { stood := { row := declSpoilsUptoRow, standIns := [], harness := (true, "738328bcdb50a25b13282af5bda5539fd67deb5ad6e507dd1bdc4dea5adf778f"), looks := false }, kinds := [], alts := [], laidByText := true, laidKinds := [.data, .data, .data, .pinned, .pinned], laidTests := true, laidLooks := .later }
def DeclSpoilsUptoCardSaid : Prop := Claim7.holds Tryd.pinned (.plain (OpenSpec.upto declSpoilsSpec)) declSpoilsUptoCard

/-- THE SECOND FORM's CARD OF 'clerestorykeep2.DeclImportant'. -/
def declImportantUptoCard : Claim7 := { stood := { row := declImportantUptoRow, standIns := [], harness := (true, "738328bcdb50a25b13282af5bda5539fd67deb5ad6e507dd1bdc4dea5adf778f"), looks := false }, kinds := [], alts := [], laidByText := true, laidKinds := [.data, .data, .data, .pinned, .pinned], laidTests := true, laidLooks := .later }
def DeclImportantUptoCardSaid : Prop := Claim7.holds Tryd.pinned (.plain (OpenSpec.upto declImportantSpec)) declImportantUptoCard

/-- THE SECOND FORM's CARD OF 'clerestorykeep2.DeclShown'. -/
def declShownUptoCard : Claim7 := { stood := { row := declShownUptoRow, standIns := [], harness := (true, "738328bcdb50a25b13282af5bda5539fd67deb5ad6e507dd1bdc4dea5adf778f"), looks := false }, kinds := [], alts := [], laidByText := true, laidKinds := [.data, .data, .data, .pinned, .pinned], laidTests := true, laidLooks := .later }
def DeclShownUptoCardSaid : Prop := Claim7.holds Tryd.pinned (.plain (OpenSpec.upto declShownSpec)) declShownUptoCard

/-- THE SECOND FORM's CARD OF 'clerestorykeep2.VarAgain'. -/
def varAgainUptoCard : Claim7 := { stood := { row := varAgainUptoRow, standIns := [], harness := (true, "738328bcdb50a25b13282af5bda5539fd67deb5ad6e507dd1bdc4dea5adf778f"), looks := false }, kinds := [], alts := [], laidByText := true, laidKinds := [.data, .data, .data, .pinned, .pinned], laidTests := true, laidLooks := .later }
def VarAgainUptoCardSaid : Prop := Claim7.holds Tryd.pinned (.plain (OpenSpec.upto varAgainSpec)) varAgainUptoCard

/-- THE SECOND FORM's CARD OF 'clerestorykeep2.VarRing'. -/
def varRingUptoCard : Claim7 := { stood := { row := varRingUptoRow, standIns := [], harness := (true, "738328bcdb50a25b13282af5bda5539fd67deb5ad6e507dd1bdc4dea5adf778f"), looks := false }, kinds := [], alts := [], laidByText := true, laidKinds := [.data, .data, .data, .pinned, .pinned], laidTests := true, laidLooks := .later }
def VarRingUptoCardSaid : Prop := Claim7.holds Tryd.pinned (.plain (OpenSpec.upto varRingSpec)) varRingUptoCard

/-- THE SECOND FORM's CARD OF 'clerestorykeep2.VarTurned'. -/
def varTurnedUptoCard : Claim7 := { stood := { row := varTurnedUptoRow, standIns := [], harness := (true, "738328bcdb50a25b13282af5bda5539fd67deb5ad6e507dd1bdc4dea5adf778f"), looks := false }, kinds := [], alts := [], laidByText := true, laidKinds := [.data, .data, .data, .pinned, .pinned], laidTests := true, laidLooks := .later }
def VarTurnedUptoCardSaid : Prop := Claim7.holds Tryd.pinned (.plain (OpenSpec.upto varTurnedSpec)) varTurnedUptoCard
end Rows
end Go.Proofs.YtahodlnphioepaaDoor
