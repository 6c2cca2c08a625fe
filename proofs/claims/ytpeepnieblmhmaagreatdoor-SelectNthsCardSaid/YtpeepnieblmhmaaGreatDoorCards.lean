/-
  DERIVED. GIVEN WITH THE SEED: THE CARDS: each row of YtpeepnieblmhmaaGreatDoorRows.lean that lists a variable, with what it lists TIED to the program's text (the seventh form; the later family's looks); each row that meets fmt, with fmt's text TOLD by the authors' own Lean function (tested against real Go, not proved from fmt's source: count such statements apart). THE CARD IS WHAT COUNTS. Prove the row's statement (the work); the ties are given (YtpeepnieblmhmaaGreatDoorTie.lean); close each card by the builder's one call (the guide's Derived/Test/ToyasCard.lean, 'card_holds'). Laid BY PROGRAM, IN A SANDBOX (cutbox-door.mjs). By AI agents, Wed Nov 11 2026. No macro, syntax, notation, axiom, sorry.
-/
import Derived.Test.YtpeepnieblmhmaaGreatDoorRows
import GoSem.ClaimSeven
namespace Go.Proofs.YtpeepnieblmhmaaGreatDoor
namespace Rows

/-- THE TIED CARD OF 'clerestorykeep2.SelectNths'. -/
def selectNthsCard : Claim7 := { stood := { row := selectNthsRow, standIns := [], harness := (true, "0f15c8aad0ed28507d21b9a8fc5cccdf54154f2a288870114497c92f8289d975"), looks := true }, kinds := [], alts := [], laidByText := true, laidKinds := [.data, .data, .data, .data, .sentinel, .sentinel, .pinned], laidTests := true, laidLooks := .later }
def SelectNthsCardSaid : Prop := Claim7.holds Tryz.pinned (.plain (OpenSpec.ofChange selectNthsSpec)) selectNthsCard

/-- THE TIED CARD OF 'clerestorykeep2.SelectBack'. -/
def selectBackCard : Claim7 := { stood := { row := selectBackRow, standIns := [], harness := (true, "0f15c8aad0ed28507d21b9a8fc5cccdf54154f2a288870114497c92f8289d975"), looks := true }, kinds := [], alts := [], laidByText := true, laidKinds := [.data, .data, .data, .data, .sentinel, .sentinel, .pinned], laidTests := true, laidLooks := .later }
def SelectBackCardSaid : Prop := Claim7.holds Tryz.pinned (.plain (OpenSpec.ofChange selectBackSpec)) selectBackCard

/-- THE TIED CARD OF 'clerestorykeep2.SelectAgain'. -/
def selectAgainCard : Claim7 := { stood := { row := selectAgainRow, standIns := [], harness := (true, "0f15c8aad0ed28507d21b9a8fc5cccdf54154f2a288870114497c92f8289d975"), looks := true }, kinds := [], alts := [], laidByText := true, laidKinds := [.data, .data, .data, .data, .sentinel, .sentinel, .pinned], laidTests := true, laidLooks := .later }
def SelectAgainCardSaid : Prop := Claim7.holds Tryz.pinned (.plain (OpenSpec.ofChange selectAgainSpec)) selectAgainCard

/-- THE TIED CARD OF 'clerestorykeep2.SelectJoins'. -/
def selectJoinsCard : Claim7 := { stood := { row := selectJoinsRow, standIns := [], harness := (true, "0f15c8aad0ed28507d21b9a8fc5cccdf54154f2a288870114497c92f8289d975"), looks := true }, kinds := [], alts := [], laidByText := true, laidKinds := [.data, .data, .data, .data, .sentinel, .sentinel, .pinned], laidTests := true, laidLooks := .later }
def SelectJoinsCardSaid : Prop := Claim7.holds Tryz.pinned (.plain (OpenSpec.ofChange selectJoinsSpec)) selectJoinsCard

/-- THE TIED CARD OF 'clerestorykeep2.WeightAdds'. -/
def weightAddsCard : Claim7 := { stood := { row := weightAddsRow, standIns := [], harness := (true, "0f15c8aad0ed28507d21b9a8fc5cccdf54154f2a288870114497c92f8289d975"), looks := true }, kinds := [], alts := [], laidByText := true, laidKinds := [.data, .data, .data, .data, .sentinel, .sentinel, .pinned], laidTests := true, laidLooks := .later }
def WeightAddsCardSaid : Prop := Claim7.holds Tryz.pinned (.plain (OpenSpec.ofChange weightAddsSpec)) weightAddsCard

/-- THE SECOND FORM's CARD OF 'clerestorykeep2.SelectNths'. -/
def selectNthsUptoCard : Claim7 := { stood := { row := selectNthsUptoRow, standIns := [], harness := (true, "0f15c8aad0ed28507d21b9a8fc5cccdf54154f2a288870114497c92f8289d975"), looks := true }, kinds := [], alts := [], laidByText := true, laidKinds := [.data, .data, .data, .data, .sentinel, .sentinel, .pinned], laidTests := true, laidLooks := .later }
def SelectNthsUptoCardSaid : Prop := Claim7.holds Tryz.pinned (.plain (OpenSpec.upto selectNthsSpec)) selectNthsUptoCard

/-- THE SECOND FORM's CARD OF 'clerestorykeep2.SelectBack'. -/
def selectBackUptoCard : Claim7 := { stood := { row := selectBackUptoRow, standIns := [], harness := (true, "0f15c8aad0ed28507d21b9a8fc5cccdf54154f2a288870114497c92f8289d975"), looks := true }, kinds := [], alts := [], laidByText := true, laidKinds := [.data, .data, .data, .data, .sentinel, .sentinel, .pinned], laidTests := true, laidLooks := .later }
def SelectBackUptoCardSaid : Prop := Claim7.holds Tryz.pinned (.plain (OpenSpec.upto selectBackSpec)) selectBackUptoCard

/-- THE SECOND FORM's CARD OF 'clerestorykeep2.SelectAgain'. -/
def selectAgainUptoCard : Claim7 := { stood := { row := selectAgainUptoRow, standIns := [], harness := (true, "0f15c8aad0ed28507d21b9a8fc5cccdf54154f2a288870114497c92f8289d975"), looks := true }, kinds := [], alts := [], laidByText := true, laidKinds := [.data, .data, .data, .data, .sentinel, .sentinel, .pinned], laidTests := true, laidLooks := .later }
def SelectAgainUptoCardSaid : Prop := Claim7.holds Tryz.pinned (.plain (OpenSpec.upto selectAgainSpec)) selectAgainUptoCard

/-- THE SECOND FORM's CARD OF 'clerestorykeep2.SelectJoins'. -/
def selectJoinsUptoCard : Claim7 := { stood := { row := selectJoinsUptoRow, standIns := [], harness := (true, "0f15c8aad0ed28507d21b9a8fc5cccdf54154f2a288870114497c92f8289d975"), looks := true }, kinds := [], alts := [], laidByText := true, laidKinds := [.data, .data, .data, .data, .sentinel, .sentinel, .pinned], laidTests := true, laidLooks := .later }
def SelectJoinsUptoCardSaid : Prop := Claim7.holds Tryz.pinned (.plain (OpenSpec.upto selectJoinsSpec)) selectJoinsUptoCard

/-- THE SECOND FORM's CARD OF 'clerestorykeep2.WeightAdds'. -/
def weightAddsUptoCard : Claim7 := { stood := { row := weightAddsUptoRow, standIns := [], harness := (true, "0f15c8aad0ed28507d21b9a8fc5cccdf54154f2a288870114497c92f8289d975"), looks := true }, kinds := [], alts := [], laidByText := true, laidKinds := [.data, .data, .data, .data, .sentinel, .sentinel, .pinned], laidTests := true, laidLooks := .later }
def WeightAddsUptoCardSaid : Prop := Claim7.holds Tryz.pinned (.plain (OpenSpec.upto weightAddsSpec)) weightAddsUptoCard
end Rows
end Go.Proofs.YtpeepnieblmhmaaGreatDoor
