/-
  DERIVED. GIVEN WITH THE SEED: THE CARDS: each row of YtipobmmndkgdfaaDoorRows.lean that lists a variable, with what it lists TIED to the program's text (the seventh form; the later family's looks); each row that meets fmt, with fmt's text TOLD by the authors' own Lean function (tested against real Go, not proved from fmt's source: count such statements apart). THE CARD IS WHAT COUNTS. Prove the row's statement (the work); the ties are given (YtipobmmndkgdfaaDoorTie.lean); close each card by the builder's one call (the guide's Derived/Test/ToyasCard.lean, 'card_holds'). Laid BY PROGRAM, IN A SANDBOX (cutbox-door.mjs). By AI agents, Wed Nov 11 2026. No macro, syntax, notation, axiom, sorry.
-/
import Derived.Test.YtipobmmndkgdfaaDoorRows
import GoSem.ClaimSeven
namespace Go.Proofs.YtipobmmndkgdfaaDoor
namespace Rows

/-- THE TIED CARD OF 'clerestorykeep2.VarAgain'. -/
def varAgainCard : Claim7 := { stood := { row := varAgainRow, standIns := [], harness := (true, "4c60918c8002ec7a909d6d9982a0ccd7d6da959eb754bda69e28b6ac4024af56"), looks := false }, kinds := [], alts := [], laidByText := true, laidKinds := [.data, .data, .data, .pinned, .pinned], laidTests := true, laidLooks := .later }
def VarAgainCardSaid : Prop := Claim7.holds Tryd.pinned (.plain (OpenSpec.ofChange varAgainSpec)) varAgainCard

/-- THE TIED CARD OF 'clerestorykeep2.VarRing'. -/
def varRingCard : Claim7 := { stood := { row := varRingRow, standIns := [], harness := (true, "4c60918c8002ec7a909d6d9982a0ccd7d6da959eb754bda69e28b6ac4024af56"), looks := false }, kinds := [], alts := [], laidByText := true, laidKinds := [.data, .data, .data, .pinned, .pinned], laidTests := true, laidLooks := .later }
def VarRingCardSaid : Prop := Claim7.holds Tryd.pinned (.plain (OpenSpec.ofChange varRingSpec)) varRingCard

/-- THE TIED CARD OF 'clerestorykeep2.VarTurned'. -/
def varTurnedCard : Claim7 := { stood := { row := varTurnedRow, standIns := [], harness := (true, "4c60918c8002ec7a909d6d9982a0ccd7d6da959eb754bda69e28b6ac4024af56"), looks := false }, kinds := [], alts := [], laidByText := true, laidKinds := [.data, .data, .data, .pinned, .pinned], laidTests := true, laidLooks := .later }
def VarTurnedCardSaid : Prop := Claim7.holds Tryd.pinned (.plain (OpenSpec.ofChange varTurnedSpec)) varTurnedCard

/-- THE SECOND FORM's CARD OF 'clerestorykeep2.VarAgain'. -/
def varAgainUptoCard : Claim7 := { stood := { row := varAgainUptoRow, standIns := [], harness := (true, "4c60918c8002ec7a909d6d9982a0ccd7d6da959eb754bda69e28b6ac4024af56"), looks := false }, kinds := [], alts := [], laidByText := true, laidKinds := [.data, .data, .data, .pinned, .pinned], laidTests := true, laidLooks := .later }
def VarAgainUptoCardSaid : Prop := Claim7.holds Tryd.pinned (.plain (OpenSpec.upto varAgainSpec)) varAgainUptoCard

/-- THE SECOND FORM's CARD OF 'clerestorykeep2.VarRing'. -/
def varRingUptoCard : Claim7 := { stood := { row := varRingUptoRow, standIns := [], harness := (true, "4c60918c8002ec7a909d6d9982a0ccd7d6da959eb754bda69e28b6ac4024af56"), looks := false }, kinds := [], alts := [], laidByText := true, laidKinds := [.data, .data, .data, .pinned, .pinned], laidTests := true, laidLooks := .later }
def VarRingUptoCardSaid : Prop := Claim7.holds Tryd.pinned (.plain (OpenSpec.upto varRingSpec)) varRingUptoCard

/-- THE SECOND FORM's CARD OF 'clerestorykeep2.VarTurned'. -/
def varTurnedUptoCard : Claim7 := { stood := { row := varTurnedUptoRow, standIns := [], harness := (true, "4c60918c8002ec7a909d6d9982a0ccd7d6da959eb754bda69e28b6ac4024af56"), looks := false }, kinds := [], alts := [], laidByText := true, laidKinds := [.data, .data, .data, .pinned, .pinned], laidTests := true, laidLooks := .later }
def VarTurnedUptoCardSaid : Prop := Claim7.holds Tryd.pinned (.plain (OpenSpec.upto varTurnedSpec)) varTurnedUptoCard
end Rows
end Go.Proofs.YtipobmmndkgdfaaDoor
