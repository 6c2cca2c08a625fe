/-
  DERIVED. GIVEN WITH THE SEED: THE CARDS: each row of YtafbhggbkhckaaaDoorRows.lean that lists a variable, with what it lists TIED to the program's text (the seventh form; the later family's looks); each row that meets fmt, with fmt's text TOLD by the authors' own Lean function (tested against real Go, not proved from fmt's source: count such statements apart). THE CARD IS WHAT COUNTS. Prove the row's statement (the work); the ties are given (YtafbhggbkhckaaaDoorTie.lean); close each card by the builder's one call (the guide's Derived/Test/ToyasCard.lean, 'card_holds'). Laid BY PROGRAM, IN A SANDBOX (cutbox-door.mjs). By AI agents, Wed Nov 11 2026. No macro, syntax, notation, axiom, sorry.
-/
import Derived.Test.YtafbhggbkhckaaaDoorRows
import GoSem.ClaimSeven
namespace Go.Proofs.YtafbhggbkhckaaaDoor
namespace Rows

/-- THE TIED CARD OF 'clerestorykeep2.TokenAlone'. -/
def tokenAloneCard : Claim7 := { stood := { row := tokenAloneRow, standIns := [], harness := (true, "260a74f0318097e3cae0ebcc4347a751ced965e7a5ef6b305f30404c07514004"), looks := false }, kinds := [], alts := [], laidByText := true, laidKinds := [.data, .pinned], laidTests := true, laidLooks := .later }
def TokenAloneCardSaid : Prop := Claim7.holds Tryd.pinned (.plain (OpenSpec.ofChange tokenAloneSpec)) tokenAloneCard

/-- THE TIED CARD OF 'clerestorykeep2.TokenApart'. -/
def tokenApartCard : Claim7 := { stood := { row := tokenApartRow, standIns := [], harness := (true, "260a74f0318097e3cae0ebcc4347a751ced965e7a5ef6b305f30404c07514004"), looks := false }, kinds := [], alts := [], laidByText := true, laidKinds := [.data, .pinned], laidTests := true, laidLooks := .later }
def TokenApartCardSaid : Prop := Claim7.holds Tryd.pinned (.plain (OpenSpec.ofChange tokenApartSpec)) tokenApartCard

/-- THE TIED CARD OF 'clerestorykeep2.TokenAll'. -/
def tokenAllCard : Claim7 := { stood := { row := tokenAllRow, standIns := [], harness := (true, "260a74f0318097e3cae0ebcc4347a751ced965e7a5ef6b305f30404c07514004"), looks := false }, kinds := [], alts := [], laidByText := true, laidKinds := [.data, .pinned], laidTests := true, laidLooks := .later }
def TokenAllCardSaid : Prop := Claim7.holds Tryd.pinned (.plain (OpenSpec.ofChange tokenAllSpec)) tokenAllCard

/-- THE SECOND FORM's CARD OF 'clerestorykeep2.TokenAlone'. -/
def tokenAloneUptoCard : Claim7 := { stood := { row := tokenAloneUptoRow, standIns := [], harness := (true, "260a74f0318097e3cae0ebcc4347a751ced965e7a5ef6b305f30404c07514004"), looks := false }, kinds := [], alts := [], laidByText := true, laidKinds := [.data, .pinned], laidTests := true, laidLooks := .later }
def TokenAloneUptoCardSaid : Prop := Claim7.holds Tryd.pinned (.plain (OpenSpec.upto tokenAloneSpec)) tokenAloneUptoCard

/-- THE SECOND FORM's CARD OF 'clerestorykeep2.TokenApart'. -/
def tokenApartUptoCard : Claim7 := { stood := { row := tokenApartUptoRow, standIns := [], harness := (true, "260a74f0318097e3cae0ebcc4347a751ced965e7a5ef6b305f30404c07514004"), looks := false }, kinds := [], alts := [], laidByText := true, laidKinds := [.data, .pinned], laidTests := true, laidLooks := .later }
def TokenApartUptoCardSaid : Prop := Claim7.holds Tryd.pinned (.plain (OpenSpec.upto tokenApartSpec)) tokenApartUptoCard

/-- THE SECOND FORM's CARD OF 'clerestorykeep2.TokenAll'. -/
def tokenAllUptoCard : Claim7 := { stood := { row := tokenAllUptoRow, standIns := [], harness := (true, "260a74f0318097e3cae0ebcc4347a751ced965e7a5ef6b305f30404c07514004"), looks := false }, kinds := [], alts := [], laidByText := true, laidKinds := [.data, .pinned], laidTests := true, laidLooks := .later }
def TokenAllUptoCardSaid : Prop := Claim7.holds Tryd.pinned (.plain (OpenSpec.upto tokenAllSpec)) tokenAllUptoCard
end Rows
end Go.Proofs.YtafbhggbkhckaaaDoor
