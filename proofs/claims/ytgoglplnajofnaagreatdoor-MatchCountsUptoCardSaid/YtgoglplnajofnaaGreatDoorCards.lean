/-
  DERIVED. GIVEN WITH THE SEED: THE CARDS: each row of YtgoglplnajofnaaGreatDoorRows.lean that lists a variable, with what it lists TIED to the program's text (the seventh form; the later family's looks); each row that meets fmt, with fmt's text TOLD by the authors' own Lean function (tested against real Go, not proved from fmt's source: count such statements apart). THE CARD IS WHAT COUNTS. Prove the row's statement (the work); the ties are given (YtgoglplnajofnaaGreatDoorTie.lean); close each card by the builder's one call (the guide's Derived/Test/ToyasCard.lean, 'card_holds'). Laid BY PROGRAM, IN A SANDBOX (cutbox-door.mjs). By AI agents, Wed Nov 11 2026. No macro, syntax, notation, axiom, sorry.
-/
import Derived.Test.YtgoglplnajofnaaGreatDoorRows
import GoSem.ClaimSeven
namespace Go.Proofs.YtgoglplnajofnaaGreatDoor
namespace Rows

/-- THE TIED CARD OF 'clerestorykeep2.MatchCounts'. -/
def matchCountsCard : Claim7 := { stood := { row := matchCountsRow, standIns := [], harness := (true, "dba355073bc695b14aef166ef9ecfd425784e7afc7ba95e5ba02c67ec0e296c0"), looks := true }, kinds := [], alts := [], laidByText := true, laidKinds := [.data, .data, .data, .data, .sentinel, .sentinel, .pinned], laidTests := true, laidLooks := .later }
def MatchCountsCardSaid : Prop := Claim7.holds Tryz.pinned (.plain (OpenSpec.ofChange matchCountsSpec)) matchCountsCard

/-- THE TIED CARD OF 'clerestorykeep2.MatchAll'. -/
def matchAllCard : Claim7 := { stood := { row := matchAllRow, standIns := [], harness := (true, "dba355073bc695b14aef166ef9ecfd425784e7afc7ba95e5ba02c67ec0e296c0"), looks := true }, kinds := [], alts := [], laidByText := true, laidKinds := [.data, .data, .data, .data, .sentinel, .sentinel, .pinned], laidTests := true, laidLooks := .later }
def MatchAllCardSaid : Prop := Claim7.holds Tryz.pinned (.plain (OpenSpec.ofChange matchAllSpec)) matchAllCard

/-- THE TIED CARD OF 'clerestorykeep2.WeightFits'. -/
def weightFitsCard : Claim7 := { stood := { row := weightFitsRow, standIns := [], harness := (true, "dba355073bc695b14aef166ef9ecfd425784e7afc7ba95e5ba02c67ec0e296c0"), looks := true }, kinds := [], alts := [], laidByText := true, laidKinds := [.data, .data, .data, .data, .sentinel, .sentinel, .pinned], laidTests := true, laidLooks := .later }
def WeightFitsCardSaid : Prop := Claim7.holds Tryz.pinned (.plain (OpenSpec.ofChange weightFitsSpec)) weightFitsCard

/-- THE SECOND FORM's CARD OF 'clerestorykeep2.MatchCounts'. -/
def matchCountsUptoCard : Claim7 := { stood := { row := matchCountsUptoRow, standIns := [], harness := (true, "dba355073bc695b14aef166ef9ecfd425784e7afc7ba95e5ba02c67ec0e296c0"), looks := true }, kinds := [], alts := [], laidByText := true, laidKinds := [.data, .data, .data, .data, .sentinel, .sentinel, .pinned], laidTests := true, laidLooks := .later }
def MatchCountsUptoCardSaid : Prop := Claim7.holds Tryz.pinned (.plain (OpenSpec.upto matchCountsSpec)) matchCountsUptoCard

/-- THE SECOND FORM's CARD OF 'clerestorykeep2.MatchAll'. -/
def matchAllUptoCard : Claim7 := { stood := { row := matchAllUptoRow, standIns := [], harness := (true, "dba355073bc695b14aef166ef9ecfd425784e7afc7ba95e5ba02c67ec0e296c0"), looks := true }, kinds := [], alts := [], laidByText := true, laidKinds := [.data, .data, .data, .data, .sentinel, .sentinel, .pinned], laidTests := true, laidLooks := .later }
def MatchAllUptoCardSaid : Prop := Claim7.holds Tryz.pinned (.plain (OpenSpec.upto matchAllSpec)) matchAllUptoCard

/-- THE SECOND FORM's CARD OF 'clerestorykeep2.WeightFits'. -/
def weightFitsUptoCard : Claim7 := { stood := { row := weightFitsUptoRow, standIns := [], harness := (true, "dba355073bc695b14aef166ef9ecfd425784e7afc7ba95e5ba02c67ec0e296c0"), looks := true }, kinds := [], alts := [], laidByText := true, laidKinds := [.data, .data, .data, .data, .sentinel, .sentinel, .pinned], laidTests := true, laidLooks := .later }
def WeightFitsUptoCardSaid : Prop := Claim7.holds Tryz.pinned (.plain (OpenSpec.upto weightFitsSpec)) weightFitsUptoCard
end Rows
end Go.Proofs.YtgoglplnajofnaaGreatDoor
