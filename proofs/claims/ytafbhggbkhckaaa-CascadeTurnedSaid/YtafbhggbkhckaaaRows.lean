/-
  No cell of these rows narrows 'for every input' (looked for: loops, veiled, ifaces, maps, wideKeys, modest, calm, conditions, laid).
  DERIVED. THE GIVEN ROWS OF THIS SEAT. 9 by the template 'for every input the law returns true; each argument reads behind the call as it read before'; 0 by the template 'total and deterministic' (their statements: YtafbhggbkhckaaaTotals.lean).
  GIVEN WITH THE SEED: the statements are not yours to turn. If you find one false, say at which input.
  Laid BY PROGRAM, IN A SANDBOX (cutbox-rows.mjs): the forced cells as the released guide's own fill.sh prints them over the translation f698b8631624fb20… (all of the seat's roots in one cut). By AI agents, Wed Nov 11 2026. No macro, syntax, notation, axiom, sorry.
-/
import Derived.Test.YtafbhggbkhckaaaChecked
import GoSem.Claim
import GoSem.ClaimJoined
import GoSem.ClaimMapViews
import Derived.JoinedTies
import Derived.KernelRfl
namespace Go.Proofs.Ytafbhggbkhckaaa
/- THE CELL 'sum', in the pinned program and in every row, IS THE sha256 OF THE DUMP (.gsa) THAT YtafbhggbkhckaaaProg.lean LOADS. Nothing in Lean hashes anything: it is a label: what it is worth is what the hold of that sum in a sandbox is worth. -/
noncomputable def Try.pinned : Pinned := { name := "ytafbhggbkhckaaa", sum := "f698b8631624fb2046d1e42638064d22f865adabd983f1fb565e286d24579e7b", checked := Try.checked }
namespace Rows
def none {H : Type} : Left H := { results := [], args := [] }

/-- 'clerestorykeep2.CascadeTotal': WHATEVER THE INPUT: true; the input reads as it did. -/
def cascadeTotalSpec : ChangeSpec := { name := "cascadeTotal", fn := fun _ => fun
  | [d1, d2, d3] => { results := [.lit (.bool true)], args := [d1, d2, d3] }
  | _ => none }
def cascadeTotalRow : OpenClaim := { program := "ytafbhggbkhckaaa", sum := "f698b8631624fb2046d1e42638064d22f865adabd983f1fb565e286d24579e7b", func := "clerestory/clerestorykeep2.CascadeTotal", spec := "cascadeTotal", apart := false }
def CascadeTotalSaid : Prop := cascadeTotalRow.holds Try.pinned (OpenSpec.ofChange cascadeTotalSpec)

/-- ITS FALSE NEIGHBOUR: 'it returns false'. Refute it at one input. -/
def cascadeTotalWrong : ChangeSpec := { name := "cascadeTotal", fn := fun _ => fun
  | [d1, d2, d3] => { results := [.lit (.bool false)], args := [d1, d2, d3] }
  | _ => none }
def CascadeTotalWrongFalsely : Prop := cascadeTotalRow.holds Try.pinned (OpenSpec.ofChange cascadeTotalWrong)

/-- 'clerestorykeep2.AnimRises': WHATEVER THE INPUT: true; the input reads as it did. -/
def animRisesSpec : ChangeSpec := { name := "animRises", fn := fun _ => fun
  | [d1, d2, d3] => { results := [.lit (.bool true)], args := [d1, d2, d3] }
  | _ => none }
def animRisesRow : OpenClaim := { program := "ytafbhggbkhckaaa", sum := "f698b8631624fb2046d1e42638064d22f865adabd983f1fb565e286d24579e7b", func := "clerestory/clerestorykeep2.AnimRises", spec := "animRises", apart := false }
def AnimRisesSaid : Prop := animRisesRow.holds Try.pinned (OpenSpec.ofChange animRisesSpec)

/-- ITS FALSE NEIGHBOUR: 'it returns false'. Refute it at one input. -/
def animRisesWrong : ChangeSpec := { name := "animRises", fn := fun _ => fun
  | [d1, d2, d3] => { results := [.lit (.bool false)], args := [d1, d2, d3] }
  | _ => none }
def AnimRisesWrongFalsely : Prop := animRisesRow.holds Try.pinned (OpenSpec.ofChange animRisesWrong)

/-- 'clerestorykeep2.CascadeTurned': WHATEVER THE INPUT: true; the input reads as it did. -/
def cascadeTurnedSpec : ChangeSpec := { name := "cascadeTurned", fn := fun _ => fun
  | [d] => { results := [.lit (.bool true)], args := [d] }
  | _ => none }
def cascadeTurnedRow : OpenClaim := { program := "ytafbhggbkhckaaa", sum := "f698b8631624fb2046d1e42638064d22f865adabd983f1fb565e286d24579e7b", func := "clerestory/clerestorykeep2.CascadeTurned", spec := "cascadeTurned", apart := false }
def CascadeTurnedSaid : Prop := cascadeTurnedRow.holds Try.pinned (OpenSpec.ofChange cascadeTurnedSpec)

/-- ITS FALSE NEIGHBOUR: 'it returns false'. Refute it at one input. -/
def cascadeTurnedWrong : ChangeSpec := { name := "cascadeTurned", fn := fun _ => fun
  | [d] => { results := [.lit (.bool false)], args := [d] }
  | _ => none }
def CascadeTurnedWrongFalsely : Prop := cascadeTurnedRow.holds Try.pinned (OpenSpec.ofChange cascadeTurnedWrong)

/-- 'clerestorykeep2.CascadeOne': WHATEVER THE INPUT: true; the input reads as it did. -/
def cascadeOneSpec : ChangeSpec := { name := "cascadeOne", fn := fun _ => fun
  | [d] => { results := [.lit (.bool true)], args := [d] }
  | _ => none }
def cascadeOneRow : OpenClaim := { program := "ytafbhggbkhckaaa", sum := "f698b8631624fb2046d1e42638064d22f865adabd983f1fb565e286d24579e7b", func := "clerestory/clerestorykeep2.CascadeOne", spec := "cascadeOne", apart := false }
def CascadeOneSaid : Prop := cascadeOneRow.holds Try.pinned (OpenSpec.ofChange cascadeOneSpec)

/-- ITS FALSE NEIGHBOUR: 'it returns false'. Refute it at one input. -/
def cascadeOneWrong : ChangeSpec := { name := "cascadeOne", fn := fun _ => fun
  | [d] => { results := [.lit (.bool false)], args := [d] }
  | _ => none }
def CascadeOneWrongFalsely : Prop := cascadeOneRow.holds Try.pinned (OpenSpec.ofChange cascadeOneWrong)

/-- 'clerestorykeep2.AnimBetween': WHATEVER THE INPUT: true; the input reads as it did. -/
def animBetweenSpec : ChangeSpec := { name := "animBetween", fn := fun _ => fun
  | [d1, d2, d3, d4] => { results := [.lit (.bool true)], args := [d1, d2, d3, d4] }
  | _ => none }
def animBetweenRow : OpenClaim := { program := "ytafbhggbkhckaaa", sum := "f698b8631624fb2046d1e42638064d22f865adabd983f1fb565e286d24579e7b", func := "clerestory/clerestorykeep2.AnimBetween", spec := "animBetween", apart := false }
def AnimBetweenSaid : Prop := animBetweenRow.holds Try.pinned (OpenSpec.ofChange animBetweenSpec)

/-- ITS FALSE NEIGHBOUR: 'it returns false'. Refute it at one input. -/
def animBetweenWrong : ChangeSpec := { name := "animBetween", fn := fun _ => fun
  | [d1, d2, d3, d4] => { results := [.lit (.bool false)], args := [d1, d2, d3, d4] }
  | _ => none }
def AnimBetweenWrongFalsely : Prop := animBetweenRow.holds Try.pinned (OpenSpec.ofChange animBetweenWrong)

/-- 'clerestorykeep2.AnimMoved': WHATEVER THE INPUT: true; the input reads as it did. -/
def animMovedSpec : ChangeSpec := { name := "animMoved", fn := fun _ => fun
  | [d1, d2, d3, d4] => { results := [.lit (.bool true)], args := [d1, d2, d3, d4] }
  | _ => none }
def animMovedRow : OpenClaim := { program := "ytafbhggbkhckaaa", sum := "f698b8631624fb2046d1e42638064d22f865adabd983f1fb565e286d24579e7b", func := "clerestory/clerestorykeep2.AnimMoved", spec := "animMoved", apart := false }
def AnimMovedSaid : Prop := animMovedRow.holds Try.pinned (OpenSpec.ofChange animMovedSpec)

/-- ITS FALSE NEIGHBOUR: 'it returns false'. Refute it at one input. -/
def animMovedWrong : ChangeSpec := { name := "animMoved", fn := fun _ => fun
  | [d1, d2, d3, d4] => { results := [.lit (.bool false)], args := [d1, d2, d3, d4] }
  | _ => none }
def AnimMovedWrongFalsely : Prop := animMovedRow.holds Try.pinned (OpenSpec.ofChange animMovedWrong)

/-- 'clerestorykeep2.AnimFrames': WHATEVER THE INPUT: true; the input reads as it did. -/
def animFramesSpec : ChangeSpec := { name := "animFrames", fn := fun _ => fun
  | [d1, d2, d3] => { results := [.lit (.bool true)], args := [d1, d2, d3] }
  | _ => none }
def animFramesRow : OpenClaim := { program := "ytafbhggbkhckaaa", sum := "f698b8631624fb2046d1e42638064d22f865adabd983f1fb565e286d24579e7b", func := "clerestory/clerestorykeep2.AnimFrames", spec := "animFrames", apart := false }
def AnimFramesSaid : Prop := animFramesRow.holds Try.pinned (OpenSpec.ofChange animFramesSpec)

/-- ITS FALSE NEIGHBOUR: 'it returns false'. Refute it at one input. -/
def animFramesWrong : ChangeSpec := { name := "animFrames", fn := fun _ => fun
  | [d1, d2, d3] => { results := [.lit (.bool false)], args := [d1, d2, d3] }
  | _ => none }
def AnimFramesWrongFalsely : Prop := animFramesRow.holds Try.pinned (OpenSpec.ofChange animFramesWrong)

/-- 'clerestorykeep2.AnimTurned': WHATEVER THE INPUT: true; the input reads as it did. -/
def animTurnedSpec : ChangeSpec := { name := "animTurned", fn := fun _ => fun
  | [d1, d2, d3] => { results := [.lit (.bool true)], args := [d1, d2, d3] }
  | _ => none }
def animTurnedRow : OpenClaim := { program := "ytafbhggbkhckaaa", sum := "f698b8631624fb2046d1e42638064d22f865adabd983f1fb565e286d24579e7b", func := "clerestory/clerestorykeep2.AnimTurned", spec := "animTurned", apart := false }
def AnimTurnedSaid : Prop := animTurnedRow.holds Try.pinned (OpenSpec.ofChange animTurnedSpec)

/-- ITS FALSE NEIGHBOUR: 'it returns false'. Refute it at one input. -/
def animTurnedWrong : ChangeSpec := { name := "animTurned", fn := fun _ => fun
  | [d1, d2, d3] => { results := [.lit (.bool false)], args := [d1, d2, d3] }
  | _ => none }
def AnimTurnedWrongFalsely : Prop := animTurnedRow.holds Try.pinned (OpenSpec.ofChange animTurnedWrong)

/-- 'clerestorykeep2.AnimWakes': WHATEVER THE INPUT: true; the input reads as it did. -/
def animWakesSpec : ChangeSpec := { name := "animWakes", fn := fun _ => fun
  | [d1, d2, d3, d4] => { results := [.lit (.bool true)], args := [d1, d2, d3, d4] }
  | _ => none }
def animWakesRow : OpenClaim := { program := "ytafbhggbkhckaaa", sum := "f698b8631624fb2046d1e42638064d22f865adabd983f1fb565e286d24579e7b", func := "clerestory/clerestorykeep2.AnimWakes", spec := "animWakes", apart := false }
def AnimWakesSaid : Prop := animWakesRow.holds Try.pinned (OpenSpec.ofChange animWakesSpec)

/-- ITS FALSE NEIGHBOUR: 'it returns false'. Refute it at one input. -/
def animWakesWrong : ChangeSpec := { name := "animWakes", fn := fun _ => fun
  | [d1, d2, d3, d4] => { results := [.lit (.bool false)], args := [d1, d2, d3, d4] }
  | _ => none }
def AnimWakesWrongFalsely : Prop := animWakesRow.holds Try.pinned (OpenSpec.ofChange animWakesWrong)

/- THE SECOND FORM. 'bulk': how many values and letters a reading holds, each counted each time it is reached (what is shared counts as often as it is met; a slice's spare places count too). A statement '..UptoSaid' is the law's where the arguments, and the package variables that the reading takes, are together of bulk at most 1048576: NARROWER than '..Said'. Prove '..Said' where nothing that the law and all that it calls make is longer than what came in: it says more and counts as full. Else prove '..UptoSaid'. A law counts once. -/
mutual
def uptoBulk {H : Type} : DataW H → Nat
  | .lit (.string bytes) => bytes.length + 1
  | .lit _ => 1
  | .nil => 1
  | .ptr d => uptoBulk d + 1
  | .slice elems spare => uptoBulkAll elems + uptoBulkAll spare + 1
  | .agg parts => uptoBulkAll parts + 1
  | .iface _ d => uptoBulk d + 1
  | .map entries => uptoBulkEntries entries + 1
  | .held _ => 1
def uptoBulkAll {H : Type} : List (DataW H) → Nat
  | [] => 0
  | d :: r => uptoBulk d + uptoBulkAll r
def uptoBulkEntries {H : Type} : List (Lit × DataW H) → Nat
  | [] => 0
  | x :: r => uptoBulkEntry x + uptoBulkEntries r
def uptoBulkEntry {H : Type} : Lit × DataW H → Nat
  | (.string bytes, d) => bytes.length + uptoBulk d + 1
  | (_, d) => uptoBulk d + 1
 end
def uptoSmall : (H : Type) → List (DataW H) → Bool := fun _ ds => decide (uptoBulkAll ds ≤ 1048576)
def OpenSpec.upto (s : _root_.Go.ChangeSpec) : _root_.Go.OpenSpec := { _root_.Go.OpenSpec.ofChange s with cond := some uptoSmall }

/-- 'clerestorykeep2.CascadeTotal', WHERE WHAT IT READS IS OF BULK AT MOST 1048576: true; the input reads as it did. -/
def cascadeTotalUptoRow : OpenClaim := { program := "ytafbhggbkhckaaa", sum := "f698b8631624fb2046d1e42638064d22f865adabd983f1fb565e286d24579e7b", func := "clerestory/clerestorykeep2.CascadeTotal", spec := "cascadeTotal", apart := false, narrowed := true }
def CascadeTotalUptoSaid : Prop := cascadeTotalUptoRow.holds Try.pinned (OpenSpec.upto cascadeTotalSpec)

/-- 'clerestorykeep2.AnimRises', WHERE WHAT IT READS IS OF BULK AT MOST 1048576: true; the input reads as it did. -/
def animRisesUptoRow : OpenClaim := { program := "ytafbhggbkhckaaa", sum := "f698b8631624fb2046d1e42638064d22f865adabd983f1fb565e286d24579e7b", func := "clerestory/clerestorykeep2.AnimRises", spec := "animRises", apart := false, narrowed := true }
def AnimRisesUptoSaid : Prop := animRisesUptoRow.holds Try.pinned (OpenSpec.upto animRisesSpec)

/-- 'clerestorykeep2.CascadeTurned', WHERE WHAT IT READS IS OF BULK AT MOST 1048576: true; the input reads as it did. -/
def cascadeTurnedUptoRow : OpenClaim := { program := "ytafbhggbkhckaaa", sum := "f698b8631624fb2046d1e42638064d22f865adabd983f1fb565e286d24579e7b", func := "clerestory/clerestorykeep2.CascadeTurned", spec := "cascadeTurned", apart := false, narrowed := true }
def CascadeTurnedUptoSaid : Prop := cascadeTurnedUptoRow.holds Try.pinned (OpenSpec.upto cascadeTurnedSpec)

/-- 'clerestorykeep2.CascadeOne', WHERE WHAT IT READS IS OF BULK AT MOST 1048576: true; the input reads as it did. -/
def cascadeOneUptoRow : OpenClaim := { program := "ytafbhggbkhckaaa", sum := "f698b8631624fb2046d1e42638064d22f865adabd983f1fb565e286d24579e7b", func := "clerestory/clerestorykeep2.CascadeOne", spec := "cascadeOne", apart := false, narrowed := true }
def CascadeOneUptoSaid : Prop := cascadeOneUptoRow.holds Try.pinned (OpenSpec.upto cascadeOneSpec)

/-- 'clerestorykeep2.AnimBetween', WHERE WHAT IT READS IS OF BULK AT MOST 1048576: true; the input reads as it did. -/
def animBetweenUptoRow : OpenClaim := { program := "ytafbhggbkhckaaa", sum := "f698b8631624fb2046d1e42638064d22f865adabd983f1fb565e286d24579e7b", func := "clerestory/clerestorykeep2.AnimBetween", spec := "animBetween", apart := false, narrowed := true }
def AnimBetweenUptoSaid : Prop := animBetweenUptoRow.holds Try.pinned (OpenSpec.upto animBetweenSpec)

/-- 'clerestorykeep2.AnimMoved', WHERE WHAT IT READS IS OF BULK AT MOST 1048576: true; the input reads as it did. -/
def animMovedUptoRow : OpenClaim := { program := "ytafbhggbkhckaaa", sum := "f698b8631624fb2046d1e42638064d22f865adabd983f1fb565e286d24579e7b", func := "clerestory/clerestorykeep2.AnimMoved", spec := "animMoved", apart := false, narrowed := true }
def AnimMovedUptoSaid : Prop := animMovedUptoRow.holds Try.pinned (OpenSpec.upto animMovedSpec)

/-- 'clerestorykeep2.AnimFrames', WHERE WHAT IT READS IS OF BULK AT MOST 1048576: true; the input reads as it did. -/
def animFramesUptoRow : OpenClaim := { program := "ytafbhggbkhckaaa", sum := "f698b8631624fb2046d1e42638064d22f865adabd983f1fb565e286d24579e7b", func := "clerestory/clerestorykeep2.AnimFrames", spec := "animFrames", apart := false, narrowed := true }
def AnimFramesUptoSaid : Prop := animFramesUptoRow.holds Try.pinned (OpenSpec.upto animFramesSpec)

/-- 'clerestorykeep2.AnimTurned', WHERE WHAT IT READS IS OF BULK AT MOST 1048576: true; the input reads as it did. -/
def animTurnedUptoRow : OpenClaim := { program := "ytafbhggbkhckaaa", sum := "f698b8631624fb2046d1e42638064d22f865adabd983f1fb565e286d24579e7b", func := "clerestory/clerestorykeep2.AnimTurned", spec := "animTurned", apart := false, narrowed := true }
def AnimTurnedUptoSaid : Prop := animTurnedUptoRow.holds Try.pinned (OpenSpec.upto animTurnedSpec)

/-- 'clerestorykeep2.AnimWakes', WHERE WHAT IT READS IS OF BULK AT MOST 1048576: true; the input reads as it did. -/
def animWakesUptoRow : OpenClaim := { program := "ytafbhggbkhckaaa", sum := "f698b8631624fb2046d1e42638064d22f865adabd983f1fb565e286d24579e7b", func := "clerestory/clerestorykeep2.AnimWakes", spec := "animWakes", apart := false, narrowed := true }
def AnimWakesUptoSaid : Prop := animWakesUptoRow.holds Try.pinned (OpenSpec.upto animWakesSpec)

end Rows
end Go.Proofs.Ytafbhggbkhckaaa
