/- The numbers of SelectNths, part 3 of 5, read by the kernel: no condition. -/
import Derived.Test.YtpeepnieblmhmaaGreatDoorEvSeA
set_option linter.unusedVariables false
set_option maxRecDepth 100000
namespace Go.Ev.Se
open Go.Proofs Go.Ev
theorem chk12 : checks 67 (-196) = true := by kernel_rfl
theorem chk13 : checks 67 (-129) = true := by kernel_rfl
theorem chk14 : checks 67 (-62) = true := by kernel_rfl
theorem chk15 : checks 67 (5) = true := by kernel_rfl
theorem chk16 : checks 67 (72) = true := by kernel_rfl
theorem chk17 : checks 67 (139) = true := by kernel_rfl
end Go.Ev.Se
