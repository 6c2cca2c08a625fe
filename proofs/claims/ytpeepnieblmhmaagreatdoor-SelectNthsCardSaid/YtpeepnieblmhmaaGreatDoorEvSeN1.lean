/- The numbers of SelectNths, part 2 of 5, read by the kernel: no condition. -/
import Derived.Test.YtpeepnieblmhmaaGreatDoorEvSeA
set_option linter.unusedVariables false
set_option maxRecDepth 100000
namespace Go.Ev.Se
open Go.Proofs Go.Ev
theorem chk6 : checks 67 (-598) = true := by kernel_rfl
theorem chk7 : checks 67 (-531) = true := by kernel_rfl
theorem chk8 : checks 67 (-464) = true := by kernel_rfl
theorem chk9 : checks 67 (-397) = true := by kernel_rfl
theorem chk10 : checks 67 (-330) = true := by kernel_rfl
theorem chk11 : checks 67 (-263) = true := by kernel_rfl
end Go.Ev.Se
