/- The numbers of SelectNths, part 4 of 5, read by the kernel: no condition. -/
import Derived.Test.YtpeepnieblmhmaaGreatDoorEvSeA
set_option linter.unusedVariables false
set_option maxRecDepth 100000
namespace Go.Ev.Se
open Go.Proofs Go.Ev
theorem chk18 : checks 67 (206) = true := by kernel_rfl
theorem chk19 : checks 67 (273) = true := by kernel_rfl
theorem chk20 : checks 67 (340) = true := by kernel_rfl
theorem chk21 : checks 67 (407) = true := by kernel_rfl
theorem chk22 : checks 67 (474) = true := by kernel_rfl
theorem chk23 : checks 67 (541) = true := by kernel_rfl
end Go.Ev.Se
