/- The numbers of SelectNths, part 5 of 5, read by the kernel: no condition. -/
import Derived.Test.YtpeepnieblmhmaaGreatDoorEvSeA
set_option linter.unusedVariables false
set_option maxRecDepth 100000
namespace Go.Ev.Se
open Go.Proofs Go.Ev
theorem chk24 : checks 67 (608) = true := by kernel_rfl
theorem chk25 : checks 67 (675) = true := by kernel_rfl
theorem chk26 : checks 67 (742) = true := by kernel_rfl
theorem chk27 : checks 67 (809) = true := by kernel_rfl
theorem chk28 : checks 67 (876) = true := by kernel_rfl
theorem chk29 : checks 58 (943) = true := by kernel_rfl
end Go.Ev.Se
