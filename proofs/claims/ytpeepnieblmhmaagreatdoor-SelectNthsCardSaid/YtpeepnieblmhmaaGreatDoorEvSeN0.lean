/- The numbers of SelectNths, part 1 of 5, read by the kernel: no condition. -/
import Derived.Test.YtpeepnieblmhmaaGreatDoorEvSeA
set_option linter.unusedVariables false
set_option maxRecDepth 100000
namespace Go.Ev.Se
open Go.Proofs Go.Ev
theorem chk0 : checks 67 (-1000) = true := by kernel_rfl
theorem chk1 : checks 67 (-933) = true := by kernel_rfl
theorem chk2 : checks 67 (-866) = true := by kernel_rfl
theorem chk3 : checks 67 (-799) = true := by kernel_rfl
theorem chk4 : checks 67 (-732) = true := by kernel_rfl
theorem chk5 : checks 67 (-665) = true := by kernel_rfl
end Go.Ev.Se
