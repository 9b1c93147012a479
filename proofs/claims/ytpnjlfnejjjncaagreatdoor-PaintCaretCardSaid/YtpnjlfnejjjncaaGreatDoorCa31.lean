/-
  Part of the runs of frescolaw20.alone by the abstract machine. No condition.
-/
import Derived.Test.YtpnjlfnejjjncaaGreatDoorCa05
set_option linter.unusedVariables false
set_option linter.unusedSimpArgs false
namespace Go.Proofs.YtpnjlfnejjjncaaGreatDoor
set_option maxRecDepth 100000
theorem al26 : okAl 26 (alRun 26) = true := by kernel_rfl
theorem al27 : okAl 27 (alRun 27) = true := by kernel_rfl
theorem al28 : okAl 28 (alRun 28) = true := by kernel_rfl
theorem al29 : okAl 29 (alRun 29) = true := by kernel_rfl
theorem al30 : okAl 30 (alRun 30) = true := by kernel_rfl
end Go.Proofs.YtpnjlfnejjjncaaGreatDoor
