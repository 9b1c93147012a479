/-
  Part of the runs of frescolaw20.alone by the abstract machine. No condition.
-/
import Derived.Test.YtpnjlfnejjjncaaGreatDoorCa05
set_option linter.unusedVariables false
set_option linter.unusedSimpArgs false
namespace Go.Proofs.YtpnjlfnejjjncaaGreatDoor
set_option maxRecDepth 100000
theorem al6 : okAl 6 (alRun 6) = true := by kernel_rfl
theorem al7 : okAl 7 (alRun 7) = true := by kernel_rfl
theorem al8 : okAl 8 (alRun 8) = true := by kernel_rfl
theorem al9 : okAl 9 (alRun 9) = true := by kernel_rfl
theorem al10 : okAl 10 (alRun 10) = true := by kernel_rfl
end Go.Proofs.YtpnjlfnejjjncaaGreatDoor
