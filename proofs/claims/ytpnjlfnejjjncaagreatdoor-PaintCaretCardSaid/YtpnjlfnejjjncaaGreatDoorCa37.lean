/-
  Part of the runs of frescolaw20.alone by the abstract machine. No condition.
-/
import Derived.Test.YtpnjlfnejjjncaaGreatDoorCa05
set_option linter.unusedVariables false
set_option linter.unusedSimpArgs false
namespace Go.Proofs.YtpnjlfnejjjncaaGreatDoor
set_option maxRecDepth 100000
theorem al56 : okAl 56 (alRun 56) = true := by kernel_rfl
theorem al57 : okAl 57 (alRun 57) = true := by kernel_rfl
theorem al58 : okAl 58 (alRun 58) = true := by kernel_rfl
theorem al59 : okAl 59 (alRun 59) = true := by kernel_rfl
theorem al60 : okAl 60 (alRun 60) = true := by kernel_rfl
end Go.Proofs.YtpnjlfnejjjncaaGreatDoor
