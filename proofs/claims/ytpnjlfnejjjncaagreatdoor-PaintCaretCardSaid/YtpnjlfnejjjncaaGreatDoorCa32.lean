/-
  Part of the runs of frescolaw20.alone by the abstract machine. No condition.
-/
import Derived.Test.YtpnjlfnejjjncaaGreatDoorCa05
set_option linter.unusedVariables false
set_option linter.unusedSimpArgs false
namespace Go.Proofs.YtpnjlfnejjjncaaGreatDoor
set_option maxRecDepth 100000
theorem al31 : okAl 31 (alRun 31) = true := by kernel_rfl
theorem al32 : okAl 32 (alRun 32) = true := by kernel_rfl
theorem al33 : okAl 33 (alRun 33) = true := by kernel_rfl
theorem al34 : okAl 34 (alRun 34) = true := by kernel_rfl
theorem al35 : okAl 35 (alRun 35) = true := by kernel_rfl
end Go.Proofs.YtpnjlfnejjjncaaGreatDoor
