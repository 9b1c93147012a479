/-
  Part of the runs of frescolaw20.alone by the abstract machine. No condition.
-/
import Derived.Test.YtpnjlfnejjjncaaGreatDoorCa05
set_option linter.unusedVariables false
set_option linter.unusedSimpArgs false
namespace Go.Proofs.YtpnjlfnejjjncaaGreatDoor
set_option maxRecDepth 100000
theorem al11 : okAl 11 (alRun 11) = true := by kernel_rfl
theorem al12 : okAl 12 (alRun 12) = true := by kernel_rfl
theorem al13 : okAl 13 (alRun 13) = true := by kernel_rfl
theorem al14 : okAl 14 (alRun 14) = true := by kernel_rfl
theorem al15 : okAl 15 (alRun 15) = true := by kernel_rfl
end Go.Proofs.YtpnjlfnejjjncaaGreatDoor
