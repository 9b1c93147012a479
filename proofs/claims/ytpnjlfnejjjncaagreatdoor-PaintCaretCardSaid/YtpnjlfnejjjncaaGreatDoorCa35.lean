/-
  Part of the runs of frescolaw20.alone by the abstract machine. No condition.
-/
import Derived.Test.YtpnjlfnejjjncaaGreatDoorCa05
set_option linter.unusedVariables false
set_option linter.unusedSimpArgs false
namespace Go.Proofs.YtpnjlfnejjjncaaGreatDoor
set_option maxRecDepth 100000
theorem al46 : okAl 46 (alRun 46) = true := by kernel_rfl
theorem al47 : okAl 47 (alRun 47) = true := by kernel_rfl
theorem al48 : okAl 48 (alRun 48) = true := by kernel_rfl
theorem al49 : okAl 49 (alRun 49) = true := by kernel_rfl
theorem al50 : okAl 50 (alRun 50) = true := by kernel_rfl
end Go.Proofs.YtpnjlfnejjjncaaGreatDoor
