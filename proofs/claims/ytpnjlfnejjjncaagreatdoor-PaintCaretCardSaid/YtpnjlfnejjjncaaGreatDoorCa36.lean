/-
  Part of the runs of frescolaw20.alone by the abstract machine. No condition.
-/
import Derived.Test.YtpnjlfnejjjncaaGreatDoorCa05
set_option linter.unusedVariables false
set_option linter.unusedSimpArgs false
namespace Go.Proofs.YtpnjlfnejjjncaaGreatDoor
set_option maxRecDepth 100000
theorem al51 : okAl 51 (alRun 51) = true := by kernel_rfl
theorem al52 : okAl 52 (alRun 52) = true := by kernel_rfl
theorem al53 : okAl 53 (alRun 53) = true := by kernel_rfl
theorem al54 : okAl 54 (alRun 54) = true := by kernel_rfl
theorem al55 : okAl 55 (alRun 55) = true := by kernel_rfl
end Go.Proofs.YtpnjlfnejjjncaaGreatDoor
