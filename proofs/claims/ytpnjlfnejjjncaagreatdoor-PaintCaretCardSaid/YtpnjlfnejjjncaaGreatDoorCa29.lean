/-
  Part of the runs of frescolaw20.alone by the abstract machine. No condition.
-/
import Derived.Test.YtpnjlfnejjjncaaGreatDoorCa05
set_option linter.unusedVariables false
set_option linter.unusedSimpArgs false
namespace Go.Proofs.YtpnjlfnejjjncaaGreatDoor
set_option maxRecDepth 100000
theorem al16 : okAl 16 (alRun 16) = true := by kernel_rfl
theorem al17 : okAl 17 (alRun 17) = true := by kernel_rfl
theorem al18 : okAl 18 (alRun 18) = true := by kernel_rfl
theorem al19 : okAl 19 (alRun 19) = true := by kernel_rfl
theorem al20 : okAl 20 (alRun 20) = true := by kernel_rfl
end Go.Proofs.YtpnjlfnejjjncaaGreatDoor
