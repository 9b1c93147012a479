/-
  Part of the runs of frescolaw20.alone by the abstract machine. No condition.
-/
import Derived.Test.YtpnjlfnejjjncaaGreatDoorCa05
set_option linter.unusedVariables false
set_option linter.unusedSimpArgs false
namespace Go.Proofs.YtpnjlfnejjjncaaGreatDoor
set_option maxRecDepth 100000
theorem al41 : okAl 41 (alRun 41) = true := by kernel_rfl
theorem al42 : okAl 42 (alRun 42) = true := by kernel_rfl
theorem al43 : okAl 43 (alRun 43) = true := by kernel_rfl
theorem al44 : okAl 44 (alRun 44) = true := by kernel_rfl
theorem al45 : okAl 45 (alRun 45) = true := by kernel_rfl
end Go.Proofs.YtpnjlfnejjjncaaGreatDoor
