/-
  Part of the runs of frescolaw20.alone by the abstract machine. No condition.
-/
import Derived.Test.YtpnjlfnejjjncaaGreatDoorCa05
set_option linter.unusedVariables false
set_option linter.unusedSimpArgs false
namespace Go.Proofs.YtpnjlfnejjjncaaGreatDoor
set_option maxRecDepth 100000
theorem al36 : okAl 36 (alRun 36) = true := by kernel_rfl
theorem al37 : okAl 37 (alRun 37) = true := by kernel_rfl
theorem al38 : okAl 38 (alRun 38) = true := by kernel_rfl
theorem al39 : okAl 39 (alRun 39) = true := by kernel_rfl
theorem al40 : okAl 40 (alRun 40) = true := by kernel_rfl
end Go.Proofs.YtpnjlfnejjjncaaGreatDoor
