/-
  Part of the runs of frescolaw20.alone by the abstract machine. No condition.
-/
import Derived.Test.YtpnjlfnejjjncaaGreatDoorCa05
set_option linter.unusedVariables false
set_option linter.unusedSimpArgs false
namespace Go.Proofs.YtpnjlfnejjjncaaGreatDoor
set_option maxRecDepth 100000
theorem al21 : okAl 21 (alRun 21) = true := by kernel_rfl
theorem al22 : okAl 22 (alRun 22) = true := by kernel_rfl
theorem al23 : okAl 23 (alRun 23) = true := by kernel_rfl
theorem al24 : okAl 24 (alRun 24) = true := by kernel_rfl
theorem al25 : okAl 25 (alRun 25) = true := by kernel_rfl
end Go.Proofs.YtpnjlfnejjjncaaGreatDoor
