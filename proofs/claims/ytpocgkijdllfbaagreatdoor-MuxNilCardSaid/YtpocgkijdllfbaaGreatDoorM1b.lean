/- Part of the proof of this seat's closed statement by the abstract machine: tables of closed answers, the start, the run. No condition. -/
import Derived.Test.YtpocgkijdllfbaaGreatDoorM1
namespace Go.Eng
open Go Go.Proofs
set_option maxRecDepth 100000
theorem tab69_ok : tabOk Tryz.prog kn0 20000 69 tab69 = true := by kernel_rfl
theorem tab70_ok : tabOk Tryz.prog kn0 20000 70 tab70 = true := by kernel_rfl
theorem tab87_ok : tabOk Tryz.prog kn0 20000 87 tab87 = true := by kernel_rfl
theorem tab90_ok : tabOk Tryz.prog kn0 20000 90 tab90 = true := by kernel_rfl
theorem tab97_ok : tabOk Tryz.prog kn0 20000 97 tab97 = true := by kernel_rfl
theorem tab119_ok : tabOk Tryz.prog kn0 20000 119 tab119 = true := by kernel_rfl
theorem tab122_ok : tabOk Tryz.prog kn0 20000 122 tab122 = true := by kernel_rfl
theorem tab153_ok : tabOk Tryz.prog kn0 20000 153 tab153 = true := by kernel_rfl
theorem tab200_ok : tabOk Tryz.prog kn0 20000 200 tab200 = true := by kernel_rfl
end Go.Eng
