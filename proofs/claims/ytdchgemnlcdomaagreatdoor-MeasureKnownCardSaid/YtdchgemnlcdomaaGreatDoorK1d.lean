/- Part of the proof of this seat's closed statement by the abstract machine: tables of closed answers, the run. No condition. -/
import Derived.Test.YtdchgemnlcdomaaGreatDoorK1
namespace Go.Eng
open Go Go.Proofs
set_option maxRecDepth 100000
theorem tab36_ok : tabOk Tryz.prog knA 20000 36 tab36 = true := by kernel_rfl
theorem tab85_ok : tabOk Tryz.prog knA 20000 85 tab85 = true := by kernel_rfl
theorem tab79_ok : tabOk Tryz.prog knA 20000 79 tab79 = true := by kernel_rfl
theorem tab66_ok : tabOk Tryz.prog knA 20000 66 tab66 = true := by kernel_rfl
theorem tab65_ok : tabOk Tryz.prog knA 20000 65 tab65 = true := by kernel_rfl
theorem tab19_ok : tabOk Tryz.prog knA 20000 19 tab19 = true := by kernel_rfl
theorem tab67_ok : tabOk Tryz.prog knA 20000 67 tab67 = true := by kernel_rfl
theorem tab70_ok : tabOk Tryz.prog knA 20000 70 tab70 = true := by kernel_rfl
theorem tab108_ok : tabOk Tryz.prog knA 20000 108 tab108 = true := by kernel_rfl
theorem tab16_ok : tabOk Tryz.prog knA 20000 16 tab16 = true := by kernel_rfl
theorem tab103_ok : tabOk Tryz.prog knA 20000 103 tab103 = true := by kernel_rfl
theorem tab144_ok : tabOk Tryz.prog knA 20000 144 tab144 = true := by kernel_rfl
theorem tab145_ok : tabOk Tryz.prog knA 20000 145 tab145 = true := by kernel_rfl
theorem tab102_ok : tabOk Tryz.prog knA 20000 102 tab102 = true := by kernel_rfl
theorem tab110_ok : tabOk Tryz.prog knA 20000 110 tab110 = true := by kernel_rfl
theorem tab4_ok : tabOk Tryz.prog knA 20000 4 tab4 = true := by kernel_rfl
theorem tab138_ok : tabOk Tryz.prog knA 20000 138 tab138 = true := by kernel_rfl
theorem tab68_ok : tabOk Tryz.prog knA 20000 68 tab68 = true := by kernel_rfl
theorem tab88_ok : tabOk Tryz.prog knA 20000 88 tab88 = true := by kernel_rfl
end Go.Eng
