/- Part of the proof of this seat's closed statement by the abstract machine: tables of closed answers, the run. No condition. -/
import Derived.Test.YtdafgjfijdijlaaGreatDoorK1
namespace Go.Eng
open Go Go.Proofs
set_option maxRecDepth 100000
theorem tab245_ok : tabOk Tryz.prog knA 20000 245 tab245 = true := by kernel_rfl
theorem tab136_ok : tabOk Tryz.prog knA 20000 136 tab136 = true := by kernel_rfl
theorem tab10_ok : tabOk Tryz.prog knA 20000 10 tab10 = true := by kernel_rfl
theorem tab137_ok : tabOk Tryz.prog knA 20000 137 tab137 = true := by kernel_rfl
theorem tab98_ok : tabOk Tryz.prog knA 20000 98 tab98 = true := by kernel_rfl
theorem tab140_ok : tabOk Tryz.prog knA 20000 140 tab140 = true := by kernel_rfl
theorem tab228_ok : tabOk Tryz.prog knA 20000 228 tab228 = true := by kernel_rfl
theorem tab47_ok : tabOk Tryz.prog knA 20000 47 tab47 = true := by kernel_rfl
theorem tab48_ok : tabOk Tryz.prog knA 20000 48 tab48 = true := by kernel_rfl
theorem tab44_ok : tabOk Tryz.prog knA 20000 44 tab44 = true := by kernel_rfl
theorem tab327_ok : tabOk Tryz.prog knA 20000 327 tab327 = true := by kernel_rfl
theorem tab190_ok : tabOk Tryz.prog knA 20000 190 tab190 = true := by kernel_rfl
theorem tab45_ok : tabOk Tryz.prog knA 20000 45 tab45 = true := by kernel_rfl
theorem tab195_ok : tabOk Tryz.prog knA 20000 195 tab195 = true := by kernel_rfl
theorem tab29_ok : tabOk Tryz.prog knA 20000 29 tab29 = true := by kernel_rfl
theorem tab118_ok : tabOk Tryz.prog knA 20000 118 tab118 = true := by kernel_rfl
theorem tab31_ok : tabOk Tryz.prog knA 20000 31 tab31 = true := by kernel_rfl
theorem tab119_ok : tabOk Tryz.prog knA 20000 119 tab119 = true := by kernel_rfl
theorem tab19_ok : tabOk Tryz.prog knA 20000 19 tab19 = true := by kernel_rfl
theorem tab37_ok : tabOk Tryz.prog knA 20000 37 tab37 = true := by kernel_rfl
theorem tab254_ok : tabOk Tryz.prog knA 20000 254 tab254 = true := by kernel_rfl
theorem tab253_ok : tabOk Tryz.prog knA 20000 253 tab253 = true := by kernel_rfl
theorem tab206_ok : tabOk Tryz.prog knA 20000 206 tab206 = true := by kernel_rfl
theorem tab205_ok : tabOk Tryz.prog knA 20000 205 tab205 = true := by kernel_rfl
theorem tab414_ok : tabOk Tryz.prog knA 20000 414 tab414 = true := by kernel_rfl
theorem tab328_ok : tabOk Tryz.prog knA 20000 328 tab328 = true := by kernel_rfl
theorem tab120_ok : tabOk Tryz.prog knA 20000 120 tab120 = true := by kernel_rfl
end Go.Eng
