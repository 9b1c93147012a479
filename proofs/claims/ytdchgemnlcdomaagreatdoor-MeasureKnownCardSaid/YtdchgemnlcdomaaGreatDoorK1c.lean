/- Part of the proof of this seat's closed statement by the abstract machine: tables of closed answers, the run. No condition. -/
import Derived.Test.YtdchgemnlcdomaaGreatDoorK1
namespace Go.Eng
open Go Go.Proofs
set_option maxRecDepth 100000
theorem tab83_ok : tabOk Tryz.prog knA 20000 83 tab83 = true := by kernel_rfl
theorem tab86_ok : tabOk Tryz.prog knA 20000 86 tab86 = true := by kernel_rfl
theorem tab38_ok : tabOk Tryz.prog knA 20000 38 tab38 = true := by kernel_rfl
end Go.Eng
