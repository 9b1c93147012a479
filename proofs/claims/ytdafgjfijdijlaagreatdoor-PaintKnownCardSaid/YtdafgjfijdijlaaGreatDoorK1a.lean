/- Part of the proof of this seat's closed statement by the abstract machine: tables of closed answers, the run. No condition. -/
import Derived.Test.YtdafgjfijdijlaaGreatDoorK1
namespace Go.Eng
open Go Go.Proofs
set_option maxRecDepth 100000
theorem tab191_ok : tabOk Tryz.prog kn0 20000 191 tab191 = true := by kernel_rfl
end Go.Eng
