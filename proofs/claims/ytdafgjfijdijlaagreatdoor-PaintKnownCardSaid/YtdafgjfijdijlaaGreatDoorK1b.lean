/- Part of the proof of this seat's closed statement by the abstract machine: tables of closed answers, the run. No condition. -/
import Derived.Test.YtdafgjfijdijlaaGreatDoorK1
namespace Go.Eng
open Go Go.Proofs
set_option maxRecDepth 100000
theorem tab52_ok : tabOk Tryz.prog knA 20000 52 tab52 = true := by kernel_rfl
end Go.Eng
