/- Part of the proof of this seat's closed statement by the abstract machine: tables of closed answers, the run. No condition. -/
import Derived.Test.YtdafgjfijdijlaaGreatDoorK5
namespace Go.Eng
open Go Go.Proofs
set_option maxRecDepth 100000
/-- The whole law, run: it answers true. -/
theorem law_run : okVal (.bool true) (ev Tryz.prog kn3 100001 (.call 3 [] (bare Tryz.prog))) = true := by kernel_rfl
end Go.Eng
