/- Part of the proof of this seat's closed statement by the abstract machine: tables of closed answers, the run. No condition. -/
import Derived.Test.YtdafgjfijdijlaaGreatDoorK5
namespace Go.Eng
open Go Go.Proofs
set_option maxRecDepth 100000
theorem ent4_ok : entOk Tryz.prog kn2 100000 4 0 ent4 = true := by kernel_rfl
theorem ent5_ok : entOk Tryz.prog kn2 100000 4 0 ent5 = true := by kernel_rfl
end Go.Eng
