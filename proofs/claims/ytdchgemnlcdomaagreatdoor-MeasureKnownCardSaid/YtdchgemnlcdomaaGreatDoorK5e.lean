/- Part of the proof of this seat's closed statement by the abstract machine: tables of closed answers, the run. No condition. -/
import Derived.Test.YtdchgemnlcdomaaGreatDoorK5
namespace Go.Eng
open Go Go.Proofs
set_option maxRecDepth 100000
theorem ent16_ok : entOk Tryz.prog kn2 100000 5 0 ent16 = true := by kernel_rfl
theorem ent17_ok : entOk Tryz.prog kn2 100000 5 0 ent17 = true := by kernel_rfl
theorem ent18_ok : entOk Tryz.prog kn2 100000 5 0 ent18 = true := by kernel_rfl
end Go.Eng
