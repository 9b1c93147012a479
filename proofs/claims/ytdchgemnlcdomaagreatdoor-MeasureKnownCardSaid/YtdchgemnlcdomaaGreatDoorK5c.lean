/- Part of the proof of this seat's closed statement by the abstract machine: tables of closed answers, the run. No condition. -/
import Derived.Test.YtdchgemnlcdomaaGreatDoorK5
namespace Go.Eng
open Go Go.Proofs
set_option maxRecDepth 100000
theorem ent8_ok : entOk Tryz.prog kn2 100000 5 0 ent8 = true := by kernel_rfl
theorem ent9_ok : entOk Tryz.prog kn2 100000 5 0 ent9 = true := by kernel_rfl
theorem ent10_ok : entOk Tryz.prog kn2 100000 5 0 ent10 = true := by kernel_rfl
theorem ent11_ok : entOk Tryz.prog kn2 100000 5 0 ent11 = true := by kernel_rfl
end Go.Eng
