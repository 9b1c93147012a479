/- Part of the proof of this seat's closed statement by the abstract machine: tables of closed answers, the run. No condition. -/
import Derived.Test.YtdchgemnlcdomaaGreatDoorK5
namespace Go.Eng
open Go Go.Proofs
set_option maxRecDepth 100000
theorem ent12_ok : entOk Tryz.prog kn2 100000 5 0 ent12 = true := by kernel_rfl
theorem ent13_ok : entOk Tryz.prog kn2 100000 5 0 ent13 = true := by kernel_rfl
theorem ent14_ok : entOk Tryz.prog kn2 100000 5 0 ent14 = true := by kernel_rfl
theorem ent15_ok : entOk Tryz.prog kn2 100000 5 0 ent15 = true := by kernel_rfl
end Go.Eng
