/- Part of the proof of this seat's closed statement by the abstract machine: tables of closed answers, the start, the run. No condition. -/
import Derived.Test.YtpocgkijdllfbaaGreatDoorM1b
namespace Go.Eng
open Go Go.Proofs
set_option maxRecDepth 100000
theorem ne_run (x : Value) (W : World) : (callFunc 84 ⟨[x]⟩).run Tryz.prog W = .ok (.value x) W := by kernel_rfl
theorem mz_none : (Tryz.prog.funcs[999998]?).isNone = true := by kernel_rfl
theorem kn0_ok : KnOK Tryz.prog kn0 := by
  refine ⟨fun f args v h => ?_, fun fn _ _ x W => ne_run x W, fun fn h => ?_⟩
  · simp [kn0] at h
  · have h2 : Tryz.prog.funcs[999998]? = none := by simpa using mz_none
    rw [show (kn0.mz : Nat) = 999998 from rfl, h2] at h
    simp at h
theorem mixed : Tryz.prog.follows .mixedOrders = true := by kernel_rfl
end Go.Eng
