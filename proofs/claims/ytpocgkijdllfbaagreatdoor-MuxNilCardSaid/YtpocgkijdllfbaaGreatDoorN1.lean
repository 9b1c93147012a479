/- Part of the proof of this seat's statement of a nil receiver by the abstract machine. No condition. -/
import Derived.Test.YtpocgkijdllfbaaGreatDoorM4b
namespace Go.Eng
open Go Go.Proofs
set_option maxRecDepth 100000
/-- The five laid blocks, and one more that the argument's bytes lie in. -/
noncomputable def A7 (e0 e1 e2 e3 e4 : TypeId) : AS := { h := globs e0 e1 e2 e3 e4, nx := 7, lo := 5 }
theorem nil_run (e0 e1 e2 e3 e4 : TypeId) (a b c d : Int) (on : Bool) (p : Option Addr) (len cap : Nat) : okVal (.bool true) (ev Tryz.prog kn2 100001 (.call 4 [.agg ⟨[.int .i64 a, .int .i64 b, .int .i64 c, .int .i64 d, .bool on, .slice p len cap]⟩] (A7 e0 e1 e2 e3 e4))) = true := by kernel_rfl
end Go.Eng
