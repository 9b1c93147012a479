/- Part of the proof of this seat's closed statement by the abstract machine: tables of closed answers, the run. No condition. -/
import Derived.Test.YtdafgjfijdijlaaGreatDoorK6
import Derived.Test.YtdafgjfijdijlaaGreatDoorK3
namespace Go.Eng
open Go Go.Proofs
set_option maxRecDepth 100000
theorem good_law : fnGood Tryz.prog 3 = true := by kernel_rfl
theorem none_law : kn3.kn 3 [] = none := by kernel_rfl
theorem law_any (W : World) : Calls Tryz.prog 3 ⟨[]⟩ W fun e W1 => e = .returned (.bool true) ∧ W.heap.size ≤ W1.heap.size ∧ (∀ c, c < W.heap.size → W1.heap[c]? = W.heap[c]?) ∧ Rest W W1 :=
  (entry_ok kn3_ok mixed rfl rfl good_law none_law law_run).2.2.2.2 W
end Go.Eng
