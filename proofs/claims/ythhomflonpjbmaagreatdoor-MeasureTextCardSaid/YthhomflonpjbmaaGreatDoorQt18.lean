/-
  The walk of measure.side.
-/
import Derived.Test.YthhomflonpjbmaaGreatDoorQt02
import Derived.Test.YthhomflonpjbmaaGreatDoorQt04
namespace Go.Proofs.YthhomflonpjbmaaGreatDoor
open Go.RowKit
set_option maxRecDepth 100000 in
theorem side_any (n : Int) (hn : -9223372036854775808 ≤ n ∧ n ≤ 9223372036854775807) (w : World) : Calls Tryz.prog 21 #[.int .i64 n] w (VRet (.int .i64 (min (max n 0) 4096)) w) := by
  clear hn
  go_enter Tryz.func21, Tryz.ntmps21
  go_wp2
  all_goals
    go_ret
    refine ⟨?_, rfl⟩
    simp
    try omega
end Go.Proofs.YthhomflonpjbmaaGreatDoor
