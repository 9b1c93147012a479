/-
  The walks of the palette's channels, both ways.
-/
import Derived.Test.YtkgicooplgmmpaaMw
namespace Go.Proofs.Ytkgicooplgmmpaa
open Go.RowKit

set_option maxHeartbeats 400000 in
theorem level_i (k : Int) (h0 : 0 ≤ k) (h1 : k ≤ 5) (w : World) : Calls Try.prog 76 #[.int .i64 k] w (VRet (.int .u8 (lev k.toNat)) w) := by
  obtain ⟨j, rfl⟩ : ∃ j : Nat, k = j := ⟨k.toNat, by omega⟩
  exact level_any j (by omega) w

theorem place_lo_post {a b c : Int} {v : Value} {w : World} {e : Ending} {w' : World} (he : e = .returned (arr3 a b c)) (hb : Below w.heap.size w w') (hv : arr3 a b c = v) : VBel v w e w' := ⟨by rw [he, hv], hb⟩
set_option maxRecDepth 100000 in
set_option maxHeartbeats 1000000 in
theorem place_lo0 (w : World) : Calls Try.prog 70 #[.int .i64 0] w (VBel (tri8 (palC 0)) w) := by
  have b0 : (bits BinOp.and IntKind.i64 0 1 == 1) = false := by kernel_rfl
  go_enter Try.func70, Try.ntmps70
  go_wp2
  refine wp_loop_rounds 4 ?_
  iterate 4 (rw [rounds_succ]; go_wp2)
  apply bodyPost_ret (results_cell_row (cs := #[_, _, _]) rfl _ _ w.heap.size _ _ _ rfl (heap_alloc2_old _ _ _) Try.underlying76 rfl (by kernel_rfl)) rfl
  exact place_lo_post rfl ((Below.refl _ _).alloc (Nat.le_refl _) _ |>.alloc (by simp) _) (by kernel_rfl)
set_option maxRecDepth 100000 in
set_option maxHeartbeats 1000000 in
theorem place_lo1 (w : World) : Calls Try.prog 70 #[.int .i64 1] w (VBel (tri8 (palC 1)) w) := by
  have b0 : (bits BinOp.and IntKind.i64 0 1 == 1) = false := by kernel_rfl
  have b1 : (bits BinOp.and IntKind.i64 1 1 == 1) = true := by kernel_rfl
  go_enter Try.func70, Try.ntmps70
  go_wp2
  refine wp_loop_rounds 4 ?_
  iterate 4 (rw [rounds_succ]; go_wp2)
  apply bodyPost_ret (results_cell_row (cs := #[_, _, _]) rfl _ _ w.heap.size _ _ _ rfl (heap_alloc2_old _ _ _) Try.underlying76 rfl (by kernel_rfl)) rfl
  exact place_lo_post rfl ((Below.refl _ _).alloc (Nat.le_refl _) _ |>.alloc (by simp) _) (by kernel_rfl)
set_option maxRecDepth 100000 in
set_option maxHeartbeats 1000000 in
theorem place_lo2 (w : World) : Calls Try.prog 70 #[.int .i64 2] w (VBel (tri8 (palC 2)) w) := by
  have b0 : (bits BinOp.and IntKind.i64 0 1 == 1) = false := by kernel_rfl
  have b1 : (bits BinOp.and IntKind.i64 1 1 == 1) = true := by kernel_rfl
  have b2 : (bits BinOp.and IntKind.i64 2 1 == 1) = false := by kernel_rfl
  go_enter Try.func70, Try.ntmps70
  go_wp2
  refine wp_loop_rounds 4 ?_
  iterate 4 (rw [rounds_succ]; go_wp2)
  apply bodyPost_ret (results_cell_row (cs := #[_, _, _]) rfl _ _ w.heap.size _ _ _ rfl (heap_alloc2_old _ _ _) Try.underlying76 rfl (by kernel_rfl)) rfl
  exact place_lo_post rfl ((Below.refl _ _).alloc (Nat.le_refl _) _ |>.alloc (by simp) _) (by kernel_rfl)
set_option maxRecDepth 100000 in
set_option maxHeartbeats 1000000 in
theorem place_lo3 (w : World) : Calls Try.prog 70 #[.int .i64 3] w (VBel (tri8 (palC 3)) w) := by
  have b0 : (bits BinOp.and IntKind.i64 0 1 == 1) = false := by kernel_rfl
  have b1 : (bits BinOp.and IntKind.i64 1 1 == 1) = true := by kernel_rfl
  have b3 : (bits BinOp.and IntKind.i64 3 1 == 1) = true := by kernel_rfl
  go_enter Try.func70, Try.ntmps70
  go_wp2
  refine wp_loop_rounds 4 ?_
  iterate 4 (rw [rounds_succ]; go_wp2)
  apply bodyPost_ret (results_cell_row (cs := #[_, _, _]) rfl _ _ w.heap.size _ _ _ rfl (heap_alloc2_old _ _ _) Try.underlying76 rfl (by kernel_rfl)) rfl
  exact place_lo_post rfl ((Below.refl _ _).alloc (Nat.le_refl _) _ |>.alloc (by simp) _) (by kernel_rfl)
set_option maxRecDepth 100000 in
set_option maxHeartbeats 1000000 in
theorem place_lo4 (w : World) : Calls Try.prog 70 #[.int .i64 4] w (VBel (tri8 (palC 4)) w) := by
  have b1 : (bits BinOp.and IntKind.i64 1 1 == 1) = true := by kernel_rfl
  have b2 : (bits BinOp.and IntKind.i64 2 1 == 1) = false := by kernel_rfl
  have b4 : (bits BinOp.and IntKind.i64 4 1 == 1) = false := by kernel_rfl
  go_enter Try.func70, Try.ntmps70
  go_wp2
  refine wp_loop_rounds 4 ?_
  iterate 4 (rw [rounds_succ]; go_wp2)
  apply bodyPost_ret (results_cell_row (cs := #[_, _, _]) rfl _ _ w.heap.size _ _ _ rfl (heap_alloc2_old _ _ _) Try.underlying76 rfl (by kernel_rfl)) rfl
  exact place_lo_post rfl ((Below.refl _ _).alloc (Nat.le_refl _) _ |>.alloc (by simp) _) (by kernel_rfl)
set_option maxRecDepth 100000 in
set_option maxHeartbeats 1000000 in
theorem place_lo5 (w : World) : Calls Try.prog 70 #[.int .i64 5] w (VBel (tri8 (palC 5)) w) := by
  have b1 : (bits BinOp.and IntKind.i64 1 1 == 1) = true := by kernel_rfl
  have b2 : (bits BinOp.and IntKind.i64 2 1 == 1) = false := by kernel_rfl
  have b5 : (bits BinOp.and IntKind.i64 5 1 == 1) = true := by kernel_rfl
  go_enter Try.func70, Try.ntmps70
  go_wp2
  refine wp_loop_rounds 4 ?_
  iterate 4 (rw [rounds_succ]; go_wp2)
  apply bodyPost_ret (results_cell_row (cs := #[_, _, _]) rfl _ _ w.heap.size _ _ _ rfl (heap_alloc2_old _ _ _) Try.underlying76 rfl (by kernel_rfl)) rfl
  exact place_lo_post rfl ((Below.refl _ _).alloc (Nat.le_refl _) _ |>.alloc (by simp) _) (by kernel_rfl)
set_option maxRecDepth 100000 in
set_option maxHeartbeats 1000000 in
theorem place_lo6 (w : World) : Calls Try.prog 70 #[.int .i64 6] w (VBel (tri8 (palC 6)) w) := by
  have b1 : (bits BinOp.and IntKind.i64 1 1 == 1) = true := by kernel_rfl
  have b3 : (bits BinOp.and IntKind.i64 3 1 == 1) = true := by kernel_rfl
  have b6 : (bits BinOp.and IntKind.i64 6 1 == 1) = false := by kernel_rfl
  go_enter Try.func70, Try.ntmps70
  go_wp2
  refine wp_loop_rounds 4 ?_
  iterate 4 (rw [rounds_succ]; go_wp2)
  apply bodyPost_ret (results_cell_row (cs := #[_, _, _]) rfl _ _ w.heap.size _ _ _ rfl (heap_alloc2_old _ _ _) Try.underlying76 rfl (by kernel_rfl)) rfl
  exact place_lo_post rfl ((Below.refl _ _).alloc (Nat.le_refl _) _ |>.alloc (by simp) _) (by kernel_rfl)
set_option maxRecDepth 100000 in
set_option maxHeartbeats 1000000 in
theorem place_lo7 (w : World) : Calls Try.prog 70 #[.int .i64 7] w (VBel (tri8 (palC 7)) w) := by
  have b1 : (bits BinOp.and IntKind.i64 1 1 == 1) = true := by kernel_rfl
  have b3 : (bits BinOp.and IntKind.i64 3 1 == 1) = true := by kernel_rfl
  have b7 : (bits BinOp.and IntKind.i64 7 1 == 1) = true := by kernel_rfl
  go_enter Try.func70, Try.ntmps70
  go_wp2
  refine wp_loop_rounds 4 ?_
  iterate 4 (rw [rounds_succ]; go_wp2)
  apply bodyPost_ret (results_cell_row (cs := #[_, _, _]) rfl _ _ w.heap.size _ _ _ rfl (heap_alloc2_old _ _ _) Try.underlying76 rfl (by kernel_rfl)) rfl
  exact place_lo_post rfl ((Below.refl _ _).alloc (Nat.le_refl _) _ |>.alloc (by simp) _) (by kernel_rfl)
set_option maxRecDepth 100000 in
set_option maxHeartbeats 1000000 in
theorem place_lo8 (w : World) : Calls Try.prog 70 #[.int .i64 8] w (VBel (tri8 (palC 8)) w) := by
  have b2 : (bits BinOp.and IntKind.i64 2 1 == 1) = false := by kernel_rfl
  have b4 : (bits BinOp.and IntKind.i64 4 1 == 1) = false := by kernel_rfl
  have b8 : (bits BinOp.and IntKind.i64 8 1 == 1) = false := by kernel_rfl
  go_enter Try.func70, Try.ntmps70
  go_wp2
  refine wp_loop_rounds 4 ?_
  iterate 4 (rw [rounds_succ]; go_wp2)
  apply bodyPost_ret (results_cell_row (cs := #[_, _, _]) rfl _ _ w.heap.size _ _ _ rfl (heap_alloc2_old _ _ _) Try.underlying76 rfl (by kernel_rfl)) rfl
  exact place_lo_post rfl ((Below.refl _ _).alloc (Nat.le_refl _) _ |>.alloc (by simp) _) (by kernel_rfl)
set_option maxRecDepth 100000 in
set_option maxHeartbeats 1000000 in
theorem place_lo9 (w : World) : Calls Try.prog 70 #[.int .i64 9] w (VBel (tri8 (palC 9)) w) := by
  have b2 : (bits BinOp.and IntKind.i64 2 1 == 1) = false := by kernel_rfl
  have b4 : (bits BinOp.and IntKind.i64 4 1 == 1) = false := by kernel_rfl
  have b9 : (bits BinOp.and IntKind.i64 9 1 == 1) = true := by kernel_rfl
  go_enter Try.func70, Try.ntmps70
  go_wp2
  refine wp_loop_rounds 4 ?_
  iterate 4 (rw [rounds_succ]; go_wp2)
  apply bodyPost_ret (results_cell_row (cs := #[_, _, _]) rfl _ _ w.heap.size _ _ _ rfl (heap_alloc2_old _ _ _) Try.underlying76 rfl (by kernel_rfl)) rfl
  exact place_lo_post rfl ((Below.refl _ _).alloc (Nat.le_refl _) _ |>.alloc (by simp) _) (by kernel_rfl)
set_option maxRecDepth 100000 in
set_option maxHeartbeats 1000000 in
theorem place_lo10 (w : World) : Calls Try.prog 70 #[.int .i64 10] w (VBel (tri8 (palC 10)) w) := by
  have b2 : (bits BinOp.and IntKind.i64 2 1 == 1) = false := by kernel_rfl
  have b5 : (bits BinOp.and IntKind.i64 5 1 == 1) = true := by kernel_rfl
  have b10 : (bits BinOp.and IntKind.i64 10 1 == 1) = false := by kernel_rfl
  go_enter Try.func70, Try.ntmps70
  go_wp2
  refine wp_loop_rounds 4 ?_
  iterate 4 (rw [rounds_succ]; go_wp2)
  apply bodyPost_ret (results_cell_row (cs := #[_, _, _]) rfl _ _ w.heap.size _ _ _ rfl (heap_alloc2_old _ _ _) Try.underlying76 rfl (by kernel_rfl)) rfl
  exact place_lo_post rfl ((Below.refl _ _).alloc (Nat.le_refl _) _ |>.alloc (by simp) _) (by kernel_rfl)
set_option maxRecDepth 100000 in
set_option maxHeartbeats 1000000 in
theorem place_lo11 (w : World) : Calls Try.prog 70 #[.int .i64 11] w (VBel (tri8 (palC 11)) w) := by
  have b2 : (bits BinOp.and IntKind.i64 2 1 == 1) = false := by kernel_rfl
  have b5 : (bits BinOp.and IntKind.i64 5 1 == 1) = true := by kernel_rfl
  have b11 : (bits BinOp.and IntKind.i64 11 1 == 1) = true := by kernel_rfl
  go_enter Try.func70, Try.ntmps70
  go_wp2
  refine wp_loop_rounds 4 ?_
  iterate 4 (rw [rounds_succ]; go_wp2)
  apply bodyPost_ret (results_cell_row (cs := #[_, _, _]) rfl _ _ w.heap.size _ _ _ rfl (heap_alloc2_old _ _ _) Try.underlying76 rfl (by kernel_rfl)) rfl
  exact place_lo_post rfl ((Below.refl _ _).alloc (Nat.le_refl _) _ |>.alloc (by simp) _) (by kernel_rfl)
set_option maxRecDepth 100000 in
set_option maxHeartbeats 1000000 in
theorem place_lo12 (w : World) : Calls Try.prog 70 #[.int .i64 12] w (VBel (tri8 (palC 12)) w) := by
  have b3 : (bits BinOp.and IntKind.i64 3 1 == 1) = true := by kernel_rfl
  have b6 : (bits BinOp.and IntKind.i64 6 1 == 1) = false := by kernel_rfl
  have b12 : (bits BinOp.and IntKind.i64 12 1 == 1) = false := by kernel_rfl
  go_enter Try.func70, Try.ntmps70
  go_wp2
  refine wp_loop_rounds 4 ?_
  iterate 4 (rw [rounds_succ]; go_wp2)
  apply bodyPost_ret (results_cell_row (cs := #[_, _, _]) rfl _ _ w.heap.size _ _ _ rfl (heap_alloc2_old _ _ _) Try.underlying76 rfl (by kernel_rfl)) rfl
  exact place_lo_post rfl ((Below.refl _ _).alloc (Nat.le_refl _) _ |>.alloc (by simp) _) (by kernel_rfl)
set_option maxRecDepth 100000 in
set_option maxHeartbeats 1000000 in
theorem place_lo13 (w : World) : Calls Try.prog 70 #[.int .i64 13] w (VBel (tri8 (palC 13)) w) := by
  have b3 : (bits BinOp.and IntKind.i64 3 1 == 1) = true := by kernel_rfl
  have b6 : (bits BinOp.and IntKind.i64 6 1 == 1) = false := by kernel_rfl
  have b13 : (bits BinOp.and IntKind.i64 13 1 == 1) = true := by kernel_rfl
  go_enter Try.func70, Try.ntmps70
  go_wp2
  refine wp_loop_rounds 4 ?_
  iterate 4 (rw [rounds_succ]; go_wp2)
  apply bodyPost_ret (results_cell_row (cs := #[_, _, _]) rfl _ _ w.heap.size _ _ _ rfl (heap_alloc2_old _ _ _) Try.underlying76 rfl (by kernel_rfl)) rfl
  exact place_lo_post rfl ((Below.refl _ _).alloc (Nat.le_refl _) _ |>.alloc (by simp) _) (by kernel_rfl)
set_option maxRecDepth 100000 in
set_option maxHeartbeats 1000000 in
theorem place_lo14 (w : World) : Calls Try.prog 70 #[.int .i64 14] w (VBel (tri8 (palC 14)) w) := by
  have b3 : (bits BinOp.and IntKind.i64 3 1 == 1) = true := by kernel_rfl
  have b7 : (bits BinOp.and IntKind.i64 7 1 == 1) = true := by kernel_rfl
  have b14 : (bits BinOp.and IntKind.i64 14 1 == 1) = false := by kernel_rfl
  go_enter Try.func70, Try.ntmps70
  go_wp2
  refine wp_loop_rounds 4 ?_
  iterate 4 (rw [rounds_succ]; go_wp2)
  apply bodyPost_ret (results_cell_row (cs := #[_, _, _]) rfl _ _ w.heap.size _ _ _ rfl (heap_alloc2_old _ _ _) Try.underlying76 rfl (by kernel_rfl)) rfl
  exact place_lo_post rfl ((Below.refl _ _).alloc (Nat.le_refl _) _ |>.alloc (by simp) _) (by kernel_rfl)
set_option maxRecDepth 100000 in
set_option maxHeartbeats 1000000 in
theorem place_lo15 (w : World) : Calls Try.prog 70 #[.int .i64 15] w (VBel (tri8 (palC 15)) w) := by
  have b3 : (bits BinOp.and IntKind.i64 3 1 == 1) = true := by kernel_rfl
  have b7 : (bits BinOp.and IntKind.i64 7 1 == 1) = true := by kernel_rfl
  have b15 : (bits BinOp.and IntKind.i64 15 1 == 1) = true := by kernel_rfl
  go_enter Try.func70, Try.ntmps70
  go_wp2
  refine wp_loop_rounds 4 ?_
  iterate 4 (rw [rounds_succ]; go_wp2)
  apply bodyPost_ret (results_cell_row (cs := #[_, _, _]) rfl _ _ w.heap.size _ _ _ rfl (heap_alloc2_old _ _ _) Try.underlying76 rfl (by kernel_rfl)) rfl
  exact place_lo_post rfl ((Below.refl _ _).alloc (Nat.le_refl _) _ |>.alloc (by simp) _) (by kernel_rfl)

theorem place_lo (n : Nat) (hn : n < 16) (w : World) : Calls Try.prog 70 #[.int .i64 n] w (VBel (tri8 (palC n)) w) := by
  have hc : n = 0 ∨ n = 1 ∨ n = 2 ∨ n = 3 ∨ n = 4 ∨ n = 5 ∨ n = 6 ∨ n = 7 ∨ n = 8 ∨ n = 9 ∨ n = 10 ∨ n = 11 ∨ n = 12 ∨ n = 13 ∨ n = 14 ∨ n = 15 := by omega
  rcases hc with rfl | rfl | rfl | rfl | rfl | rfl | rfl | rfl | rfl | rfl | rfl | rfl | rfl | rfl | rfl | rfl
  · exact place_lo0 w
  · exact place_lo1 w
  · exact place_lo2 w
  · exact place_lo3 w
  · exact place_lo4 w
  · exact place_lo5 w
  · exact place_lo6 w
  · exact place_lo7 w
  · exact place_lo8 w
  · exact place_lo9 w
  · exact place_lo10 w
  · exact place_lo11 w
  · exact place_lo12 w
  · exact place_lo13 w
  · exact place_lo14 w
  · exact place_lo15 w
end Go.Proofs.Ytkgicooplgmmpaa
