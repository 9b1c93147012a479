/-
  The walks of the colours' channels.
-/
import Derived.Test.YtkgicooplgmmpaaMx
import Derived.Test.YtkgicooplgmmpaaSp
namespace Go.Proofs.Ytkgicooplgmmpaa
open Go.RowKit

theorem palC_mid {n : Nat} (h1 : 16 ≤ n) (h2 : n < 232) : arr3 (lev ((n - 16) / 36)) (lev ((n - 16) / 6 % 6)) (lev ((n - 16) % 6)) = tri8 (palC n) := by
  unfold palC
  rw [if_neg (by omega), if_pos h2]
  rfl
theorem palC_hi {n : Nat} (h1 : 232 ≤ n) : arr3 (8 + 10 * ((n : Int) - 232)) (8 + 10 * ((n : Int) - 232)) (8 + 10 * ((n : Int) - 232)) = tri8 (palC n) := by
  unfold palC
  rw [if_neg (by omega), if_neg (by omega)]
  rw [show 8 + 10 * ((n : Int) - 232) = ((8 + 10 * (n - 232) : Nat) : Int) by omega]
  rfl
set_option maxRecDepth 100000 in
set_option maxHeartbeats 1000000 in
theorem place_mid (n : Nat) (h1 : 16 ≤ n) (h2 : n < 232) (w : World) : Calls Try.prog 70 #[.int .i64 n] w (VBel (tri8 (palC n)) w) := by
  have HP := Lib.hid (palC_mid h1 h2)
  have c1 : 0 ≤ ((n : Int) - 16) / 36 ∧ ((n : Int) - 16) / 36 ≤ 5 := by omega
  have c2 : 0 ≤ ((n : Int) - 16) / 6 % 6 ∧ ((n : Int) - 16) / 6 % 6 ≤ 5 := by omega
  have c3 : 0 ≤ ((n : Int) - 16) % 6 ∧ ((n : Int) - 16) % 6 ≤ 5 := by omega
  have d2 : (n : Int) < 232 := by omega
  have d1 : 16 ≤ (n : Int) := by omega
  go_enter Try.func70, Try.ntmps70
  go_wp2_with (first | (go_at_call 76; ((with_reducible refine (level_i _ (by omega) (by omega) _).mono ?_); rintro e w' ⟨rfl, rfl⟩)))
  apply bodyPost_ret (results_cell_row (cs := #[_, _, _]) rfl _ _ w.heap.size _ _ _ rfl (heap_alloc_new _ _) Try.underlying76 rfl (by kernel_rfl)) rfl
  exact place_lo_post rfl ((Below.refl _ _).alloc (Nat.le_refl _) _) HP.out
set_option maxRecDepth 100000 in
set_option maxHeartbeats 1000000 in
theorem place_hi (n : Nat) (h1 : 232 ≤ n) (h2 : n < 256) (w : World) : Calls Try.prog 70 #[.int .i64 n] w (VBel (tri8 (palC n)) w) := by
  have HP := Lib.hid (palC_hi h1)
  have d1 : 232 ≤ (n : Int) := by omega
  have d2 : (n : Int) < 256 := by omega
  clear h1 h2
  go_enter Try.func70, Try.ntmps70
  go_wp2
  apply bodyPost_ret (results_cell_row (cs := #[_, _, _]) rfl _ _ w.heap.size _ _ _ rfl (heap_alloc_new _ _) Try.underlying76 rfl (by kernel_rfl)) rfl
  exact place_lo_post rfl ((Below.refl _ _).alloc (Nat.le_refl _) _) HP.out

theorem place_any (n : Int) (h0 : 0 ≤ n) (h1 : n < 256) (w : World) : Calls Try.prog 70 #[.int .i64 n] w (VBel (tri8 (palC n.toNat)) w) := by
  obtain ⟨j, rfl⟩ : ∃ j : Nat, n = j := ⟨n.toNat, by omega⟩
  rw [Int.toNat_natCast]
  rcases Nat.lt_or_ge j 16 with h | h
  · exact place_lo j h w
  · rcases Nat.lt_or_ge j 232 with h' | h'
    · exact place_mid j h h' w
    · exact place_hi j h' (by omega) w

/-- What RGB answers. -/
def rgbV (T : Nat × Nat × Nat → Value) (c : Int) : Value := match rgbC c with | some p => .tuple #[T p, .bool true] | none => .tuple #[T (0, 0, 0), .bool false]
theorem rgbC_full {c : Int} (h1 : 16777216 ≤ c) (h2 : c ≤ 33554431) : rgbC c = some ((c - 16777216).toNat / 65536, (c - 16777216).toNat / 256 % 256, (c - 16777216).toNat % 256) := by unfold rgbC; rw [if_pos ⟨h1, h2⟩]
theorem rgbC_pal {c : Int} (h1 : 256 ≤ c) (h2 : c ≤ 511) : rgbC c = some (palC (c - 256).toNat) := by unfold rgbC; rw [if_neg (by omega), if_pos ⟨h1, h2⟩]
theorem rgbC_none {c : Int} (h1 : ¬ (256 ≤ c ∧ c ≤ 511)) (h2 : ¬ (16777216 ≤ c ∧ c ≤ 33554431)) : rgbC c = none := by unfold rgbC; rw [if_neg h2, if_neg h1]
theorem rgb_pal (c : Int) (h1 : 256 ≤ c) (h2 : c ≤ 511) (w : World) : Calls Try.prog 61 #[.int .i32 c] w (VBel (rgbV tri8 c) w) := by
  obtain ⟨a, b, d, hp⟩ : ∃ a b d, palC (c - 256).toNat = (a, b, d) := ⟨_, _, _, rfl⟩
  have hv : rgbV tri8 c = .tuple #[arr3 a b d, .bool true] := by unfold rgbV; rw [rgbC_pal h1 h2, hp]; rfl
  have HP : Hid (tri8 (palC (c - 256).toNat) = arr3 a b d) := Lib.hid (by rw [hp]; rfl)
  have HV := Lib.hid hv
  have HC := Lib.hid (countC_ok (c := c) (by omega))
  clear hv hp
  go_enter Try.func61, Try.ntmps61
  go_wp2_with (first | (go_at_call 62; ((with_reducible refine (counted_any _ _).mono ?_); rw [HC.out]; rintro e w' ⟨rfl, rfl⟩)) | (go_at_call 70; ((with_reducible refine (place_any _ (by omega) (by omega) _).mono ?_); rw [HP.out]; rintro e w1 ⟨rfl, hb1⟩; obtain ⟨hc1, hf1⟩ := bcell hb1; have hz := hb1.size; simp at hz)))
  refine bodyPost_ret (v := .tuple #[arr3 a b d, .bool true]) (by simp [results, Try.results61, go_sem, hc1]) rfl ⟨by rw [HV.out], ?_⟩
  have hb := ((Below.refl _ w).alloc (Nat.le_refl _) (.cells #[.int .u8 0, .int .u8 0, .int .u8 0] 76)).trans (hb1.mono (by simp))
  exact ((hb.setCell (Nat.le_refl _) _).setCell (Nat.le_refl _) _).setCell (Nat.le_refl _) _
theorem rgb_full (c : Int) (h1 : 16777216 ≤ c) (h2 : c ≤ 33554431) (w : World) : Calls Try.prog 61 #[.int .i32 c] w (VBel (rgbV tri8 c) w) := by
  have hv : rgbV tri8 c = .tuple #[arr3 (c / 65536 % 256) (c / 256 % 256) (c % 256), .bool true] := by
    unfold rgbV; rw [rgbC_full h1 h2]
    rw [show c / 65536 % 256 = (((c - 16777216).toNat / 65536 : Nat) : Int) by omega, show c / 256 % 256 = (((c - 16777216).toNat / 256 % 256 : Nat) : Int) by omega, show c % 256 = (((c - 16777216).toNat % 256 : Nat) : Int) by omega]
    rfl
  have HV := Lib.hid hv
  have HC := Lib.hid (countC_ok (c := c) (by omega))
  clear hv
  go_enter Try.func61, Try.ntmps61
  go_wp2_with (first | (go_at_call 62; ((with_reducible refine (counted_any _ _).mono ?_); rw [HC.out]; rintro e w' ⟨rfl, rfl⟩)))
  refine bodyPost_ret (v := .tuple #[arr3 (c / 65536 % 256) (c / 256 % 256) (c % 256), .bool true]) (by simp [results, Try.results61, go_sem]) rfl ⟨by rw [HV.out], ?_⟩
  exact (Below.refl _ w).alloc (Nat.le_refl _) _
theorem rgb_none (c : Int) (h1 : ¬ (256 ≤ c ∧ c ≤ 511)) (h2 : ¬ (16777216 ≤ c ∧ c ≤ 33554431)) (w : World) : Calls Try.prog 61 #[.int .i32 c] w (VBel (rgbV tri8 c) w) := by
  have hv : rgbV tri8 c = .tuple #[arr3 0 0 0, .bool false] := by unfold rgbV; rw [rgbC_none h1 h2]; rfl
  have HV := Lib.hid hv
  have hc : 0 ≤ countC c ∧ countC c < 256 := by unfold countC; split <;> omega
  obtain ⟨k, hk⟩ : ∃ k, k = countC c := ⟨_, rfl⟩
  have HK := Lib.hid hk.symm
  rw [← hk] at hc
  clear hv hk h1 h2
  go_enter Try.func61, Try.ntmps61
  go_wp2_with (first | (go_at_call 62; ((with_reducible refine (counted_any _ _).mono ?_); rw [HK.out]; rintro e w' ⟨rfl, rfl⟩)))
  refine bodyPost_ret (v := .tuple #[arr3 0 0 0, .bool false]) (by simp [results, Try.results61, go_sem]) rfl ⟨by rw [HV.out], ?_⟩
  exact (Below.refl _ w).alloc (Nat.le_refl _) _
theorem rgb_any (c : Int) (w : World) : Calls Try.prog 61 #[.int .i32 c] w (VBel (rgbV tri8 c) w) := by
  by_cases h1 : 256 ≤ c ∧ c ≤ 511
  · exact rgb_pal c h1.1 h1.2 w
  · by_cases h2 : 16777216 ≤ c ∧ c ≤ 33554431
    · exact rgb_full c h2.1 h2.2 w
    · exact rgb_none c h1 h2 w

/-! the document's -/
def SortV (a b : Int) : Value := .tuple #[.int .i64 a, .int .i64 b]
theorem sort_plain (w : World) : Calls Try.prog 72 #[.int .i32 1] w (VRet (SortV 1 0) w) := by
  go_enter Try.func72, Try.ntmps72
  go_wp2
  all_goals (go_ret2; exact ⟨rfl, rfl⟩)
theorem sort_pal (c : Int) (h1 : 256 ≤ c) (h2 : c ≤ 511) (w : World) : Calls Try.prog 72 #[.int .i32 c] w (VRet (SortV 2 (c - 256)) w) := by
  go_enter Try.func72, Try.ntmps72
  go_wp2
  all_goals (go_ret2; exact ⟨rfl, rfl⟩)
theorem sort_full (c : Int) (h1 : 16777216 ≤ c) (h2 : c ≤ 33554431) (w : World) : Calls Try.prog 72 #[.int .i32 c] w (VRet (SortV 3 (c - 16777216)) w) := by
  go_enter Try.func72, Try.ntmps72
  go_wp2
  all_goals (go_ret2; exact ⟨rfl, rfl⟩)
theorem sort_none (c : Int) (h0 : c ≠ 1) (h1 : ¬ (256 ≤ c ∧ c ≤ 511)) (h2 : ¬ (16777216 ≤ c ∧ c ≤ 33554431)) (hc : -2147483648 ≤ c ∧ c ≤ 2147483647) (w : World) : Calls Try.prog 72 #[.int .i32 c] w (VRet (SortV 0 0) w) := by
  have h00 : (c == 1) = false := by simpa using h0
  obtain ⟨h3, h4⟩ := hc
  have hk : c < 256 ∨ (511 < c ∧ c < 16777216) ∨ 33554431 < c := by omega
  clear h1 h2 h0
  rcases hk with h | ⟨h, h'⟩ | h
  · go_enter Try.func72, Try.ntmps72
    go_wp2
    all_goals (go_ret2; exact ⟨rfl, rfl⟩)
  · go_enter Try.func72, Try.ntmps72
    go_wp2
    all_goals (go_ret2; exact ⟨rfl, rfl⟩)
  · go_enter Try.func72, Try.ntmps72
    go_wp2
    all_goals (go_ret2; exact ⟨rfl, rfl⟩)
theorem countedR_any (c : Int) (hc : -2147483648 ≤ c ∧ c ≤ 2147483647) (w : World) : Calls Try.prog 68 #[.int .i32 c] w (VRet (.int .i32 (countC c)) w) := by
  by_cases h0 : c = 1
  · subst h0
    have HS := Lib.hid (sort_plain w)
    go_enter Try.func68, Try.ntmps68
    go_wp2_with (first | (go_at_call 72; ((with_reducible refine HS.out.mono ?_); rintro e w1 ⟨rfl, rfl⟩; unfold SortV)))
    go_ret
    exact ⟨rfl, rfl⟩
  by_cases h1 : 256 ≤ c ∧ c ≤ 511
  · have HS := Lib.hid (sort_pal c h1.1 h1.2 w)
    have HC := Lib.hid (countC_ok (c := c) (by omega))
    go_enter Try.func68, Try.ntmps68
    go_wp2_with (first | (go_at_call 72; ((with_reducible refine HS.out.mono ?_); rintro e w1 ⟨rfl, rfl⟩; unfold SortV)))
    go_ret
    exact VRet.int HC.out.symm
  by_cases h2 : 16777216 ≤ c ∧ c ≤ 33554431
  · have HS := Lib.hid (sort_full c h2.1 h2.2 w)
    have HC := Lib.hid (countC_ok (c := c) (by omega))
    go_enter Try.func68, Try.ntmps68
    go_wp2_with (first | (go_at_call 72; ((with_reducible refine HS.out.mono ?_); rintro e w1 ⟨rfl, rfl⟩; unfold SortV)))
    go_ret
    exact VRet.int HC.out.symm
  · have HS := Lib.hid (sort_none c h0 h1 h2 hc w)
    have hc' : countC c = 0 := by unfold countC; split <;> omega
    have HC := Lib.hid hc'
    clear h0 h1 h2 hc hc'
    go_enter Try.func68, Try.ntmps68
    go_wp2_with (first | (go_at_call 72; ((with_reducible refine HS.out.mono ?_); rintro e w1 ⟨rfl, rfl⟩; unfold SortV)))
    go_ret
    exact VRet.int HC.out.symm
abbrev tri3 (a b c : Int) : Value := .agg #[.int .i64 a, .int .i64 b, .int .i64 c]
def tri64 (p : Nat × Nat × Nat) : Value := tri3 p.1 p.2.1 p.2.2
def bitI (n m : Nat) (lo hi : Int) : Int := if n / m % 2 = 1 then hi else lo
theorem bit_1 (n : Nat) (hn : n < 16) (lo hi : Int) (w : World) : Calls Try.prog 77 #[.int .i64 n, .int .i64 1, .int .i64 lo, .int .i64 hi] w (VRet (.int .i64 (bitI n 1 lo hi)) w) := by
  by_cases h : n / 1 % 2 = 1
  · have hh : ((n : Int) % 2 == 1) = true := by simp; omega
    have HB := Lib.hid (show bitI n 1 lo hi = hi from if_pos h)
    clear h
    go_enter Try.func77, Try.ntmps77
    go_wp2
    go_ret
    exact VRet.int HB.out.symm
  · have hh : ((n : Int) % 2 == 1) = false := by simp; omega
    have HB := Lib.hid (show bitI n 1 lo hi = lo from if_neg h)
    clear h
    go_enter Try.func77, Try.ntmps77
    go_wp2
    go_ret
    exact VRet.int HB.out.symm
theorem bit_2 (n : Nat) (hn : n < 16) (lo hi : Int) (w : World) : Calls Try.prog 77 #[.int .i64 n, .int .i64 2, .int .i64 lo, .int .i64 hi] w (VRet (.int .i64 (bitI n 2 lo hi)) w) := by
  by_cases h : n / 2 % 2 = 1
  · have hh : ((n : Int) / 2 % 2 == 1) = true := by simp; omega
    have HB := Lib.hid (show bitI n 2 lo hi = hi from if_pos h)
    clear h
    go_enter Try.func77, Try.ntmps77
    go_wp2
    go_ret
    exact VRet.int HB.out.symm
  · have hh : ((n : Int) / 2 % 2 == 1) = false := by simp; omega
    have HB := Lib.hid (show bitI n 2 lo hi = lo from if_neg h)
    clear h
    go_enter Try.func77, Try.ntmps77
    go_wp2
    go_ret
    exact VRet.int HB.out.symm
theorem bit_4 (n : Nat) (hn : n < 16) (lo hi : Int) (w : World) : Calls Try.prog 77 #[.int .i64 n, .int .i64 4, .int .i64 lo, .int .i64 hi] w (VRet (.int .i64 (bitI n 4 lo hi)) w) := by
  by_cases h : n / 4 % 2 = 1
  · have hh : ((n : Int) / 4 % 2 == 1) = true := by simp; omega
    have HB := Lib.hid (show bitI n 4 lo hi = hi from if_pos h)
    clear h
    go_enter Try.func77, Try.ntmps77
    go_wp2
    go_ret
    exact VRet.int HB.out.symm
  · have hh : ((n : Int) / 4 % 2 == 1) = false := by simp; omega
    have HB := Lib.hid (show bitI n 4 lo hi = lo from if_neg h)
    clear h
    go_enter Try.func77, Try.ntmps77
    go_wp2
    go_ret
    exact VRet.int HB.out.symm
theorem cube_any (k : Nat) (hk : k ≤ 5) (w : World) : Calls Try.prog 78 #[.int .i64 k] w (VBel (.int .i64 (lev k)) w) := by
  have hc : k = 0 ∨ k = 1 ∨ k = 2 ∨ k = 3 ∨ k = 4 ∨ k = 5 := by omega
  clear hk
  rcases hc with rfl | rfl | rfl | rfl | rfl | rfl
  all_goals
    go_enter Try.func78, Try.ntmps78
    go_wp2
    go_ret
    exact ⟨rfl, by (repeat (first | exact Below.refl _ _ | assumption | refine below_drewN ?_ _ | refine Below.drew ?_ | (refine Below.alloc ?_ ?bs _; (case bs => first | omega | (simp; done) | (simp; omega))) | (refine Below.setCell ?_ ?bs _; (case bs => first | omega | (simp; done) | (simp; omega)))))⟩
end Go.Proofs.Ytkgicooplgmmpaa
