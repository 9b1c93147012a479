/-
  The walks of the document's channels.
-/
import Derived.Test.YtkgicooplgmmpaaMy
namespace Go.Proofs.Ytkgicooplgmmpaa
open Go.RowKit

theorem cube_i (k : Int) (h0 : 0 ≤ k) (h1 : k ≤ 5) (w : World) : Calls Try.prog 78 #[.int .i64 k] w (VBel (.int .i64 (lev k.toNat)) w) := by
  obtain ⟨j, rfl⟩ : ∃ j : Nat, k = j := ⟨k.toNat, by omega⟩
  exact cube_any j (by omega) w
theorem tri_post {a b c : Int} {v : Value} {w : World} {e : Ending} {w' : World} (he : e = .returned (tri3 a b c)) (hb : Below w.heap.size w w') (hv : tri3 a b c = v) : VBel v w e w' := ⟨by rw [he, hv], hb⟩
theorem chan_lo (n : Nat) (hn : n < 16) (w : World) : Calls Try.prog 73 #[.int .i64 n] w (VBel (tri64 (palC n)) w) := by
  have hv : tri3 (bitI n 1 (if 8 ≤ n then 85 else 0) (if 8 ≤ n then 255 else 170)) (bitI n 2 (if 8 ≤ n then 85 else 0) (if 8 ≤ n then 255 else 170)) (bitI n 4 (if 8 ≤ n then 85 else 0) (if 8 ≤ n then 255 else 170)) = tri64 (palC n) := by
    unfold palC tri64
    rw [if_pos hn]
    unfold bitI bitC
    by_cases h8 : 8 ≤ n
    · simp only [if_pos h8]; split <;> split <;> split <;> rfl
    · simp only [if_neg h8]; split <;> split <;> split <;> rfl
  have hn' : (n : Int) < 16 := by omega
  by_cases h8 : 8 ≤ n
  · simp only [if_pos h8] at hv
    have HV := Lib.hid hv
    clear hv
    have h8' : 8 ≤ (n : Int) := by omega
    go_enter Try.func73, Try.ntmps73
    go_wp2_with (first | (go_at_call 77; ((with_reducible refine (bit_1 _ (by omega) _ _ _).mono ?_); rintro e w1 ⟨rfl, rfl⟩)) | (go_at_call 77; ((with_reducible refine (bit_2 _ (by omega) _ _ _).mono ?_); rintro e w1 ⟨rfl, rfl⟩)) | (go_at_call 77; ((with_reducible refine (bit_4 _ (by omega) _ _ _).mono ?_); rintro e w1 ⟨rfl, rfl⟩)))
    apply bodyPost_ret (results_cell_row (cs := #[_, _, _]) rfl _ _ w.heap.size _ _ _ rfl (heap_alloc_new _ _) Try.underlying82 rfl (by kernel_rfl)) rfl
    exact tri_post rfl ((Below.refl _ _).alloc (Nat.le_refl _) _) HV.out
  · simp only [if_neg h8] at hv
    have HV := Lib.hid hv
    clear hv
    have h8' : (n : Int) < 8 := by omega
    go_enter Try.func73, Try.ntmps73
    go_wp2_with (first | (go_at_call 77; ((with_reducible refine (bit_1 _ (by omega) _ _ _).mono ?_); rintro e w1 ⟨rfl, rfl⟩)) | (go_at_call 77; ((with_reducible refine (bit_2 _ (by omega) _ _ _).mono ?_); rintro e w1 ⟨rfl, rfl⟩)) | (go_at_call 77; ((with_reducible refine (bit_4 _ (by omega) _ _ _).mono ?_); rintro e w1 ⟨rfl, rfl⟩)))
    apply bodyPost_ret (results_cell_row (cs := #[_, _, _]) rfl _ _ w.heap.size _ _ _ rfl (heap_alloc_new _ _) Try.underlying82 rfl (by kernel_rfl)) rfl
    exact tri_post rfl ((Below.refl _ _).alloc (Nat.le_refl _) _) HV.out
theorem tri_palC_mid {n : Nat} (h1 : 16 ≤ n) (h2 : n < 232) : tri3 (lev ((n - 16) / 36)) (lev ((n - 16) / 6 % 6)) (lev ((n - 16) % 6)) = tri64 (palC n) := by
  unfold palC
  rw [if_neg (by omega), if_pos h2]
  rfl
theorem tri_palC_hi {n : Nat} (h1 : 232 ≤ n) : tri3 (8 + 10 * ((n : Int) - 232)) (8 + 10 * ((n : Int) - 232)) (8 + 10 * ((n : Int) - 232)) = tri64 (palC n) := by
  unfold palC
  rw [if_neg (by omega), if_neg (by omega)]
  rw [show 8 + 10 * ((n : Int) - 232) = ((8 + 10 * (n - 232) : Nat) : Int) by omega]
  rfl
set_option maxRecDepth 100000 in
theorem chan_hi (n : Nat) (h1 : 232 ≤ n) (h2 : n < 256) (w : World) : Calls Try.prog 73 #[.int .i64 n] w (VBel (tri64 (palC n)) w) := by
  have HV := Lib.hid (tri_palC_hi h1)
  have d1 : 232 ≤ (n : Int) := by omega
  have d2 : (n : Int) < 256 := by omega
  clear h1 h2
  go_enter Try.func73, Try.ntmps73
  go_wp2
  apply bodyPost_ret (results_cell_row (cs := #[_, _, _]) rfl _ _ w.heap.size _ _ _ rfl (heap_alloc_new _ _) Try.underlying82 rfl (by kernel_rfl)) rfl
  exact tri_post rfl ((Below.refl _ _).alloc (Nat.le_refl _) _) HV.out
set_option maxRecDepth 100000 in
set_option maxHeartbeats 400000 in
theorem chan_mid (n : Nat) (h1 : 16 ≤ n) (h2 : n < 232) (w : World) : Calls Try.prog 73 #[.int .i64 n] w (VBel (tri64 (palC n)) w) := by
  have HV := Lib.hid (tri_palC_mid h1 h2)
  have c1 : 0 ≤ ((n : Int) - 16) / 36 ∧ ((n : Int) - 16) / 36 ≤ 5 := by omega
  have c2 : 0 ≤ ((n : Int) - 16) / 6 % 6 ∧ ((n : Int) - 16) / 6 % 6 ≤ 5 := by omega
  have c3 : 0 ≤ ((n : Int) - 16) % 6 ∧ ((n : Int) - 16) % 6 ≤ 5 := by omega
  have d2 : (n : Int) < 232 := by omega
  have d1 : 16 ≤ (n : Int) := by omega
  go_enter Try.func73, Try.ntmps73
  go_wp2_with (go_at_call 78; fail)
  have hz0 : w.heap.size < (w.alloc (.cells #[.int .i64 0, .int .i64 0, .int .i64 0] 82)).heap.size := by simp
  refine (cube_i _ (by omega) (by omega) _).mono ?_
  rintro e wa ⟨rfl, hba⟩
  have ha := hba
  go_wp2_with (go_at_call 78; fail)
  refine (cube_i _ (by omega) (by omega) _).mono ?_
  rintro e wb ⟨rfl, hbb⟩
  have hb := ha.trans (hbb.mono ha.size)
  go_wp2_with (go_at_call 78; fail)
  refine (cube_i _ (by omega) (by omega) _).mono ?_
  rintro e wc ⟨rfl, hbc⟩
  have hc := hb.trans (hbc.mono hb.size)
  clear hba hbb hbc ha hb
  obtain ⟨hcx, hfx⟩ := bcell hc
  have hzx := hc.size
  simp at hzx
  go_wp2
  refine bodyPost_ret (v := tri3 (lev ((n - 16) / 36)) (lev ((n - 16) / 6 % 6)) (lev ((n - 16) % 6))) (by simp [results, Try.results73, go_sem, hcx]) rfl ?_
  have hd := ((Below.refl _ w).alloc (Nat.le_refl _) (.cells #[.int .i64 0, .int .i64 0, .int .i64 0] 82)).trans (hc.mono (by simp))
  exact tri_post rfl (((hd.setCell (Nat.le_refl _) _).setCell (Nat.le_refl _) _).setCell (Nat.le_refl _) _) HV.out
theorem chan_any (n : Int) (h0 : 0 ≤ n) (h1 : n < 256) (w : World) : Calls Try.prog 73 #[.int .i64 n] w (VBel (tri64 (palC n.toNat)) w) := by
  obtain ⟨j, rfl⟩ : ∃ j : Nat, n = j := ⟨n.toNat, by omega⟩
  rw [Int.toNat_natCast]
  rcases Nat.lt_or_ge j 16 with h | h
  · exact chan_lo j h w
  · rcases Nat.lt_or_ge j 232 with h' | h'
    · exact chan_mid j h h' w
    · exact chan_hi j h' (by omega) w
end Go.Proofs.Ytkgicooplgmmpaa
