/-
  The walks of what both Mix call: RGB, between, colour, Unit; words of a channel.
-/
import Derived.Test.YtkgicooplgmmpaaMz
import Derived.Test.YtkgicooplgmmpaaPl
import Derived.Laws.FloatArith
namespace Go.Proofs.Ytkgicooplgmmpaa
open Go.RowKit

/-- The document's channels. -/
theorem rgbR_none (c : Int) (h1 : ¬ (256 ≤ c ∧ c ≤ 511)) (h2 : ¬ (16777216 ≤ c ∧ c ≤ 33554431)) (hc : -2147483648 ≤ c ∧ c ≤ 2147483647) (w : World) : Calls Try.prog 65 #[.int .i32 c] w (VBel (rgbV tri64 c) w) := by
  have hv : rgbV tri64 c = .tuple #[tri3 0 0 0, .bool false] := by unfold rgbV; rw [rgbC_none h1 h2]; rfl
  have HV := Lib.hid hv
  by_cases h0 : c = 1
  · subst h0
    have HS := Lib.hid (sort_plain)
    clear hv h1 h2 hc
    go_enter Try.func65, Try.ntmps65
    go_wp2_with (first | (go_at_call 72; ((with_reducible refine (HS.out _).mono ?_); rintro e w1 ⟨rfl, rfl⟩; unfold SortV)))
    refine bodyPost_ret (v := .tuple #[tri3 0 0 0, .bool false]) (by simp [results, Try.results65, go_sem]) rfl ⟨by rw [HV.out], ?_⟩
    exact (Below.refl _ w).alloc (Nat.le_refl _) _
  · have HS := Lib.hid (sort_none c h0 h1 h2 hc)
    clear hv h1 h2 hc
    go_enter Try.func65, Try.ntmps65
    go_wp2_with (first | (go_at_call 72; ((with_reducible refine (HS.out _).mono ?_); rintro e w1 ⟨rfl, rfl⟩; unfold SortV)))
    refine bodyPost_ret (v := .tuple #[tri3 0 0 0, .bool false]) (by simp [results, Try.results65, go_sem]) rfl ⟨by rw [HV.out], ?_⟩
    exact (Below.refl _ w).alloc (Nat.le_refl _) _
theorem rgbR_full (c : Int) (h1 : 16777216 ≤ c) (h2 : c ≤ 33554431) (w : World) : Calls Try.prog 65 #[.int .i32 c] w (VBel (rgbV tri64 c) w) := by
  have hv : rgbV tri64 c = .tuple #[tri3 ((c - 16777216) / 65536) ((c - 16777216) / 256 % 256) ((c - 16777216) % 256), .bool true] := by
    unfold rgbV; rw [rgbC_full h1 h2]
    rw [show (c - 16777216) / 65536 = (((c - 16777216).toNat / 65536 : Nat) : Int) by omega, show (c - 16777216) / 256 % 256 = (((c - 16777216).toNat / 256 % 256 : Nat) : Int) by omega, show (c - 16777216) % 256 = (((c - 16777216).toNat % 256 : Nat) : Int) by omega]
    rfl
  have HV := Lib.hid hv
  have HS := Lib.hid (sort_full c h1 h2)
  clear hv
  go_enter Try.func65, Try.ntmps65
  go_wp2_with (first | (go_at_call 72; ((with_reducible refine (HS.out _).mono ?_); rintro e w1 ⟨rfl, rfl⟩; unfold SortV)))
  refine bodyPost_ret (v := .tuple #[tri3 ((c - 16777216) / 65536) ((c - 16777216) / 256 % 256) ((c - 16777216) % 256), .bool true]) (by simp [results, Try.results65, go_sem]) rfl ⟨by rw [HV.out], ?_⟩
  exact (Below.refl _ w).alloc (Nat.le_refl _) _
theorem rgbR_pal (c : Int) (h1 : 256 ≤ c) (h2 : c ≤ 511) (w : World) : Calls Try.prog 65 #[.int .i32 c] w (VBel (rgbV tri64 c) w) := by
  obtain ⟨a, b, d, hp⟩ : ∃ a b d, palC (c - 256).toNat = (a, b, d) := ⟨_, _, _, rfl⟩
  have hv : rgbV tri64 c = .tuple #[tri3 a b d, .bool true] := by unfold rgbV; rw [rgbC_pal h1 h2, hp]; rfl
  have HP : Hid (tri64 (palC (c - 256).toNat) = tri3 a b d) := Lib.hid (by rw [hp]; rfl)
  have HV := Lib.hid hv
  have HS := Lib.hid (sort_pal c h1 h2)
  clear hv hp
  go_enter Try.func65, Try.ntmps65
  go_wp2_with (first | (go_at_call 72; ((with_reducible refine (HS.out _).mono ?_); rintro e w1 ⟨rfl, rfl⟩; unfold SortV)) | (go_at_call 73; ((with_reducible refine (chan_any _ (by omega) (by omega) _).mono ?_); rw [HP.out]; rintro e w1 ⟨rfl, hb1⟩; obtain ⟨hc1, hf1⟩ := bcell hb1; have hz := hb1.size; simp at hz)))
  refine bodyPost_ret (v := .tuple #[tri3 a b d, .bool true]) (by simp [results, Try.results65, go_sem, hc1]) rfl ⟨by rw [HV.out], ?_⟩
  have hb := ((Below.refl _ w).alloc (Nat.le_refl _) (.cells #[.int .i64 0, .int .i64 0, .int .i64 0] 82)).trans (hb1.mono (by simp))
  exact ((hb.setCell (Nat.le_refl _) _).setCell (Nat.le_refl _) _).setCell (Nat.le_refl _) _
theorem rgbR_any (c : Int) (hc : -2147483648 ≤ c ∧ c ≤ 2147483647) (w : World) : Calls Try.prog 65 #[.int .i32 c] w (VBel (rgbV tri64 c) w) := by
  by_cases h1 : 256 ≤ c ∧ c ≤ 511
  · exact rgbR_pal c h1.1 h1.2 w
  · by_cases h2 : 16777216 ≤ c ∧ c ≤ 33554431
    · exact rgbR_full c h2.1 h2.2 w
    · exact rgbR_none c h1 h2 hc w
theorem lev_le {k : Nat} (h : k ≤ 5) : lev k ≤ 255 := by unfold lev; split <;> omega
theorem bitC_le (n m : Nat) : bitC n m ≤ 255 := by unfold bitC; split <;> split <;> omega
theorem rgbC_le {c : Int} {p : Nat × Nat × Nat} (h : rgbC c = some p) : p.1 ≤ 255 ∧ p.2.1 ≤ 255 ∧ p.2.2 ≤ 255 := by
  unfold rgbC at h
  split at h
  · rename_i hc
    cases h
    exact ⟨by show (c - 16777216).toNat / 65536 ≤ 255; omega, by show (c - 16777216).toNat / 256 % 256 ≤ 255; omega, by show (c - 16777216).toNat % 256 ≤ 255; omega⟩
  · split at h
    · rename_i hc
      cases h
      have hn : (c - 256).toNat < 256 := by omega
      generalize (c - 256).toNat = n at hn
      unfold palC
      split
      · exact ⟨bitC_le _ _, bitC_le _ _, bitC_le _ _⟩
      · split
        · exact ⟨lev_le (by omega), lev_le (by omega), lev_le (by omega)⟩
        · exact ⟨by show 8 + 10 * (n - 232) ≤ 255; omega, by show 8 + 10 * (n - 232) ≤ 255; omega, by show 8 + 10 * (n - 232) ≤ 255; omega⟩
    · cases h

/-! the words of a channel -/
def floorW (f : Nat) : Nat := D.write ((D.read f).integral .down)
theorem lift2_inv {g : Nat → Nat → Option Nat} {a b : FL} {r : Nat} (h : lift2 g a b = some r) : ∃ p q, a = some p ∧ b = some q ∧ g p q = some r := by
  unfold lift2 at h
  cases a with
  | none => cases h
  | some p =>
    cases b with
    | none => cases h
    | some q => exact ⟨p, q, rfl, rfl, h⟩
theorem fl_inv {b c : Nat} (h : fl b = some c) : b = c := by
  unfold fl at h
  split at h
  · cases h
  · exact Option.some.inj h
theorem mix_words {x y : Nat} (hx : x ≤ 255) (hy : y ≤ 255) {u k d : Nat} (hu : N (fl u) k) (hk : k ≤ 4607182418800017408) (hd : rg d < 9218868437227405312) (hV : V d = ((y : Int) - x) * S1) :
    ∃ p s f, D.mul d u = some p ∧ D.add (IW x) p = some s ∧ D.add s halfW = some f ∧ (D.read f).isNaN = false ∧ floorW f = IW (mixK x y (val k)) := by
  obtain ⟨r, e, h1, h2⟩ := hu
  obtain rfl := fl_inv e
  have hr : rg u < 9218868437227405312 := by rw [rg_of_sr h2]; omega
  have hv := V_of_sr h2
  obtain ⟨f, e1, e2, e3, _⟩ := mix_chain hx hy hr (by rw [hv]; omega) (by rw [hv]; have := val_le_one hk; omega) hd hV
  rw [hv] at e3
  obtain ⟨s, hh, a1, a2, a3⟩ := lift2_inv e1
  obtain rfl := fl_inv a2
  obtain ⟨x', p, b1, b2, b3⟩ := lift2_inv a1
  obtain rfl := fl_inv b1
  obtain ⟨d', u', c1, c2, c3⟩ := lift2_inv b2
  obtain rfl := fl_inv c1
  obtain rfl := fl_inv c2
  refine ⟨p, s, f, c3, b3, a3, ?_, fl_inv e3⟩
  cases h : (D.read f).isNaN with
  | false => rfl
  | true => rw [fl_none h] at e2; cases e2
theorem sub_word {x y : Nat} (hx : x ≤ 255) (hy : y ≤ 255) : ∃ d, D.sub (IW y) (IW x) = some d ∧ rg d < 9218868437227405312 ∧ V d = ((y : Int) - x) * S1 := by
  obtain ⟨d, e, _, h1, h2⟩ := IW_sub hx hy
  obtain ⟨p, q, a, b, c⟩ := lift2_inv e
  obtain rfl := fl_inv a
  obtain rfl := fl_inv b
  exact ⟨d, c, h1, h2⟩
theorem mixK_le {x y k : Nat} (hx : x ≤ 255) (hy : y ≤ 255) (hk : k ≤ 4607182418800017408) : mixK x y (val k) ≤ 255 := by
  have := mixK_eq hx hy (U := val k) (by omega) (by have := val_le_one hk; omega)
  omega

theorem VBel.int {k : IntKind} {n n' : Int} {w w' : World} (h : n = n') (hb : Below w.heap.size w w') : VBel (.int k n') w (.returned (.int k n)) w' := ⟨by rw [h], hb⟩
set_option maxHeartbeats 400000 in
theorem floorQ_any (x : Nat) (hn : (D.read x).isNaN = false) (w : World) : Calls Try.prog 35 #[.float .f64 x] w (VRet (.float .f64 (floorW x)) w) := by
  have h1 := run_archFloor x hn
  clear hn
  go_enter Try.func35, Try.ntmps35
  go_wp2
  go_ret
  exact ⟨rfl, rfl⟩
set_option maxHeartbeats 400000 in
theorem between_any {x y u k : Nat} (hx : x ≤ 255) (hy : y ≤ 255) (hu : N (fl u) k) (hk : k ≤ 4607182418800017408) (w : World) :
    Calls Try.prog 67 #[.int .i64 x, .int .i64 y, .float .f64 u] w (VRet (.int .i64 (mixK x y (val k))) w) := by
  obtain ⟨d, hd, d1, d2⟩ := sub_word hx hy
  obtain ⟨p, s, f, hp, hs, hf, hn, hw⟩ := mix_words hx hy hu hk d1 d2
  have r1 := fun w : World => run_float_arith (P := Try.prog) w .sub 22 .f64 (IW y) (IW x) d hd
  have r2 := fun w : World => run_float_arith (P := Try.prog) w .mul 22 .f64 d u p hp
  have r3 := fun w : World => run_float_arith (P := Try.prog) w .add 22 .f64 (IW x) p s hs
  have r4 := fun w : World => run_float_arith (P := Try.prog) w .add 22 .f64 s halfW f hf
  have r5 := fun w : World => run_convert_float_int (P := Try.prog) w 22 3 .f64 .i64 (IW (mixK x y (val k))) _ (by kernel_rfl) Try.underlying3 (IW_k (mixK_le hx hy hk)).2.1
  have HF := Lib.hid (floorQ_any f hn)
  rw [hw] at HF
  generalize IW (mixK x y (val k)) = g at *
  generalize mixK x y (val k) = m at *
  have hx' : (x : Int) ≤ 255 := by omega
  have hy' : (y : Int) ≤ 255 := by omega
  clear hd d1 d2 hp hs hf hn hw hu hk hx hy
  go_enter Try.func67, Try.ntmps67
  go_wp2_with (first | (go_at_call 35; ((with_reducible refine (HF.out _).mono ?_); rintro e w1 ⟨rfl, rfl⟩)))
  go_ret
  exact ⟨rfl, rfl⟩
theorem colour_any (r g b : Nat) (hr : r ≤ 255) (hg : g ≤ 255) (hb : b ≤ 255) (w : World) : Calls Try.prog 66 #[.int .i64 r, .int .i64 g, .int .i64 b] w (VRet (.int .i32 (16777216 + 65536 * r + 256 * g + b)) w) := by
  have hr' : (r : Int) ≤ 255 := by omega
  have hg' : (g : Int) ≤ 255 := by omega
  have hb' : (b : Int) ≤ 255 := by omega
  clear hr hg hb
  go_enter Try.func66, Try.ntmps66
  go_wp2
  go_ret
  exact ⟨rfl, rfl⟩
theorem whole_any (r g b : Nat) (hr : r ≤ 255) (hg : g ≤ 255) (hb : b ≤ 255) (w : World) : Calls Try.prog 63 #[arr3 r g b] w (VBel (.int .i32 (16777216 + 65536 * r + 256 * g + b)) w) := by
  have hr' : (r : Int) ≤ 255 := by omega
  have hg' : (g : Int) ≤ 255 := by omega
  have hb' : (b : Int) ≤ 255 := by omega
  clear hr hg hb
  go_enter Try.func63, Try.ntmps63
  go_wp2
  go_ret
  exact VBel.int (by omega) ((Below.refl _ _).alloc (Nat.le_refl _) _)
end Go.Proofs.Ytkgicooplgmmpaa
