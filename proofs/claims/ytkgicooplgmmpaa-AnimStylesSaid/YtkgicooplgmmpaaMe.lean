/-
  The walks of the document's Blend and of the law AnimBlend.
-/
import Derived.Test.YtkgicooplgmmpaaMd
namespace Go.Proofs.Ytkgicooplgmmpaa
open Go.RowKit

set_option maxRecDepth 100000 in
set_option maxHeartbeats 1000000 in
theorem blendD_any (af ab aa bf bb ba : Int) (h1 : -2147483648 ≤ af ∧ af ≤ 2147483647) (h2 : -2147483648 ≤ ab ∧ ab ≤ 2147483647) (h3 : -2147483648 ≤ bf ∧ bf ≤ 2147483647) (h4 : -2147483648 ≤ bb ∧ bb ≤ 2147483647)
    {x y : Nat} (hy : y ≤ 4607182418800017408) (h : unitR (fl x) = some y ∨ (y = 0 ∧ unitR (fl x) = some 9223372036854775808)) (w : World) :
    Calls Try.prog 29 #[sty af ab aa, sty bf bb ba, .float .f64 x] w (VBel (blendC y af ab aa bf bb ba) w) := by
  have HU := Lib.hid (@unitB_n x y hy h)
  have HM := Lib.hid (fun (u : Nat) (hu : N (fl u) y) => And.intro (@mixD_any af bf h1 h3 u y hu hy) (@mixD_any ab bb h2 h4 u y hu hy))
  obtain ⟨kb, hkb⟩ : ∃ kb, decide (y < 4602678819172646912) = kb := ⟨_, rfl⟩
  have HK := Lib.hid hkb
  have HE : Hid (sty (mixC af bf y) (mixC ab bb y) (if kb then aa else ba) = blendC y af ab aa bf bb ba) := Lib.hid (by rw [← hkb]; unfold blendC; simp)
  clear hy h hkb h1 h2 h3 h4
  go_enter Try.func29, Try.ntmps29
  go_upto_region 2 with (first | (go_at_call 36; ((with_reducible refine (HU.out _).mono ?_); rintro e w0 ⟨r, n, hr, rfl, rfl⟩; have BU := Lib.hid (HM.out r hr); have hf := (half_flt hr).trans HK.out; clear hr)))
  have S0 := SBl.start w af ab aa bf bb ba n
  generalize ((((w.alloc (.cells #[.int .i32 af, .int .i32 ab, .int .u8 aa] 51)).alloc (.cells #[.int .i32 bf, .int .i32 bb, .int .u8 ba] 51)).alloc (.cells #[.int .i32 0, .int .i32 0, .int .u8 0] 51)).drewN n) = W at S0 ⊢
  generalize hg : w.heap.size = g at S0 ⊢
  have HG := Lib.hid hg
  clear hg
  have T0 := Lib.hid S0
  obtain ⟨i1, i2, i3, i4, i5, i6, i7, i8, i9, i10, i11, i12, i13, i14⟩ := S0
  go_wp2_with fail
  ((with_reducible refine (BU.out.1 _).mono ?_); rintro e w1 ⟨rfl, hb1⟩)
  have S1 := T0.out.below hb1
  clear T0 i1 i2 i3 i4 i5 i6 i7 i8 i9 i10 i11 i12 i13 i14 hb1
  have T0 := Lib.hid S1
  obtain ⟨i1, i2, i3, i4, i5, i6, i7, i8, i9, i10, i11, i12, i13, i14⟩ := S1
  go_wp2_with fail
  ((with_reducible refine (BU.out.2 _).mono ?_); rintro e w2 ⟨rfl, hb1⟩)
  have S1 := T0.out.below hb1
  clear T0 i1 i2 i3 i4 i5 i6 i7 i8 i9 i10 i11 i12 i13 i14 hb1
  obtain ⟨i1, i2, i3, i4, i5, i6, i7, i8, i9, i10, i11, i12, i13, i14⟩ := S1
  cases kb
  all_goals
    go_wp2
    refine bodyPost_ret (v := blendC y af ab aa bf bb ba) (by rw [← HE.out]; simp [results, Try.results29, go_sem, *]) rfl ⟨rfl, ?_⟩
    rw [HG.out]
    (repeat (first | exact Below.refl _ _ | assumption | refine below_drewN ?_ _ | refine Below.drew ?_ | (refine Below.alloc ?_ ?bs _; (case bs => first | omega | (simp; done) | (simp; omega))) | (refine Below.setCell ?_ ?bs _; (case bs => first | omega | (simp; done) | (simp; omega)))))

/-- What stands while the law's statement runs. -/
abbrev SLa (g : Nat) (w : World) (af ab aa bf bb ba : Int) (w' : World) : Prop :=
  w'.cell? ⟨g, 0, none⟩ = some (.int .i32 af) ∧ w'.cell? ⟨g, 1, none⟩ = some (.int .i32 ab) ∧ w'.cell? ⟨g, 2, none⟩ = some (.int .u8 aa) ∧
  w'.cell? ⟨g + 1, 0, none⟩ = some (.int .i32 bf) ∧ w'.cell? ⟨g + 1, 1, none⟩ = some (.int .i32 bb) ∧ w'.cell? ⟨g + 1, 2, none⟩ = some (.int .u8 ba) ∧
  g + 2 ≤ w'.heap.size ∧ Below g w w'
theorem SLa.below {g : Nat} {w : World} {af ab aa bf bb ba : Int} {W w1 : World} (h : SLa g w af ab aa bf bb ba W) (hb : Below W.heap.size W w1) : SLa g w af ab aa bf bb ba w1 := by
  obtain ⟨h1, h2, h3, h4, h5, h6, h7, h8⟩ := h
  obtain ⟨hc, hf⟩ := bcell hb
  have := hb.size
  exact ⟨by rw [hc _ _ (by omega)]; exact h1, by rw [hc _ _ (by omega)]; exact h2, by rw [hc _ _ (by omega)]; exact h3, by rw [hc _ _ (by omega)]; exact h4, by rw [hc _ _ (by omega)]; exact h5, by rw [hc _ _ (by omega)]; exact h6,
    by omega, h8.trans (hb.mono (by omega))⟩
theorem SLa.drew {g : Nat} {w : World} {af ab aa bf bb ba : Int} {W : World} (h : SLa g w af ab aa bf bb ba W) : SLa g w af ab aa bf bb ba W.drew := by
  obtain ⟨h1, h2, h3, h4, h5, h6, h7, h8⟩ := h
  exact ⟨h1, h2, h3, h4, h5, h6, h7, h8.drew⟩
theorem SLa.start (w : World) (af ab aa bf bb ba : Int) : SLa w.heap.size w af ab aa bf bb ba ((w.alloc (.cells #[.int .i32 af, .int .i32 ab, .int .u8 aa] 51)).alloc (.cells #[.int .i32 bf, .int .i32 bb, .int .u8 ba] 51)) := by
  have b0 := Below.refl w.heap.size w
  have b1 := b0.alloc (Nat.le_refl _) (.cells #[.int .i32 af, .int .i32 ab, .int .u8 aa] 51)
  have b2 := b1.alloc (by simp) (.cells #[.int .i32 bf, .int .i32 bb, .int .u8 ba] 51)
  refine ⟨?_, ?_, ?_, ?_, ?_, ?_, ?_, b2⟩
  all_goals go_simp

theorem units_of (x : Nat) (hx : x < 18446744073709551616) : ∃ y : Nat, y ≤ 4607182418800017408 ∧ unitP (fl x) = some y ∧ (unitR (fl x) = some y ∨ (y = 0 ∧ unitR (fl x) = some 9223372036854775808)) := by
  obtain ⟨y, h1, h2, h3⟩ := unit_cases (fl x) (W64_fl hx)
  exact ⟨y, h1, h2, h3.imp id fun ⟨a, _, b⟩ => ⟨a, b⟩⟩

set_option maxRecDepth 100000 in
set_option maxHeartbeats 1000000 in
theorem lawBlend_any (af ab aa bf bb ba : Int) (h1 : -2147483648 ≤ af ∧ af ≤ 2147483647) (h2 : -2147483648 ≤ ab ∧ ab ≤ 2147483647) (h3 : -2147483648 ≤ bf ∧ bf ≤ 2147483647) (h4 : -2147483648 ≤ bb ∧ bb ≤ 2147483647)
    (x : Nat) (hx : x < 18446744073709551616) (w : World) : Calls Try.prog 10 #[sty af ab aa, sty bf bb ba, .float .f64 x] w (BBool true w) := by
  obtain ⟨y, hy, hP, hR⟩ := units_of x hx
  have HP := Lib.hid (blendP_any af ab aa bf bb ba hy hP)
  have HR := Lib.hid (blendD_any af ab aa bf bb ba h1 h2 h3 h4 hy hR)
  clear hy hP hR h1 h2 h3 h4 hx
  obtain ⟨c1, c2, c3, hc⟩ : ∃ c1 c2 c3, blendC y af ab aa bf bb ba = sty c1 c2 c3 := ⟨_, _, _, rfl⟩
  have HC := Lib.hid hc
  clear hc
  go_enter Try.func10, Try.ntmps10
  go_wp2_with fail
  have S0 := SLa.start w af ab aa bf bb ba
  generalize ((w.alloc (.cells #[.int .i32 af, .int .i32 ab, .int .u8 aa] 51)).alloc (.cells #[.int .i32 bf, .int .i32 bb, .int .u8 ba] 51)) = W at S0 ⊢
  generalize hg : w.heap.size = g at S0 ⊢
  have HG := Lib.hid hg
  clear hg
  obtain ⟨i1, i2, i3, i4, i5, i6, i7, i8⟩ := S0
  go_region_held3 (fun w' => w'.cell? ⟨g, 0, none⟩ = some (.int .i32 af) ∧ w'.cell? ⟨g, 1, none⟩ = some (.int .i32 ab) ∧ w'.cell? ⟨g, 2, none⟩ = some (.int .u8 aa) ∧
      w'.cell? ⟨g + 1, 0, none⟩ = some (.int .i32 bf) ∧ w'.cell? ⟨g + 1, 1, none⟩ = some (.int .i32 bb) ∧ w'.cell? ⟨g + 1, 2, none⟩ = some (.int .u8 ba) ∧
      g + 2 ≤ w'.heap.size ∧ Below g w w')
    (first | (refine SLa.drew ?_; (refine ⟨?_, ?_, ?_, ?_, ?_, ?_, ?_, ?_⟩ <;> assumption)) | (go_split_ands; (with_reducible first | refine SLa.below ?_ hb3 | refine SLa.below ?_ hb2 | refine SLa.below ?_ hb1); (refine ⟨?_, ?_, ?_, ?_, ?_, ?_, ?_, ?_⟩ <;> assumption)))
    (first | (go_at_call 28; ((with_reducible refine (HP.out _).mono ?_); rw [HC.out]; rintro e w1 ⟨rfl, hb1⟩)) | (go_at_call 29; ((with_reducible refine (HR.out _).mono ?_); rw [HC.out]; rintro e w2 ⟨rfl, hb2⟩)) | (go_at_call 15; ((with_reducible refine (alive_any _).mono ?_); rintro e w3 ⟨rfl, hb3⟩)))
  go_wp2
  go_ret
  refine ⟨rfl, ?_⟩
  rw [HG.out]
  go_split_ands
  assumption
end Go.Proofs.Ytkgicooplgmmpaa
