/-
  The plain laws of AnimEnds: each way sets out and arrives, stays between, and does not go back.
-/
import Derived.Test.YtkgicooplgmmpaaPs
namespace Go.Proofs.Ytkgicooplgmmpaa

theorem ends_at (way : Int) (t c : FL) (h1 : feq (easeP 1 t) c = true) (h2 : feq (easeP 2 t) c = true) (h3 : feq (easeP 3 t) c = true) (h4 : feq (easeP 4 t) c = true) (h5 : feq (easeP 5 t) c = true) (h6 : feq (easeP 6 t) c = true) (h0 : feq (unitP t) c = true) : feq (easeP way t) c = true := by
  by_cases e1 : way = 1
  · rw [e1]; exact h1
  by_cases e2 : way = 2
  · rw [e2]; exact h2
  by_cases e3 : way = 3
  · rw [e3]; exact h3
  by_cases e4 : way = 4
  · rw [e4]; exact h4
  by_cases e5 : way = 5
  · rw [e5]; exact h5
  by_cases e6 : way = 6
  · rw [e6]; exact h6
  · have : easeP way t = unitP t := by unfold easeP; simp [e1, e2, e3, e4, e5, e6]
    rw [this]; exact h0
theorem ends_0 (way : Int) : feq (easeP way (fl 0)) (fl 0) = true := ends_at way _ _ (by decide +kernel) (by decide +kernel) (by decide +kernel) (by decide +kernel) (by decide +kernel) (by decide +kernel) (by decide +kernel)
theorem ends_1 (way : Int) : feq (easeP way (fl 4607182418800017408)) (fl 4607182418800017408) = true := ends_at way _ _ (by decide +kernel) (by decide +kernel) (by decide +kernel) (by decide +kernel) (by decide +kernel) (by decide +kernel) (by decide +kernel)
theorem ends_m (way : Int) : feq (easeP way (fl 13830554455654793216)) (fl 0) = true := ends_at way _ _ (by decide +kernel) (by decide +kernel) (by decide +kernel) (by decide +kernel) (by decide +kernel) (by decide +kernel) (by decide +kernel)
theorem ends_7 (way : Int) : feq (easeP way (fl 4619567317775286272)) (fl 4607182418800017408) = true := ends_at way _ _ (by decide +kernel) (by decide +kernel) (by decide +kernel) (by decide +kernel) (by decide +kernel) (by decide +kernel) (by decide +kernel)

theorem ease_at (way : Int) {t : FL} (ht : W64 t) : ∃ y : Nat, y ≤ 4607182418800017408 ∧ easeP way t = easeG stepR way (some y) := by
  obtain ⟨y, hy, h1, _⟩ := unit_cases t ht
  exact ⟨y, hy, by rw [easeP_eq, h1, easeG_eq hy]⟩
theorem between (way : Int) (h4 : way ≠ 4) {t : FL} (ht : W64 t) : flt (easeP way t) (fl 0) = false ∧ fgt (easeP way t) (fl 4607182418800017408) = false ∧ feq (easeP way t) (easeP way t) = true := by
  obtain ⟨y, hy, e⟩ := ease_at way ht
  obtain ⟨k, hN, hk⟩ := ease_U h4 hy
  rw [e]
  refine ⟨?_, ?_, N_self hN⟩
  · obtain ⟨r, h1, h2, h3⟩ := hN
    rw [h1, fl0, flt_some h2 (by decide), h3, show sr 0 = 0 from by decide]
    simp
  · obtain ⟨r, h1, h2, h3⟩ := hN
    rw [h1, fl1, fgt_some h2 (by decide), h3, show sr 4607182418800017408 = 4607182418800017408 from by decide]
    simp
    omega
theorem unit_y {x : Nat} (hx : x < 18446744073709551616) (hr : rg x ≤ 9218868437227405312) : ∃ y : Nat, y ≤ 4607182418800017408 ∧ unitP (some x) = some y ∧ (y : Int) = min (max (sr x) 0) 4607182418800017408 := by
  have r0 : rg 0 ≤ 9218868437227405312 := by decide
  have r1 : rg 4607182418800017408 ≤ 9218868437227405312 := by decide
  have s0 : sr 0 = 0 := by decide
  have s1 : sr 4607182418800017408 = 4607182418800017408 := by decide
  rcases Int.lt_trichotomy (sr x) 0 with h | h | h
  · refine ⟨0, by decide, ?_, by omega⟩
    unfold unitP fmax2 fmin2
    rw [fl0, fl1, feq_some hr hr, ford_some hr r0, s0, Int.compare_eq_lt.2 h]
    simp only [decide_true, if_true]
    rw [ford_some r0 r1, s0, s1]; rfl
  · rcases sr_zero hx h with rfl | rfl
    · exact ⟨0, by decide, by decide, by decide⟩
    · exact ⟨0, by decide, by decide, by decide⟩
  · obtain ⟨e, hlt⟩ := sr_nonneg_pos hx h
    rcases Int.lt_trichotomy (sr x) 4607182418800017408 with h2 | h2 | h2
    · refine ⟨x, by omega, ?_, by omega⟩
      unfold unitP fmax2 fmin2
      rw [fl0, fl1, feq_some hr hr, ford_some hr r0, s0, Int.compare_eq_gt.2 h]
      simp only [decide_true, if_true]
      rw [ford_some hr r1, s1, Int.compare_eq_lt.2 h2]
    · have : x = 4607182418800017408 := by omega
      subst this
      exact ⟨_, Nat.le_refl _, by decide, by decide⟩
    · refine ⟨4607182418800017408, Nat.le_refl _, ?_, by omega⟩
      unfold unitP fmax2 fmin2
      rw [fl0, fl1, feq_some hr hr, ford_some hr r0, s0, Int.compare_eq_gt.2 h]
      simp only [decide_true, if_true]
      rw [ford_some hr r1, s1, Int.compare_eq_gt.2 h2]
theorem forth {way : Int} (h4 : way ≠ 4) (h5 : way ≠ 5) {x z : Nat} (hx : x < 18446744073709551616) (hz : z < 18446744073709551616) (nx : feq (fl x) (fl x) = true) (nz : feq (fl z) (fl z) = true) (h : fgt (fl x) (fl z) = false) :
    fle (easeP way (fl x)) (easeP way (fl z)) = true := by
  have rx : rg x ≤ 9218868437227405312 := by
    rcases Nat.lt_or_ge 9218868437227405312 (rg x) with h1 | h1
    · rw [fl_eq, if_neg (by omega)] at nx; simp [feq, ford] at nx
    · exact h1
  have rz : rg z ≤ 9218868437227405312 := by
    rcases Nat.lt_or_ge 9218868437227405312 (rg z) with h1 | h1
    · rw [fl_eq z, if_neg (by omega)] at nz; simp [feq, ford] at nz
    · exact h1
  rw [fl_eq x, fl_eq z, if_pos rx, if_pos rz] at h ⊢
  rw [fgt_some rx rz] at h
  have h' : sr x ≤ sr z := by simpa using h
  obtain ⟨y1, l1, u1, e1⟩ := unit_y hx rx
  obtain ⟨y2, l2, u2, e2⟩ := unit_y hz rz
  rw [easeP_eq, easeP_eq, u1, u2, easeG_eq l1, easeG_eq l2]
  have hy : y1 ≤ y2 := by omega
  obtain ⟨r1, g1, g2, g3⟩ := (ease_N h4 h5 l1).1
  obtain ⟨r2, f1, f2, f3⟩ := (ease_N h4 h5 l2).1
  rw [g1, f1, fle_some g2 f2, g3, f3]
  have := kE_mono way hy l2
  simp
  omega
end Go.Proofs.Ytkgicooplgmmpaa
