/-
  The plain laws of the easings.
-/
import Derived.Test.YtkgicooplgmmpaaRnd
import Derived.Test.YtkgicooplgmmpaaWb
import Derived.Test.YtkgicooplgmmpaaTw
namespace Go.Proofs.Ytkgicooplgmmpaa

theorem fl_eq (x : Nat) : fl x = if rg x ≤ 9218868437227405312 then some x else none := by
  unfold fl
  by_cases h : rg x ≤ 9218868437227405312
  · rw [if_pos h, (nan_iff x).2 h]; rfl
  · rw [if_neg h]
    cases hn : (D.read x).isNaN with
    | true => rfl
    | false => exact absurd ((nan_iff x).1 hn) h
theorem ford_some {a b : Nat} (ha : rg a ≤ 9218868437227405312) (hb : rg b ≤ 9218868437227405312) : ford (some a) (some b) = some (compare (sr a) (sr b)) := order_sr ha hb
theorem feq_some {a b : Nat} (ha : rg a ≤ 9218868437227405312) (hb : rg b ≤ 9218868437227405312) : feq (some a) (some b) = decide (sr a = sr b) := by
  unfold feq; rw [ford_some ha hb, Bool.eq_iff_iff]; simp
theorem flt_some {a b : Nat} (ha : rg a ≤ 9218868437227405312) (hb : rg b ≤ 9218868437227405312) : flt (some a) (some b) = decide (sr a < sr b) := by
  unfold flt; rw [ford_some ha hb, Bool.eq_iff_iff]; simp [Int.compare_eq_lt]
theorem fgt_some {a b : Nat} (ha : rg a ≤ 9218868437227405312) (hb : rg b ≤ 9218868437227405312) : fgt (some a) (some b) = decide (sr b < sr a) := by
  unfold fgt; rw [ford_some ha hb, Bool.eq_iff_iff]; simp [Int.compare_eq_gt]
theorem fle_some {a b : Nat} (ha : rg a ≤ 9218868437227405312) (hb : rg b ≤ 9218868437227405312) : fle (some a) (some b) = decide (sr a ≤ sr b) := by
  rw [← le_or, flt_some ha hb, feq_some ha hb, Bool.eq_iff_iff]; simp; omega
theorem fge_some {a b : Nat} (ha : rg a ≤ 9218868437227405312) (hb : rg b ≤ 9218868437227405312) : fge (some a) (some b) = decide (sr b ≤ sr a) := by
  rw [← ge_or, fgt_some ha hb, feq_some ha hb, Bool.eq_iff_iff]; simp; omega

/-- A word that is a word. -/
def W64 (t : FL) : Prop := ∀ x, t = some x → x < 18446744073709551616 ∧ rg x ≤ 9218868437227405312
theorem W64_fl {x : Nat} (h : x < 18446744073709551616) : W64 (fl x) := by
  intro y hy
  rw [fl_eq] at hy
  split at hy
  · cases hy; exact ⟨h, by assumption⟩
  · cases hy

theorem sr_nonneg_pos {x : Nat} (h : x < 18446744073709551616) (h0 : 0 < sr x) : sr x = x ∧ x < 9223372036854775808 := by
  unfold sr rg sg at h0
  unfold sr rg sg
  by_cases hs : (x / 9223372036854775808 % 2 == 1) = true
  · rw [hs] at h0; simp only [if_true] at h0; omega
  · simp only [hs] at h0 ⊢
    simp only [Bool.false_eq_true, if_false] at h0 ⊢
    have hs' : x / 9223372036854775808 % 2 ≠ 1 := by simpa using hs
    omega
theorem sr_zero {x : Nat} (h : x < 18446744073709551616) (h0 : sr x = 0) : x = 0 ∨ x = 9223372036854775808 := by
  unfold sr rg sg at h0
  split at h0 <;> omega
theorem sr_low {y : Nat} (h : y < 9223372036854775808) : sr y = y ∧ rg y = y ∧ sg y = false := by
  have h1 : rg y = y := by unfold rg; omega
  have h2 : sg y = false := by unfold sg; rw [beq_eq_false_iff_ne]; omega
  unfold sr; rw [h1, h2]; exact ⟨rfl, rfl, rfl⟩

theorem fl0 : fl 0 = some 0 := by decide
theorem fl1 : fl 4607182418800017408 = some 4607182418800017408 := by decide

theorem unit_cases (t : FL) (ht : W64 t) : ∃ y : Nat, y ≤ 4607182418800017408 ∧ unitP t = some y ∧ (unitR t = some y ∨ (y = 0 ∧ t = some 9223372036854775808 ∧ unitR t = some 9223372036854775808)) := by
  cases t with
  | none => exact ⟨0, by decide, by decide, .inl (by decide)⟩
  | some x =>
    obtain ⟨hx, hr⟩ := ht x rfl
    have r0 : rg 0 ≤ 9218868437227405312 := by decide
    have r1 : rg 4607182418800017408 ≤ 9218868437227405312 := by decide
    have s0 : sr 0 = 0 := by decide
    have s1 : sr 4607182418800017408 = 4607182418800017408 := by decide
    unfold unitP unitR fmax2 fmin2
    rw [fl0, fl1, feq_some hr hr, flt_some hr r0, fgt_some hr r1, ford_some hr r0, s0, s1]
    rcases Int.lt_trichotomy (sr x) 0 with h | h | h
    · rw [Int.compare_eq_lt.2 h]
      refine ⟨0, by decide, ?_, .inl ?_⟩
      · simp only [decide_true, if_true]
        rw [ford_some r0 r1, s0, s1]; rfl
      · simp [h]
    · rw [h]
      rcases sr_zero hx h with rfl | rfl
      · exact ⟨0, by decide, by decide, .inl (by decide)⟩
      · exact ⟨0, by decide, by decide, .inr ⟨rfl, rfl, by decide⟩⟩
    · obtain ⟨e, hlt⟩ := sr_nonneg_pos hx h
      rw [Int.compare_eq_gt.2 h]
      simp only [decide_true, if_true]
      rw [ford_some hr r1, s1]
      have n0 : ¬ sr x < 0 := by omega
      rcases Int.lt_trichotomy (sr x) 4607182418800017408 with h2 | h2 | h2
      · rw [Int.compare_eq_lt.2 h2]
        exact ⟨x, by omega, rfl, .inl (by simp [n0]; omega)⟩
      · have : x = 4607182418800017408 := by omega
        subst this
        exact ⟨_, Nat.le_refl _, by decide, .inl (by decide)⟩
      · rw [Int.compare_eq_gt.2 h2]
        exact ⟨_, Nat.le_refl _, rfl, .inl (by simp [n0, h2])⟩

/-- Both easings behind the unit. -/
def easeG (stp : FL → FL) (way : Int) (t : FL) : FL :=
  let one := fl 4607182418800017408
  let two := fl 4611686018427387904
  if way == 1 then fmul t t
  else if way == 2 then fsub one (fmul (fsub one t) (fsub one t))
  else if way == 3 then (if flt t (fl 4602678819172646912) then fmul (fmul two t) t else fsub one (fmul (fmul two (fsub one t)) (fsub one t)))
  else if way == 4 then fmul (fmul t t) (fsub (fl 4613937818241073152) (fmul two t))
  else if way == 5 then bounceR t
  else if way == 6 then stp t
  else t
def stepR (t : FL) : FL := if flt t (fl 4607182418800017408) then fl 0 else fl 4607182418800017408
theorem easeP_eq (way : Int) (t : FL) : easeP way t = easeG ffloor way (unitP t) := rfl
theorem easeR_eq (way : Int) (t : FL) : easeR way t = easeG stepR way (unitR t) := rfl

theorem floor_small {y : Nat} (h : y < 4607182418800017408) : D.write ((D.read y).integral .down) = 0 := by
  obtain ⟨_, hr, hs⟩ := sr_low (y := y) (by omega)
  rw [read_num (by rw [hr]; omega), hr, hs]
  have hve : ve y ≤ 1021 := by unfold ve; split <;> omega
  have hvm : vm y < 9007199254740992 := by unfold vm; split <;> omega
  generalize vm y = m at *
  generalize ve y = e at *
  show D.write (.number false (Ieee.Toward.down.cut false (m <<< (-1074 + (e : Int)).toNat) (-(-1074 + (e : Int))).toNat) 0) = 0
  rw [show (-1074 + (e : Int)).toNat = 0 from by omega, Nat.shiftLeft_zero, show (-(-1074 + (e : Int))).toNat = 1074 - e from by omega]
  have hc : Ieee.Toward.down.cut false m (1074 - e) = 0 := by
    unfold Ieee.Toward.cut
    simp only [Nat.one_shiftLeft, Bool.false_and, Bool.toNat_false, Nat.add_zero]
    refine Nat.div_eq_of_lt ?_
    rcases Nat.lt_or_ge (m.log2 + 2) (1074 - e) with h1 | h1
    · rw [show min (1074 - e) (m.log2 + 2) = m.log2 + 2 from by omega]
      exact Nat.lt_of_lt_of_le (Nat.lt_log2_self (n := m)) (Nat.pow_le_pow_right (by decide) (by omega))
    · rw [show min (1074 - e) (m.log2 + 2) = 1074 - e from by omega]
      refine Nat.lt_of_lt_of_le hvm ?_
      have : (9007199254740992 : Nat) = 2 ^ 53 := by decide
      rw [this]
      exact Nat.pow_le_pow_right (by decide) (by omega)
  rw [hc]
  decide
theorem stp_eq {y : Nat} (h : y ≤ 4607182418800017408) : ffloor (some y) = stepR (some y) := by
  unfold stepR
  obtain ⟨hs, hr, _⟩ := sr_low (y := y) (by omega)
  rw [fl1, flt_some (by omega) (by decide), hs, show sr 4607182418800017408 = 4607182418800017408 from by decide]
  rcases Nat.lt_or_ge y 4607182418800017408 with h1 | h1
  · have : ((y : Int) < 4607182418800017408) := by omega
    rw [decide_eq_true this, if_pos rfl, fl0]
    show some (D.write ((D.read y).integral .down)) = _
    rw [floor_small h1]
  · obtain rfl : y = 4607182418800017408 := by omega
    decide
theorem easeG_eq {y : Nat} (h : y ≤ 4607182418800017408) (way : Int) : easeG ffloor way (some y) = easeG stepR way (some y) := by
  unfold easeG; rw [stp_eq h]

/-- A number that is not below 0, and its rung. -/
def N (x : FL) (k : Nat) : Prop := ∃ r, x = some r ∧ rg r ≤ 9218868437227405312 ∧ sr r = k
theorem N_low {y : Nat} (h : y ≤ 9218868437227405312) : N (some y) y := ⟨y, rfl, by rw [(sr_low (by omega)).2.1]; omega, (sr_low (by omega)).1⟩
theorem rg_of_sr {r k : Nat} (h : sr r = k) : rg r = k := by unfold sr at h; split at h <;> omega
theorem rg_sr (r : Nat) : rg r = (sr r).natAbs := by unfold sr; split <;> omega
theorem V_abs (r : Nat) : (V r).natAbs = val (sr r).natAbs := by rw [← rg_sr]; unfold V; rw [natAbs_sgn]
theorem V_of_sr {r k : Nat} (h : sr r = k) : V r = val k := by
  have h1 := rg_of_sr h
  unfold sr at h
  unfold V sgn
  rw [h1] at h ⊢
  split at h
  · have : k = 0 := by omega
    subst this
    simp [val_zero]
  · rename_i hs; simp [hs]
theorem val_one : val 4607182418800017408 = S1 := by decide +kernel
theorem val_half : 2 * val 4602678819172646912 = S1 := by decide +kernel
theorem val_two : val 4611686018427387904 = 2 * S1 := by decide +kernel
theorem val_three : val 4613937818241073152 = 3 * S1 := by decide +kernel
theorem RM_nat (X : Nat) : RM (X : Int) = rnd X := by
  unfold RM sgn
  rw [show decide ((X : Int) < 0) = false from (by simp)]; simp
theorem val_le_one {k : Nat} (h : k ≤ 4607182418800017408) : val k ≤ S1 := val_one ▸ val_le h
theorem rnd_le_one {X : Nat} (h : X ≤ S1 * S1) : rnd X ≤ 4607182418800017408 := rnd_le (by decide) (by rw [val_one]; exact h)
theorem N_mul {x y : FL} {a b : Nat} (hx : N x a) (hy : N y b) (ha : a < 9218868437227405312) (hb : b < 9218868437227405312) : N (fmul x y) (rnd (val a * val b)) := by
  obtain ⟨r, rfl, hr, hs⟩ := hx
  obtain ⟨q, rfl, hq, ht⟩ := hy
  obtain ⟨z, h1, h2, h3⟩ := mul_fin (x := r) (y := q) (by rw [rg_of_sr hs]; omega) (by rw [rg_of_sr ht]; omega)
  rw [V_of_sr hs, V_of_sr ht, ← Int.natCast_mul, RM_nat] at h3
  exact ⟨z, h1, h2, h3⟩
theorem N_sub {x y : FL} {a b : Nat} (hx : N x a) (hy : N y b) (ha : a < 9218868437227405312) (hb : b ≤ a) : N (fsub x y) (rnd ((val a - val b) * S1)) := by
  obtain ⟨r, rfl, hr, hs⟩ := hx
  obtain ⟨q, rfl, hq, ht⟩ := hy
  obtain ⟨z, h1, h2, h3⟩ := sub_fin (x := r) (y := q) (by rw [rg_of_sr hs]; omega) (by rw [rg_of_sr ht]; omega)
  rw [V_of_sr hs, V_of_sr ht, ← Int.natCast_sub (val_le hb), ← Int.natCast_mul, RM_nat] at h3
  exact ⟨z, h1, h2, h3⟩
theorem N_add {x y : FL} {a b : Nat} (hx : N x a) (hy : N y b) (ha : a < 9218868437227405312) (hb : b < 9218868437227405312) : N (fadd x y) (rnd ((val a + val b) * S1)) := by
  obtain ⟨r, rfl, hr, hs⟩ := hx
  obtain ⟨q, rfl, hq, ht⟩ := hy
  obtain ⟨z, h1, h2, h3⟩ := add_fin (x := r) (y := q) (by rw [rg_of_sr hs]; omega) (by rw [rg_of_sr ht]; omega)
  rw [V_of_sr hs, V_of_sr ht, ← Int.natCast_add, ← Int.natCast_mul, RM_nat] at h3
  exact ⟨z, h1, h2, h3⟩
theorem N_one : N (fl 4607182418800017408) 4607182418800017408 := fl1 ▸ N_low (by decide)
theorem N_two : N (fl 4611686018427387904) 4611686018427387904 := by
  rw [show fl 4611686018427387904 = some 4611686018427387904 from by decide]; exact N_low (by decide)
theorem N_three : N (fl 4613937818241073152) 4613937818241073152 := by
  rw [show fl 4613937818241073152 = some 4613937818241073152 from by decide]; exact N_low (by decide)

/-- A number from 0 to 1. -/
def U (x : FL) : Prop := ∃ k, N x k ∧ k ≤ 4607182418800017408

theorem sgn_true (n : Int) : sgn true n = -n := rfl
/-- (x - m)² + p, where x is near m. -/
theorem arc_U {x : FL} {k m p h q : Nat} (hx : N x k) (hk : k < 9218868437227405312) (hm : m < 9218868437227405312) (hp : p < 9218868437227405312) (hh : h < 9218868437227405312) (hq : q < 9218868437227405312)
    (h1 : val k ≤ val m + val h) (h2 : val m ≤ val k + val h) (h3 : val h * val h ≤ val q * S1) (h4 : val q + val p ≤ S1) : U (arcF x (some m) (some p)) := by
  obtain ⟨r, rfl, hr, hs⟩ := hx
  have lm := sr_low (y := m) (by omega)
  have lp := sr_low (y := p) (by omega)
  obtain ⟨d, d1, d2, d3⟩ := sub_fin (x := r) (y := m) (by rw [rg_of_sr hs]; exact hk) (by rw [lm.2.1]; exact hm)
  rw [V_of_sr hs, V_of_sr lm.1] at d3
  have lh : sr h = h ∧ rg h = h := by have := sr_low (y := h) (by omega); exact ⟨this.1, this.2.1⟩
  have hS : (0 : Int) ≤ (S1 : Int) := by omega
  have hd : (sr d).natAbs ≤ h := by
    have u1 : RM (((val k : Int) - val m) * S1) ≤ RM ((V h) * S1) := RM_mono (Int.mul_le_mul_of_nonneg_right (by rw [V_of_sr lh.1]; omega) hS)
    have u2 : RM (-((val h * S1 : Nat) : Int)) ≤ RM (((val k : Int) - val m) * S1) := RM_mono (by
      rw [Int.natCast_mul, ← Int.neg_mul]; exact Int.mul_le_mul_of_nonneg_right (by omega) hS)
    rw [RM_V (by rw [lh.2]; omega), lh.1] at u1
    have u3 : RM (-((val h * S1 : Nat) : Int)) = -(h : Int) := by
      have := RM_sgn true (val h * S1)
      rw [rnd_val (by omega), sgn_true, sgn_true] at this
      exact this
    rw [u3, ← d3] at u2
    rw [← d3] at u1
    clear d3 u3 h1 h2 h3 h4 hS
    omega
  have hd2 : rg d < 9218868437227405312 := by rw [rg_sr]; omega
  obtain ⟨s, s1, s2, s3⟩ := mul_fin (x := d) (y := d) hd2 hd2
  have e : V d * V d = ((val (sr d).natAbs * val (sr d).natAbs : Nat) : Int) := by rw [← V_abs, ← Int.natAbs_mul_self, Int.natCast_mul]
  rw [e, RM_nat] at s3
  have hs4 : rnd (val (sr d).natAbs * val (sr d).natAbs) ≤ q := rnd_le (by omega) (Nat.le_trans (Nat.mul_le_mul (val_le hd) (val_le hd)) h3)
  have hNs : N (fmul (fsub (some r) (some m)) (fsub (some r) (some m))) (rnd (val (sr d).natAbs * val (sr d).natAbs)) := by
    refine ⟨s, ?_, s2, s3⟩
    have : fsub (some r) (some m) = some d := d1
    rw [this]; exact s1
  have hNp : N (some p) p := N_low (by omega)
  exact ⟨_, N_add hNs hNp (by omega) hp, rnd_le_one (Nat.mul_le_mul_right _ (Nat.le_trans (Nat.add_le_add_right (val_le hs4) _) h4))⟩

theorem N_inj {x : FL} {a b : Nat} (ha : N x a) (hb : N x b) : a = b := by
  obtain ⟨r, rfl, _, h1⟩ := ha
  obtain ⟨q, e, _, h2⟩ := hb
  cases e
  omega

def kIn (y : Nat) : Nat := rnd (val y * val y)
def kSub (y : Nat) : Nat := rnd ((S1 - val y) * S1)
def kOut (y : Nat) : Nat := kSub (kIn (kSub y))
def kDbl (y : Nat) : Nat := rnd (2 * S1 * val y)
def kHalf (y : Nat) : Nat := rnd (val (kDbl y) * val y)
def kIO (y : Nat) : Nat := if y < 4602678819172646912 then kHalf y else kSub (kHalf (kSub y))
def kStep (y : Nat) : Nat := if y < 4607182418800017408 then 0 else 4607182418800017408

theorem kIn_le {y : Nat} (h : y ≤ 4607182418800017408) : kIn y ≤ 4607182418800017408 := rnd_le_one (Nat.mul_le_mul (val_le_one h) (val_le_one h))
theorem kIn_mono {a b : Nat} (h : a ≤ b) : kIn a ≤ kIn b := rnd_mono (Nat.mul_le_mul (val_le h) (val_le h))
theorem kSub_le (y : Nat) : kSub y ≤ 4607182418800017408 := rnd_le_one (Nat.mul_le_mul_right _ (Nat.sub_le _ _))
theorem kSub_anti {a b : Nat} (h : a ≤ b) : kSub b ≤ kSub a := rnd_mono (Nat.mul_le_mul_right _ (Nat.sub_le_sub_left (val_le h) _))
theorem kDbl_mono {a b : Nat} (h : a ≤ b) : kDbl a ≤ kDbl b := rnd_mono (Nat.mul_le_mul_left _ (val_le h))
theorem kHalf_mono {a b : Nat} (h : a ≤ b) : kHalf a ≤ kHalf b := rnd_mono (Nat.mul_le_mul (val_le (kDbl_mono h)) (val_le h))
theorem kDbl_le {y : Nat} (h : y ≤ 4602678819172646912) : kDbl y ≤ 4607182418800017408 := by
  refine rnd_le_one ?_
  have h1 := val_le h
  have h2 := val_half
  rw [Nat.mul_comm 2 S1, Nat.mul_assoc]
  exact Nat.mul_le_mul_left _ (by omega)
theorem kHalf_le {y : Nat} (h : y ≤ 4602678819172646912) : kHalf y ≤ 4602678819172646912 := by
  refine rnd_le (by decide) ?_
  rw [Nat.mul_comm (val 4602678819172646912)]
  exact Nat.mul_le_mul (val_le_one (kDbl_le h)) (val_le h)
theorem kSub_half {y : Nat} (h : 4602678819172646912 ≤ y) : kSub y ≤ 4602678819172646912 := by
  refine rnd_le (by decide) (Nat.mul_le_mul_right _ ?_)
  have h1 := val_le h
  have h2 := val_half
  omega
theorem kSub_high {y : Nat} (h : y ≤ 4602678819172646912) : 4602678819172646912 ≤ kSub y := by
  refine rnd_ge (by decide) (Nat.mul_le_mul_right _ ?_)
  have h1 := val_le h
  have h2 := val_half
  omega

theorem N_in {y : Nat} {x : FL} (h : N x y) (hy : y ≤ 4607182418800017408) : N (fmul x x) (kIn y) := N_mul h h (by omega) (by omega)
theorem N_rsub {y : Nat} {x : FL} (h : N x y) (hy : y ≤ 4607182418800017408) : N (fsub (fl 4607182418800017408) x) (kSub y) := by
  have := N_sub N_one h (by omega) hy
  rw [val_one] at this
  exact this
theorem N_dbl {y : Nat} {x : FL} (h : N x y) (hy : y ≤ 4607182418800017408) : N (fmul (fl 4611686018427387904) x) (kDbl y) := by
  have := N_mul N_two h (by omega) (by omega)
  rw [val_two] at this
  exact this
theorem N_half {y : Nat} {x : FL} (h : N x y) (hy : y ≤ 4602678819172646912) : N (fmul (fmul (fl 4611686018427387904) x) x) (kHalf y) :=
  N_mul (N_dbl h (by omega)) h (by have := kDbl_le hy; omega) (by omega)

theorem half_lt {y : Nat} (h : y ≤ 4607182418800017408) (c : Nat) (hc : c < 9218868437227405312) : flt (some y) (fl c) = decide (y < c) := by
  obtain ⟨hs, hr, _⟩ := sr_low (y := y) (by omega)
  obtain ⟨hs2, hr2, _⟩ := sr_low (y := c) (by omega)
  rw [fl_eq, if_pos (by omega), flt_some (by omega) (by omega), hs, hs2, Bool.eq_iff_iff]
  simp

/-- The rung of an easing (of those that do not go back). -/
def kE (way : Int) (y : Nat) : Nat := if way == 1 then kIn y else if way == 2 then kOut y else if way == 3 then kIO y else if way == 6 then kStep y else y

theorem ease_N {way : Int} (h4 : way ≠ 4) (h5 : way ≠ 5) {y : Nat} (hy : y ≤ 4607182418800017408) : N (easeG stepR way (some y)) (kE way y) ∧ kE way y ≤ 4607182418800017408 := by
  have hN : N (some y) y := N_low (by omega)
  have e4 : (way == 4) = false := by simpa using h4
  have e5 : (way == 5) = false := by simpa using h5
  unfold easeG kE
  simp only [e4, e5, Bool.false_eq_true, if_false]
  by_cases h1 : (way == 1) = true
  · simp only [h1, if_true]
    exact ⟨N_in hN hy, kIn_le hy⟩
  by_cases h2 : (way == 2) = true
  · simp only [h1, h2, if_true, Bool.false_eq_true, if_false]
    exact ⟨N_rsub (N_in (N_rsub hN hy) (kSub_le _)) (kIn_le (kSub_le _)), kSub_le _⟩
  by_cases h3 : (way == 3) = true
  · simp only [h1, h2, h3, if_true, Bool.false_eq_true, if_false]
    unfold kIO
    rw [half_lt hy _ (by decide)]
    by_cases hl : y < 4602678819172646912
    · simp only [hl, decide_true, if_true]
      exact ⟨N_half hN (by omega), by have := kHalf_le (y := y) (by omega); omega⟩
    · simp only [hl, decide_false, Bool.false_eq_true, if_false]
      exact ⟨N_rsub (N_half (N_rsub hN hy) (kSub_half (by omega))) (by have := kHalf_le (kSub_half (y := y) (by omega)); omega), kSub_le _⟩
  by_cases h6 : (way == 6) = true
  · simp only [h1, h2, h3, h6, if_true, Bool.false_eq_true, if_false]
    unfold stepR kStep
    rw [half_lt hy _ (by decide)]
    by_cases hl : y < 4607182418800017408
    · simp only [hl, decide_true, if_true]
      exact ⟨fl0 ▸ N_low (by decide), by decide⟩
    · simp only [hl, decide_false, Bool.false_eq_true, if_false]
      exact ⟨N_one, by decide⟩
  · simp only [h1, h2, h3, h6, Bool.false_eq_true, if_false]
    exact ⟨hN, hy⟩

theorem kE_mono (way : Int) {a b : Nat} (h : a ≤ b) (hb : b ≤ 4607182418800017408) : kE way a ≤ kE way b := by
  unfold kE
  by_cases h1 : (way == 1) = true
  · simp only [h1, if_true]; exact kIn_mono h
  by_cases h2 : (way == 2) = true
  · simp only [h1, h2, if_true, Bool.false_eq_true, if_false]; exact kSub_anti (kIn_mono (kSub_anti h))
  by_cases h3 : (way == 3) = true
  · simp only [h1, h2, h3, if_true, Bool.false_eq_true, if_false]
    unfold kIO
    by_cases ha : a < 4602678819172646912
    · by_cases hb2 : b < 4602678819172646912
      · simp only [ha, hb2, if_true]; exact kHalf_mono h
      · simp only [ha, hb2, if_true, if_false]
        exact Nat.le_trans (kHalf_le (by omega)) (kSub_high (kHalf_le (kSub_half (by omega))))
    · have hb2 : ¬ b < 4602678819172646912 := by omega
      simp only [ha, hb2, if_false]
      exact kSub_anti (kHalf_mono (kSub_anti h))
  by_cases h6 : (way == 6) = true
  · simp only [h1, h2, h3, h6, if_true, Bool.false_eq_true, if_false]
    unfold kStep
    split <;> split <;> omega
  · simp only [h1, h2, h3, h6, Bool.false_eq_true, if_false]; exact h

theorem bounce_U {y : Nat} (hy : y ≤ 4607182418800017408) : U (bounceR (some y)) := by
  have hN : N (some y) y := N_low (by omega)
  have hC : N (fl 4613374868287651840) 4613374868287651840 := by
    rw [show fl 4613374868287651840 = some 4613374868287651840 from by decide]; exact N_low (by decide)
  have hx := N_mul hC hN (by decide) (by omega)
  have hxl : rnd (val 4613374868287651840 * val y) ≤ 4613374868287651840 := rnd_le (by decide) (Nat.mul_le_mul_left _ (val_le_one hy))
  generalize rnd (val 4613374868287651840 * val y) = k at *
  unfold bounceR
  generalize fmul (fl 4613374868287651840) (some y) = x at *
  obtain ⟨r, rfl, hr, hs⟩ := hx
  have hlt : ∀ c : Nat, c < 9218868437227405312 → flt (some r) (fl c) = decide (k < c) := by
    intro c hc
    obtain ⟨hs2, hr2, _⟩ := sr_low (y := c) (by omega)
    rw [fl_eq, if_pos (by omega), flt_some hr (by omega), hs, hs2, Bool.eq_iff_iff]
    simp
  have hx : N (some r) k := ⟨r, rfl, hr, hs⟩
  simp only [hlt 4607182418800017408 (by decide), hlt 4611686018427387904 (by decide), hlt 4612811918334230528 (by decide)]
  by_cases c1 : k < 4607182418800017408
  · simp only [c1, decide_true, if_true]
    exact ⟨_, N_in hx (by omega), kIn_le (by omega)⟩
  by_cases c2 : k < 4611686018427387904
  · simp only [c1, c2, decide_true, decide_false, if_true, Bool.false_eq_true, if_false]
    rw [show fl 4609434218613702656 = some 4609434218613702656 from by decide, show fl 4604930618986332160 = some 4604930618986332160 from by decide]
    refine arc_U (h := 4602678819172646912) (q := 4598175219545276416) hx (by omega) (by decide) (by decide) (by decide) (by decide) ?_ ?_ (by decide +kernel) (by decide +kernel)
    · exact Nat.le_trans (val_le (b := 4611686018427387904) (by omega)) (by decide +kernel)
    · exact Nat.le_trans (by decide +kernel) (Nat.add_le_add_right (val_le (a := 4607182418800017408) (by omega)) _)
  by_cases c3 : k < 4612811918334230528
  · simp only [c1, c2, c3, decide_true, decide_false, if_true, Bool.false_eq_true, if_false]
    rw [show fl 4612248968380809216 = some 4612248968380809216 from by decide, show fl 4606619468846596096 = some 4606619468846596096 from by decide]
    refine arc_U (h := 4598175219545276416) (q := 4589168020290535424) hx (by omega) (by decide) (by decide) (by decide) (by decide) ?_ ?_ (by decide +kernel) (by decide +kernel)
    · exact Nat.le_trans (val_le (b := 4612811918334230528) (by omega)) (by decide +kernel)
    · exact Nat.le_trans (by decide +kernel) (Nat.add_le_add_right (val_le (a := 4611686018427387904) (by omega)) _)
  · simp only [c1, c2, c3, decide_false, Bool.false_eq_true, if_false]
    rw [show fl 4613093393310941184 = some 4613093393310941184 from by decide, show fl 4607041681311662080 = some 4607041681311662080 from by decide]
    refine arc_U (h := 4593671619917905920) (q := 4580160821035794432) hx (by omega) (by decide) (by decide) (by decide) (by decide) ?_ ?_ (by decide +kernel) (by decide +kernel)
    · exact Nat.le_trans (val_le hxl) (by decide +kernel)
    · exact Nat.le_trans (by decide +kernel) (Nat.add_le_add_right (val_le (a := 4612811918334230528) (by omega)) _)

theorem cubic_num {y : Nat} (hy : y ≤ 4607182418800017408) : ∃ k, N (fmul (fmul (some y) (some y)) (fsub (fl 4613937818241073152) (fmul (fl 4611686018427387904) (some y)))) k := by
  have hN : N (some y) y := N_low (by omega)
  have h1 := N_in hN hy
  have h2 := N_dbl hN hy
  have hd : kDbl y ≤ 4611686018427387904 := by
    refine rnd_le (by decide) ?_
    rw [val_two, Nat.mul_comm (2 * S1) (val y), Nat.mul_comm (2 * S1) S1]
    exact Nat.mul_le_mul_right _ (val_le_one hy)
  have h3 := N_sub N_three h2 (by decide) (by omega)
  refine ⟨_, N_mul h1 h3 (by have := kIn_le hy; omega) (Nat.lt_of_le_of_lt (rnd_le (r := 4613937818241073152) (by decide) ?_) (by decide))⟩
  exact Nat.mul_le_mul_right _ (Nat.sub_le _ _)
theorem ease_num (way : Int) {y : Nat} (hy : y ≤ 4607182418800017408) : ∃ k, N (easeG stepR way (some y)) k := by
  by_cases h4 : way = 4
  · subst h4; exact cubic_num hy
  by_cases h5 : way = 5
  · subst h5; obtain ⟨k, hk, _⟩ := bounce_U hy; exact ⟨k, hk⟩
  exact ⟨_, (ease_N h4 h5 hy).1⟩
theorem ease_U {way : Int} (h4 : way ≠ 4) {y : Nat} (hy : y ≤ 4607182418800017408) : U (easeG stepR way (some y)) := by
  by_cases h5 : way = 5
  · subst h5; exact bounce_U hy
  exact ⟨_, (ease_N h4 h5 hy).1, (ease_N h4 h5 hy).2⟩
end Go.Proofs.Ytkgicooplgmmpaa
