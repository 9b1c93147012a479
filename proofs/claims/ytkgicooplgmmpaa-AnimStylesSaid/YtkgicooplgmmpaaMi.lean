/-
  Between two whole numbers: what both Mix make of a channel.
-/
import Derived.Test.YtkgicooplgmmpaaRnd
namespace Go.Proofs.Ytkgicooplgmmpaa
open Go

/-- The word of a whole number. -/
abbrev IW (n : Int) : Nat := floatOfInt .f64 n
abbrev halfW : Nat := 4602678819172646912
/-- The value (in units of 2^-1074) of a signed rung. -/
def vs (s : Int) : Int := sgn (decide (s < 0)) (val s.natAbs)
theorem V_vs (b : Nat) : V b = vs (sr b) := by
  unfold V vs sr
  cases sg b
  · rw [if_neg (by simp), decide_eq_false (by omega)]; simp
  · rw [if_pos rfl]
    rcases Nat.eq_zero_or_pos (rg b) with h | h
    · rw [h]; simp [sgn, val_zero]
    · rw [decide_eq_true (by omega)]; simp
theorem vs_mono {s t : Int} (h : s ≤ t) : vs s ≤ vs t := by
  unfold vs sgn
  by_cases h1 : s < 0
  · by_cases h2 : t < 0
    · have := val_le (a := t.natAbs) (b := s.natAbs) (by omega)
      simp only [decide_eq_true h1, decide_eq_true h2, if_true]; omega
    · simp only [decide_eq_true h1, decide_eq_false h2, if_true, Bool.false_eq_true, if_false]; omega
  · have h2 : ¬ t < 0 := by omega
    have := val_le (a := s.natAbs) (b := t.natAbs) (by omega)
    simp only [decide_eq_false h1, decide_eq_false h2, Bool.false_eq_true, if_false]; omega
theorem vr_mono {Y Z : Int} (h : Y ≤ Z) : vs (RM Y) ≤ vs (RM Z) := vs_mono (RM_mono h)
theorem vr_V {b : Nat} (h : rg b ≤ 9218868437227405312) : vs (RM (V b * (S1 : Int))) = V b := by rw [RM_V h, V_vs]

/-- S1 = 2 * H1. -/
def H1 : Nat := pw 1073
theorem pw_succ (k : Nat) : pw (k + 1) = 2 * pw k := by rw [pw_eq, pw_eq, Nat.pow_succ, Nat.mul_comm]
theorem S1_H1 : (S1 : Int) = 2 * (H1 : Int) := by
  unfold S1 H1
  rw [show (1074 : Nat) = 1073 + 1 from rfl, pw_succ 1073, Int.natCast_mul]; rfl

def ivB : Bool := (List.range 511).all fun j => decide (V (IW ((j : Int) - 255)) = ((j : Int) - 255) * (S1 : Int)) && decide (rg (IW ((j : Int) - 255)) < 9218868437227405312)
theorem ivB_eq : ivB = true := by decide +kernel
theorem IW_V (k : Int) (h0 : -255 ≤ k) (h1 : k ≤ 255) : V (IW k) = k * (S1 : Int) ∧ rg (IW k) < 9218868437227405312 := by
  have := List.all_eq_true.1 ivB_eq (k + 255).toNat (List.mem_range.2 (by omega))
  simp only [Bool.and_eq_true, decide_eq_true_eq] at this
  rw [show (((k + 255).toNat : Int) - 255) = k by omega] at this
  exact this
def hvB : Bool := (List.range 256).all fun j => match D.add (IW (j : Int)) halfW with
  | some r => decide (V r = (j : Int) * (S1 : Int) + (H1 : Int)) && decide (rg r < 9218868437227405312)
  | none => false
theorem hvB_eq : hvB = true := by decide +kernel
theorem half_V (k : Nat) (h : k ≤ 255) : ∃ r, V r = (k : Int) * (S1 : Int) + (H1 : Int) ∧ rg r < 9218868437227405312 := by
  have := List.all_eq_true.1 hvB_eq k (List.mem_range.2 (by omega))
  split at this
  · rename_i r _
    simp only [Bool.and_eq_true, decide_eq_true_eq] at this
    exact ⟨r, this⟩
  · cases this
theorem halfW_V : V halfW = (H1 : Int) ∧ rg halfW < 9218868437227405312 := ⟨by decide +kernel, by decide +kernel⟩

/-- A channel's value before it is cut: y - x times U, x more, a half more; each step rounded. -/
def mixV (x y : Nat) (U : Int) : Int := vs (RM ((vs (RM (((x : Int) * S1 + vs (RM (((y : Int) - x) * S1 * U))) * S1)) + H1) * S1))

theorem e0R : vs (RM 0) = 0 := by rw [RM_zero]; rfl
theorem fixI (k : Int) (ha : -255 ≤ k) (hb : k ≤ 255) : vs (RM (k * S1 * S1)) = k * S1 := by
  obtain ⟨e, hr⟩ := IW_V k ha hb
  have := vr_V (Nat.le_of_lt hr)
  rw [e] at this; exact this
theorem fixH (k : Nat) (hk : k ≤ 255) : vs (RM (((k : Int) * S1 + H1) * S1)) = (k : Int) * S1 + H1 := by
  obtain ⟨r, e, hr⟩ := half_V k hk
  have := vr_V (Nat.le_of_lt hr)
  rw [e] at this; exact this
theorem mixP_in {x y : Nat} (hx : x ≤ 255) (hy : y ≤ 255) {U : Int} (h0 : 0 ≤ U) (h1 : U ≤ S1) :
    ∃ a b : Nat, a ≤ 255 ∧ b ≤ 255 ∧ a = min x y ∧ b = max x y ∧ ((a : Int) - x) * S1 ≤ vs (RM (((y : Int) - x) * S1 * U)) ∧ vs (RM (((y : Int) - x) * S1 * U)) ≤ ((b : Int) - x) * S1 := by
  have hS := S1_pos
  rcases Nat.le_total x y with h | h
  · refine ⟨x, y, hx, hy, (Nat.min_eq_left h).symm, (Nat.max_eq_right h).symm, ?_, ?_⟩
    · rw [Int.sub_self, Int.zero_mul, ← e0R]
      refine vr_mono (Int.mul_nonneg (Int.mul_nonneg (by omega) (by omega)) h0)
    · refine Int.le_trans ?_ (Int.le_of_eq (fixI ((y : Int) - x) (by omega) (by omega)))
      exact vr_mono (Int.mul_le_mul_of_nonneg_left h1 (Int.mul_nonneg (by omega) (by omega)))
  · have hneg : ((y : Int) - x) * S1 ≤ 0 := Int.mul_nonpos_of_nonpos_of_nonneg (by omega) (by omega)
    refine ⟨y, x, hy, hx, (Nat.min_eq_right h).symm, (Nat.max_eq_left h).symm, ?_, ?_⟩
    · refine Int.le_trans (Int.le_of_eq (fixI ((y : Int) - x) (by omega) (by omega)).symm) ?_
      exact vr_mono (Int.mul_le_mul_of_nonpos_left hneg h1)
    · rw [Int.sub_self, Int.zero_mul, ← e0R]
      exact vr_mono (Int.mul_nonpos_of_nonpos_of_nonneg hneg h0)
theorem mixS_in {x a b : Nat} (ha : a ≤ 255) (hb : b ≤ 255) {p : Int} (hp : ((a : Int) - x) * S1 ≤ p) (hq : p ≤ ((b : Int) - x) * S1) : (a : Int) * S1 ≤ vs (RM (((x : Int) * S1 + p) * S1)) ∧ vs (RM (((x : Int) * S1 + p) * S1)) ≤ (b : Int) * S1 := by
  have hS := S1_pos
  constructor
  · rw [← fixI a (by omega) (by omega)]
    exact vr_mono (Int.mul_le_mul_of_nonneg_right (by rw [Int.sub_mul] at hp; omega) (by omega))
  · rw [← fixI b (by omega) (by omega)]
    exact vr_mono (Int.mul_le_mul_of_nonneg_right (by rw [Int.sub_mul] at hq; omega) (by omega))
theorem mixF_in {a b : Nat} (ha : a ≤ 255) (hb : b ≤ 255) {s : Int} (hp : (a : Int) * S1 ≤ s) (hq : s ≤ (b : Int) * S1) : (a : Int) * S1 + H1 ≤ vs (RM ((s + H1) * S1)) ∧ vs (RM ((s + H1) * S1)) ≤ (b : Int) * S1 + H1 := by
  have hS := S1_pos
  constructor
  · rw [← fixH a ha]
    exact vr_mono (Int.mul_le_mul_of_nonneg_right (by omega) (by omega))
  · rw [← fixH b hb]
    exact vr_mono (Int.mul_le_mul_of_nonneg_right (by omega) (by omega))
theorem mixV_in {x y : Nat} (hx : x ≤ 255) (hy : y ≤ 255) {U : Int} (h0 : 0 ≤ U) (h1 : U ≤ S1) : (min x y : Nat) * (S1 : Int) + H1 ≤ mixV x y U ∧ mixV x y U ≤ (max x y : Nat) * (S1 : Int) + H1 := by
  obtain ⟨a, b, ha, hb, rfl, rfl, hp, hq⟩ := mixP_in hx hy h0 h1
  obtain ⟨s1, s2⟩ := mixS_in ha hb hp hq
  exact mixF_in ha hb s1 s2

/-- The number itself. -/
def mixK (x y : Nat) (U : Int) : Nat := (mixV x y U / (S1 : Int)).toNat
theorem H1_pos : 0 < H1 := pw_pos _
theorem mixK_eq {x y : Nat} (hx : x ≤ 255) (hy : y ≤ 255) {U : Int} (h0 : 0 ≤ U) (h1 : U ≤ S1) : mixV x y U / (S1 : Int) = mixK x y U ∧ min x y ≤ mixK x y U ∧ mixK x y U ≤ max x y := by
  obtain ⟨a, b⟩ := mixV_in hx hy h0 h1
  have hS := S1_pos
  have e := S1_H1
  have hH := H1_pos
  have l : ((min x y : Nat) : Int) ≤ mixV x y U / (S1 : Int) := (Int.le_ediv_iff_mul_le (by omega)).2 (by omega)
  have u : mixV x y U / (S1 : Int) < ((max x y : Nat) : Int) + 1 := (Int.ediv_lt_iff_lt_mul (by omega)).2 (by rw [Int.add_mul]; omega)
  have hk : ((mixK x y U : Nat) : Int) = mixV x y U / (S1 : Int) := by unfold mixK; omega
  exact ⟨hk.symm, by omega, by omega⟩

theorem val_inf : 256 * S1 < val 9218868437227405312 := by decide +kernel
theorem fin_of {p : Nat} (h : rg p ≤ 9218868437227405312) (a : -(256 * (S1 : Int)) ≤ V p) (b : V p ≤ 256 * (S1 : Int)) : rg p < 9218868437227405312 := by
  rcases Nat.lt_or_ge (rg p) 9218868437227405312 with h' | h'
  · exact h'
  · exfalso
    have e : rg p = 9218868437227405312 := by omega
    have := val_inf
    unfold V sgn at a b
    rw [e] at a b
    cases hs : sg p <;> rw [hs] at a b <;> simp at a b <;> omega

theorem pw_split {e k : Nat} (h : e ≤ k) : pw k = 2 ^ (k - e) * 2 ^ e := by
  rw [pw_eq, ← Nat.pow_add, show k - e + e = k by omega]
theorem pow_split {e k : Nat} (h : k ≤ e) : 2 ^ e = 2 ^ (e - k) * pw k := by
  rw [pw_eq, ← Nat.pow_add, show e - k + k = e by omega]
/-- The whole number under a word, as Floor leaves it. -/
theorem floor_word {f : Nat} (hf : rg f < 9218868437227405312) {k : Nat} (h0 : 0 < V f) (hk : V f / (S1 : Int) = k) : (D.read f).integral .down = .number false k 0 := by
  have hs : sg f = false := by
    cases h : sg f with
    | false => rfl
    | true => unfold V at h0; rw [h] at h0; simp [sgn] at h0; omega
  have hv : ((vm (rg f) * 2 ^ ve (rg f) : Nat) : Int) / (S1 : Int) = k := by
    rw [V_eq, hs] at hk; exact hk
  have hv' : vm (rg f) * 2 ^ ve (rg f) / S1 = k := by
    have : ((vm (rg f) * 2 ^ ve (rg f) / S1 : Nat) : Int) = k := by rw [Int.natCast_ediv]; exact hv
    omega
  rw [read_num hf, hs]
  generalize vm (rg f) = m at hv'
  generalize ve (rg f) = e at hv'
  show Ieee.Datum.number false (Ieee.Toward.down.cut false (m <<< (-1074 + (e : Int)).toNat) (-(-1074 + (e : Int))).toNat) 0 = _
  congr 1
  unfold Ieee.Toward.cut
  simp only [Bool.false_and, Bool.toNat_false, Nat.add_zero]
  rw [← hv']
  rw [Nat.shiftLeft_eq, Nat.shiftLeft_eq, Nat.one_mul]
  rcases Nat.le_total e 1074 with h | h
  · rw [show (-1074 + (e : Int)).toNat = 0 by omega, show (-(-1074 + (e : Int))).toNat = 1074 - e by omega, Nat.pow_zero, Nat.mul_one]
    have e1 : m * 2 ^ e / S1 = m / 2 ^ (1074 - e) := by
      rw [show S1 = 2 ^ (1074 - e) * 2 ^ e from pw_split h, Nat.mul_div_mul_right _ _ (Nat.pow_pos (by decide))]
    rw [e1]
    rcases Nat.le_total (1074 - e) (m.log2 + 2) with h2 | h2
    · rw [Nat.min_eq_left h2]
    · rw [Nat.min_eq_right h2]
      have l1 : m < 2 ^ (m.log2 + 1) := Nat.lt_log2_self
      have l2 : m < 2 ^ (m.log2 + 2) := Nat.lt_of_lt_of_le l1 (Nat.pow_le_pow_right (by decide) (by omega))
      have l3 : m < 2 ^ (1074 - e) := Nat.lt_of_lt_of_le l2 (Nat.pow_le_pow_right (by decide) h2)
      rw [Nat.div_eq_of_lt l2, Nat.div_eq_of_lt l3]
  · rw [show (-1074 + (e : Int)).toNat = e - 1074 by omega, show (-(-1074 + (e : Int))).toNat = 0 by omega, Nat.zero_min, Nat.pow_zero, Nat.div_one]
    rw [show 2 ^ e = 2 ^ (e - 1074) * S1 from pow_split h, ← Nat.mul_assoc, Nat.mul_div_cancel _ S1_pos]
def ikB : Bool := (List.range 256).all fun k => decide (D.write (.number false k 0) = IW k) && decide (floatToIntVal .f64 (IW k) .i64 = some (k : Int)) && decide (floatToIntVal .f64 (IW k) .u8 = some (k : Int)) && decide (fl (IW k) = some (IW k))
theorem ikB_eq : ikB = true := by decide +kernel
theorem IW_k {k : Nat} (h : k ≤ 255) : D.write (.number false k 0) = IW k ∧ floatToIntVal .f64 (IW k) .i64 = some (k : Int) ∧ floatToIntVal .f64 (IW k) .u8 = some (k : Int) ∧ fl (IW k) = some (IW k) := by
  have := List.all_eq_true.1 ikB_eq k (List.mem_range.2 (by omega))
  simp only [Bool.and_eq_true, decide_eq_true_eq] at this
  exact ⟨this.1.1.1, this.1.1.2, this.1.2, this.2⟩

theorem fl_fin {b : Nat} (h : rg b ≤ 9218868437227405312) : fl b = some b := fl_some ((nan_iff b).2 h)
theorem mix_chain {x y : Nat} (hx : x ≤ 255) (hy : y ≤ 255) {u d : Nat} (hu : rg u < 9218868437227405312) (h0 : 0 ≤ V u) (h1 : V u ≤ S1) (hd : rg d < 9218868437227405312) (hV : V d = ((y : Int) - x) * S1) :
    ∃ f, fadd (fadd (fl (IW x)) (fmul (fl d) (fl u))) (fl halfW) = some f ∧ fl f = some f ∧ fl (D.write ((D.read f).integral .down)) = some (IW (mixK x y (V u))) ∧ ffloor (some f) = some (IW (mixK x y (V u))) := by
  have hS := S1_pos
  have hH := H1_pos
  have eS := S1_H1
  obtain ⟨a, b, ha, hb, _, _, hp, hq⟩ := mixP_in hx hy h0 h1
  obtain ⟨p, p1, p2, p3⟩ := mul_fin hd hu
  have pV : V p = vs (RM (((y : Int) - x) * S1 * V u)) := by rw [V_vs, p3, hV]
  rw [← pV] at hp hq
  rw [Int.sub_mul] at hp hq
  have hx1 : (x : Int) * S1 ≤ 255 * S1 := Int.mul_le_mul_of_nonneg_right (by omega) (by omega)
  have hb1 : (b : Int) * S1 ≤ 255 * S1 := Int.mul_le_mul_of_nonneg_right (by omega) (by omega)
  have ha0 : 0 ≤ (a : Int) * S1 := Int.mul_nonneg (by omega) (by omega)
  have hx0 : 0 ≤ (x : Int) * S1 := Int.mul_nonneg (by omega) (by omega)
  have pf := fin_of p2 (by omega) (by omega)
  rw [← Int.sub_mul] at hp hq
  obtain ⟨xV, xf⟩ := IW_V x (by omega) (by omega)
  obtain ⟨s, s1, s2, s3⟩ := add_fin xf pf
  have sV : V s = vs (RM (((x : Int) * S1 + V p) * S1)) := by rw [V_vs, s3, xV]
  obtain ⟨t1, t2⟩ := mixS_in ha hb hp hq
  rw [← sV] at t1 t2
  have sf := fin_of s2 (by omega) (by omega)
  obtain ⟨hhV, hhf⟩ := halfW_V
  obtain ⟨f, f1, f2, f3⟩ := add_fin sf hhf
  have fV : V f = mixV x y (V u) := by rw [V_vs, f3, hhV, sV, pV]; rfl
  obtain ⟨m1, m2⟩ := mixV_in hx hy h0 h1
  have hmin : 0 ≤ ((min x y : Nat) : Int) * S1 := Int.mul_nonneg (by omega) (by omega)
  have hmax : ((max x y : Nat) : Int) * S1 ≤ 255 * S1 := Int.mul_le_mul_of_nonneg_right (by omega) (by omega)
  have ff := fin_of f2 (by omega) (by omega)
  obtain ⟨k1, k2, k3⟩ := mixK_eq hx hy h0 h1
  have hw := floor_word ff (by omega) (by rw [fV]; exact k1)
  have hk := IW_k (k := mixK x y (V u)) (by omega)
  refine ⟨f, ?_, fl_fin f2, ?_, ?_⟩
  · rw [fl_fin (Nat.le_of_lt xf), fl_fin (Nat.le_of_lt hd), fl_fin (Nat.le_of_lt hu), fl_fin (Nat.le_of_lt hhf)]
    have e1 : fmul (some d) (some u) = some p := p1
    have e2 : fadd (some (IW x)) (some p) = some s := s1
    rw [e1, e2]; exact f1
  · rw [hw, hk.1, hk.2.2.2]
  · show some (D.write ((D.read f).integral .down)) = _
    rw [hw, hk.1]
/-- The document's difference of two floats. -/
theorem IW_sub {x y : Nat} (hx : x ≤ 255) (hy : y ≤ 255) : ∃ d, fsub (fl (IW y)) (fl (IW x)) = some d ∧ fl d = some d ∧ rg d < 9218868437227405312 ∧ V d = ((y : Int) - x) * S1 := by
  have hS := S1_pos
  obtain ⟨xV, xf⟩ := IW_V x (by omega) (by omega)
  obtain ⟨yV, yf⟩ := IW_V y (by omega) (by omega)
  obtain ⟨d, d1, d2, d3⟩ := sub_fin yf xf
  have dV : V d = ((y : Int) - x) * S1 := by
    rw [V_vs, d3, xV, yV, ← Int.sub_mul, fixI _ (by omega) (by omega)]
  have l1 : ((y : Int) - x) * S1 ≤ 255 * S1 := Int.mul_le_mul_of_nonneg_right (by omega) (by omega)
  have l2 : -255 * (S1 : Int) ≤ ((y : Int) - x) * S1 := Int.mul_le_mul_of_nonneg_right (by omega) (by omega)
  refine ⟨d, ?_, fl_fin d2, fin_of d2 (by omega) (by omega), dV⟩
  rw [fl_fin (Nat.le_of_lt xf), fl_fin (Nat.le_of_lt yf)]
  exact d1
end Go.Proofs.Ytkgicooplgmmpaa
