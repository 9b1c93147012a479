/-
  Rounding: each sum, difference and product of finite words is the exact one, rounded by one monotone function.
-/
import Derived.Test.YtkgicooplgmmpaaOrd
namespace Go.Proofs.Ytkgicooplgmmpaa

/-- X / 2^L, to the nearest, ties to even. -/
def rne (X L : Nat) : Nat := X / 2 ^ L + (decide (2 ^ L < 2 * (X % 2 ^ L)) || (decide (2 ^ L = 2 * (X % 2 ^ L)) && X / 2 ^ L % 2 == 1)).toNat

theorem rne_mono {X Y L : Nat} (h : X ≤ Y) : rne X L ≤ rne Y L := by
  unfold rne
  have hp : 0 < 2 ^ L := Nat.pow_pos (by decide)
  generalize 2 ^ L = p at *
  have h1 := Nat.div_le_div_right (c := p) h
  have m1 := Nat.mod_lt X hp
  have m2 := Nat.mod_lt Y hp
  have d1 := Nat.div_add_mod X p
  have d2 := Nat.div_add_mod Y p
  rcases Nat.lt_or_ge (X / p) (Y / p) with h2 | h2
  · have : ∀ b : Bool, b.toNat ≤ 1 := by decide
    have := this (decide (p < 2 * (X % p)) || (decide (p = 2 * (X % p)) && X / p % 2 == 1))
    omega
  · have e : X / p = Y / p := by omega
    rw [e] at d1 ⊢
    have hr : X % p ≤ Y % p := by omega
    refine Nat.add_le_add_left ?_ _
    by_cases c1 : p < 2 * (X % p)
    · have c2 : p < 2 * (Y % p) := by omega
      simp [c1, c2]
    · by_cases c3 : p = 2 * (X % p)
      · by_cases c2 : p < 2 * (Y % p)
        · simp [c2]; exact Bool.toNat_le _
        · have c4 : p = 2 * (Y % p) := by omega
          simp only [decide_eq_false c1, decide_eq_true c3, decide_eq_false c2, decide_eq_true c4]
          exact Nat.le_refl _
      · simp [c1, c3]
theorem rne_exact (m L : Nat) : rne (m * 2 ^ L) L = m := by
  unfold rne
  have hp : 0 < 2 ^ L := Nat.pow_pos (by decide)
  rw [Nat.mul_div_cancel _ hp, Nat.mul_mod_left]
  generalize 2 ^ L = p at *
  simp
  omega
theorem rne_scale (X L d : Nat) : rne (X * 2 ^ d) (L + d) = rne X L := by
  unfold rne
  have hp : 0 < 2 ^ d := Nat.pow_pos (by decide)
  rw [Nat.pow_add, Nat.mul_div_mul_right _ _ hp, Nat.mul_mod_mul_right]
  generalize 2 ^ L = p
  generalize 2 ^ d = q at *
  have e1 : (p * q < 2 * (X % p * q)) ↔ (p < 2 * (X % p)) := by
    rw [← Nat.mul_assoc]; exact Nat.mul_lt_mul_right hp
  have e2 : (p * q = 2 * (X % p * q)) ↔ (p = 2 * (X % p)) := by
    rw [← Nat.mul_assoc]; exact Nat.mul_right_cancel_iff hp
  simp only [e1, e2]

/-- The rung of X * 2^-2148. -/
def lv (X : Nat) : Nat := max (X.log2 - 52) 1074
def gr (X : Nat) : Nat := (lv X - 1074) * 4503599627370496 + rne X (lv X)
def rnd (X : Nat) : Nat := min (gr X) 9218868437227405312

theorem gr_small {X : Nat} (h : X.log2 ≤ 1126) : gr X = rne X 1074 := by
  unfold gr lv
  rw [show max (X.log2 - 52) 1074 = 1074 from by omega]; simp
theorem rne_hi {X L : Nat} (h : X < 2 ^ (53 + L)) : rne X L ≤ 2 ^ 53 := by
  have h1 : X ≤ 2 ^ 53 * 2 ^ L := by rw [← Nat.pow_add]; omega
  exact Nat.le_trans (rne_mono h1) (Nat.le_of_eq (rne_exact _ _))
theorem rne_lo {X L : Nat} (h : 2 ^ (52 + L) ≤ X) : 2 ^ 52 ≤ rne X L := by
  have h1 : 2 ^ 52 * 2 ^ L ≤ X := by rw [← Nat.pow_add]; omega
  exact Nat.le_trans (Nat.le_of_eq (rne_exact _ _).symm) (rne_mono h1)
theorem log2_le_log2 {a b : Nat} (h : a ≤ b) : a.log2 ≤ b.log2 := by
  rcases Nat.eq_zero_or_pos a with rfl | ha
  · simp
  · exact (Nat.le_log2 (by omega)).2 (Nat.le_trans (Nat.log2_self_le (by omega)) h)
theorem gr_mono {X Y : Nat} (h : X ≤ Y) : gr X ≤ gr Y := by
  have hl := log2_le_log2 h
  rcases Nat.lt_or_ge (lv X) (lv Y) with h1 | h1
  · unfold gr
    have hX : X < 2 ^ (53 + lv X) := by
      refine Nat.lt_of_lt_of_le (Nat.lt_log2_self (n := X)) (Nat.pow_le_pow_right (by decide) ?_)
      unfold lv; omega
    have hY0 : Y ≠ 0 := by
      intro e; subst e
      unfold lv at h1; simp at h1; omega
    have hY : 2 ^ (52 + lv Y) ≤ Y := by
      refine Nat.le_trans (Nat.pow_le_pow_right (by decide) ?_) (Nat.log2_self_le hY0)
      unfold lv at h1 ⊢; omega
    have a1 := rne_hi hX
    have a2 := rne_lo hY
    have hlx : 1074 ≤ lv X := by unfold lv; omega
    omega
  · have e : lv X = lv Y := by
      have : lv X ≤ lv Y := by unfold lv; omega
      omega
    unfold gr
    rw [e]
    exact Nat.add_le_add_left (rne_mono h) _
theorem rnd_mono {X Y : Nat} (h : X ≤ Y) : rnd X ≤ rnd Y := by
  have := gr_mono h
  unfold rnd; omega
theorem log2_mul_pow (m e : Nat) (h : m ≠ 0) : (m * 2 ^ e).log2 = m.log2 + e := by
  have hp : 0 < 2 ^ e := Nat.pow_pos (by decide)
  have h0 : m * 2 ^ e ≠ 0 := by
    have := Nat.mul_pos (Nat.pos_of_ne_zero h) hp; omega
  refine (Nat.log2_eq_iff h0).2 ⟨?_, ?_⟩
  · rw [Nat.pow_add]; exact Nat.mul_le_mul_right _ (Nat.log2_self_le h)
  · rw [show m.log2 + e + 1 = (m.log2 + 1) + e from by omega, Nat.pow_add]
    exact Nat.mul_lt_mul_of_pos_right (Nat.lt_log2_self) hp
theorem log2_lt_of {m k : Nat} (h : m < 2 ^ k) (hk : 0 < k) : m.log2 < k := by
  rcases Nat.eq_zero_or_pos m with rfl | hm
  · simpa using hk
  · exact (Nat.log2_lt (by omega)).2 h

theorem rne_zero (L : Nat) : rne 0 L = 0 := by
  have h := rne_exact 0 L
  rwa [Nat.zero_mul] at h
theorem gr_zero : gr 0 = 0 := by
  unfold gr lv
  rw [Nat.log2_zero, rne_zero]; decide
theorem gr_val_k (r k : Nat) (hk : k = 1074) : gr (val r * 2 ^ k) = r := by
  unfold val vm ve
  by_cases h : r < 4503599627370496
  · rw [if_pos h, if_pos h, Nat.pow_zero, Nat.mul_one]
    rcases Nat.eq_zero_or_pos r with rfl | hr
    · rw [Nat.zero_mul]; exact gr_zero
    · have hl := log2_lt_of (m := r) (k := 52) (by omega) (by decide)
      unfold gr lv
      rw [log2_mul_pow _ _ (by omega), show max (r.log2 + k - 52) 1074 = k from by omega, rne_exact]
      omega
  · rw [if_neg h, if_neg h, Nat.mul_assoc, ← Nat.pow_add]
    have hm : (4503599627370496 + r % 4503599627370496).log2 = 52 := by
      refine (Nat.log2_eq_iff (by omega)).2 ⟨?_, ?_⟩
      · have : (2 : Nat) ^ 52 = 4503599627370496 := by decide
        omega
      · have : (2 : Nat) ^ (52 + 1) = 9007199254740992 := by decide
        omega
    unfold gr lv
    rw [log2_mul_pow _ _ (by omega), hm]
    rw [show max (52 + (r / 4503599627370496 - 1 + k) - 52) 1074 = r / 4503599627370496 - 1 + k from by omega, rne_exact]
    omega
/-- The least number, in units of 2^-2148. -/
@[irreducible] def pw (k : Nat) : Nat := 2 ^ k
theorem pw_eq (k : Nat) : pw k = 2 ^ k := by unfold pw; rfl
theorem pw_pos (k : Nat) : 0 < pw k := by rw [pw_eq]; exact Nat.pow_pos (by decide)
def S1 : Nat := pw 1074
theorem S1_pos : 0 < S1 := pw_pos _
theorem gr_val_p (r k : Nat) (hk : k = 1074) : gr (val r * pw k) = r := by rw [pw_eq]; exact gr_val_k r k hk
theorem gr_val (r : Nat) : gr (val r * S1) = r := gr_val_p r 1074 rfl
theorem rnd_val {r : Nat} (h : r ≤ 9218868437227405312) : rnd (val r * S1) = r := by
  unfold rnd; rw [gr_val]; omega
theorem rnd_le {X r : Nat} (hr : r ≤ 9218868437227405312) (h : X ≤ val r * S1) : rnd X ≤ r := Nat.le_trans (rnd_mono h) (Nat.le_of_eq (rnd_val hr))
theorem rnd_ge {X r : Nat} (hr : r ≤ 9218868437227405312) (h : val r * S1 ≤ X) : r ≤ rnd X := Nat.le_trans (Nat.le_of_eq (rnd_val hr).symm) (rnd_mono h)
theorem rnd_top (X : Nat) : rnd X ≤ 9218868437227405312 := by unfold rnd; omega
theorem rnd_zero : rnd 0 = 0 := by unfold rnd; rw [gr_zero]; rfl

/-- 'cut' to the even one is 'rne'. -/
theorem cut_even (neg : Bool) (n drop : Nat) : Ieee.Toward.even.cut neg n drop = rne n drop := by
  unfold Ieee.Toward.cut rne
  simp only [Nat.one_shiftLeft]
  rcases Nat.lt_or_ge (n.log2 + 2) drop with h | h
  rotate_left
  · rw [show min drop (n.log2 + 2) = drop from by omega]
    congr 1
  · have hn : n < 2 ^ (n.log2 + 1) := Nat.lt_log2_self
    rw [show min drop (n.log2 + 2) = n.log2 + 2 from by omega]
    have h1 : (2 : Nat) ^ (n.log2 + 2) = 2 * 2 ^ (n.log2 + 1) := by rw [Nat.pow_succ]; omega
    have h2 : (2 : Nat) ^ (n.log2 + 2) ≤ 2 ^ drop := Nat.pow_le_pow_right (by decide) (by omega)
    generalize 2 ^ (n.log2 + 1) = a at *
    generalize 2 ^ (n.log2 + 2) = b at *
    generalize 2 ^ drop = c at *
    have k1 : n < b := by omega
    have k2 : n < c := by omega
    have k3 : ¬ b < 2 * n := by omega
    have k4 : ¬ c < 2 * n := by omega
    have k5 : (b == 2 * n) = false := by simp; omega
    have k6 : ¬ c = 2 * n := by omega
    rw [Nat.div_eq_of_lt k1, Nat.mod_eq_of_lt k1, Nat.div_eq_of_lt k2, Nat.mod_eq_of_lt k2, k5, decide_eq_false k3, decide_eq_false k4, decide_eq_false k6]

theorem nearest_eq (neg : Bool) (m : Nat) (p : Nat) (place : Int) (hp : place = (p : Int) - 2148) : D.nearest neg m place = D.word neg (rnd (m * 2 ^ p)) := by
  unfold Ieee.Format.nearest
  by_cases hm : m = 0
  · rw [if_pos hm, hm, Nat.zero_mul, rnd_zero]
  · rw [if_neg hm]
    have hlp : D.leastPlace = -1074 := by decide
    have hfb : (D.fractionBits : Int) = 52 := by decide
    rw [hlp, hfb, infRung_D, binade_D]
    simp only [cut_even]
    refine congrArg (D.word neg) ?_
    unfold rnd gr lv
    rw [log2_mul_pow m p hm]
    have e : (max (place + (m.log2 : Int) - 52) (-1074)) = ((max (m.log2 + p - 52) 1074 : Nat) : Int) - 2148 := by omega
    rw [e]
    generalize hL : max (m.log2 + p - 52) 1074 = L at *
    rw [show ((L : Int) - 2148 - -1074).toNat = L - 1074 from by omega]
    refine congrArg (fun x => min ((L - 1074) * 4503599627370496 + x) 9218868437227405312) ?_
    rcases Nat.lt_or_ge p L with h | h
    rotate_left
    · rw [show (place - ((L : Int) - 2148)).toNat = p - L from by omega, show ((L : Int) - 2148 - place).toNat = 0 from by omega, Nat.shiftLeft_eq]
      have h1 := rne_scale (m * 2 ^ (p - L)) 0 L
      rw [Nat.mul_assoc, ← Nat.pow_add, show p - L + L = p from by omega, Nat.zero_add] at h1
      exact h1.symm
    · rw [show (place - ((L : Int) - 2148)).toNat = 0 from by omega, show ((L : Int) - 2148 - place).toNat = L - p from by omega, Nat.shiftLeft_eq, Nat.pow_zero, Nat.mul_one]
      have h1 := rne_scale m (L - p) p
      rw [show L - p + p = L from by omega] at h1
      exact h1.symm

/-- A finite word's value, in units of 2^-1074. -/
def V (b : Nat) : Int := sgn (sg b) (val (rg b))
/-- The signed rung of Z * 2^-2148. -/
def RM (Z : Int) : Int := sgn (decide (Z < 0)) (rnd Z.natAbs)

theorem RM_mono {Y Z : Int} (h : Y ≤ Z) : RM Y ≤ RM Z := by
  unfold RM sgn
  by_cases h1 : Y < 0
  · by_cases h2 : Z < 0
    · have := rnd_mono (X := Z.natAbs) (Y := Y.natAbs) (by omega)
      simp only [decide_eq_true h1, decide_eq_true h2, if_true]; omega
    · simp only [decide_eq_true h1, decide_eq_false h2, if_true, Bool.false_eq_true, if_false]; omega
  · have h2 : ¬ Z < 0 := by omega
    have := rnd_mono (X := Y.natAbs) (Y := Z.natAbs) (by omega)
    simp only [decide_eq_false h1, decide_eq_false h2, Bool.false_eq_true, if_false]; omega
theorem natAbs_sgn (s : Bool) (n : Nat) : (sgn s n).natAbs = n := by cases s <;> simp [sgn]
theorem RM_sgn (s : Bool) (n : Nat) : RM (sgn s (n : Int)) = sgn s (rnd n) := by
  unfold RM
  rw [natAbs_sgn]
  rcases Nat.eq_zero_or_pos n with rfl | hn
  · rw [rnd_zero]; cases s <;> simp [sgn]
  · cases s
    · rw [show decide (sgn false (n : Int) < 0) = false from (by simp [sgn] <;> omega)]
    · rw [show decide (sgn true (n : Int) < 0) = true from (by simp [sgn] <;> omega)]
theorem RM_zero : RM 0 = 0 := by unfold RM; simp [rnd_zero, sgn]
theorem RM_V {b : Nat} (h : rg b ≤ 9218868437227405312) : RM (V b * (S1 : Int)) = sr b := by
  have e : V b * (S1 : Int) = sgn (sg b) ((val (rg b) * S1 : Nat) : Int) := by
    unfold V; rw [← sgn_mul, Int.natCast_mul]
  rw [e, RM_sgn, rnd_val h]; rfl
theorem RM_hi (Z : Int) : RM Z ≤ 9218868437227405312 := by
  have := rnd_top Z.natAbs
  unfold RM sgn; split <;> omega
theorem RM_lo (Z : Int) : -9218868437227405312 ≤ RM Z := by
  have := rnd_top Z.natAbs
  unfold RM sgn; split <;> omega

theorem rg_word (s : Bool) (k : Nat) (h : k ≤ 9218868437227405312) : rg (D.word s k) = k ∧ sr (D.word s k) = sgn s k := by
  have e : D.word s k = if s then 9223372036854775808 + k else k := by
    unfold Ieee.Format.word; rw [signWeight_D]
  have h1 : rg (D.word s k) = k := by rw [e]; unfold rg; cases s <;> simp <;> omega
  refine ⟨h1, ?_⟩
  unfold sr
  rw [h1]
  have h2 : sg (D.word s k) = s := by
    rw [e]; unfold sg
    cases s
    · simp only [Bool.false_eq_true, if_false]; rw [beq_eq_false_iff_ne]; omega
    · simp only [if_true]; rw [beq_iff_eq]; omega
  rw [h2]; rfl

theorem write_number (s : Bool) (m p : Nat) (place : Int) (hp : place = (p : Int) - 2148) : rg (D.write (.number s m place)) ≤ 9218868437227405312 ∧ sr (D.write (.number s m place)) = RM (sgn s ((m * 2 ^ p : Nat) : Int)) := by
  have e : D.write (.number s m place) = D.word s (rnd (m * 2 ^ p)) := nearest_eq s m p place hp
  obtain ⟨h1, h2⟩ := rg_word s (rnd (m * 2 ^ p)) (rnd_top _)
  rw [e]
  exact ⟨by rw [h1]; exact rnd_top _, by rw [h2, RM_sgn]⟩

theorem mul_fin {x y : Nat} (hx : rg x < 9218868437227405312) (hy : rg y < 9218868437227405312) : ∃ r, D.mul x y = some r ∧ rg r ≤ 9218868437227405312 ∧ sr r = RM (V x * V y) := by
  unfold Ieee.Format.mul
  rw [read_num hx, read_num hy]
  have hw := write_number (sg x ^^ sg y) (vm (rg x) * vm (rg y)) (ve (rg x) + ve (rg y)) (-1074 + (ve (rg x) : Nat) + (-1074 + (ve (rg y) : Nat))) (by omega)
  refine ⟨_, rfl, hw.1, hw.2.trans (congrArg RM ?_)⟩
  have e : vm (rg x) * vm (rg y) * 2 ^ (ve (rg x) + ve (rg y)) = val (rg x) * val (rg y) := by
    unfold val; rw [Nat.pow_add, Nat.mul_mul_mul_comm]
  rw [e, Int.natCast_mul]
  unfold V sgn
  cases sg x <;> cases sg y <;> simp [Int.neg_mul, Int.mul_neg]

theorem sum_fin (s t : Bool) (m n e f : Nat) (Z : Int) (hZ : Z = sgn s ((m * 2 ^ e : Nat) : Int) + sgn t ((n * 2 ^ f : Nat) : Int)) :
    ∃ d, (Ieee.Datum.number s m (-1074 + (e : Int))).sum (.number t n (-1074 + (f : Int))) = some d ∧ rg (D.write d) ≤ 9218868437227405312 ∧ sr (D.write d) = RM (Z * (S1 : Int)) := by
  have e1 : (-1074 + (e : Int) - min (-1074 + (e : Int)) (-1074 + (f : Int))).toNat = e - min e f := by omega
  have e2 : (-1074 + (f : Int) - min (-1074 + (e : Int)) (-1074 + (f : Int))).toNat = f - min e f := by omega
  have g1 : m * 2 ^ e = m * 2 ^ (e - min e f) * 2 ^ (min e f) := by rw [Nat.mul_assoc, ← Nat.pow_add]; congr 2; omega
  have g2 : n * 2 ^ f = n * 2 ^ (f - min e f) * 2 ^ (min e f) := by rw [Nat.mul_assoc, ← Nat.pow_add]; congr 2; omega
  have hb : (min (-1074 + (e : Int)) (-1074 + (f : Int))) = ((min e f + 1074 : Nat) : Int) - 2148 := by omega
  refine ⟨_, rfl, ?_⟩
  show _ ∧ _
  rw [e1, e2, signed_eq, signed_eq]
  generalize hT : sgn s ((m * 2 ^ (e - min e f) : Nat) : Int) + sgn t ((n * 2 ^ (f - min e f) : Nat) : Int) = T
  have hZT : Z = T * ((2 ^ min e f : Nat) : Int) := by
    rw [hZ, g1, g2, ← hT]
    generalize m * 2 ^ (e - min e f) = x
    generalize n * 2 ^ (f - min e f) = y
    rw [Int.natCast_mul, Int.natCast_mul, sgn_mul, sgn_mul, Int.add_mul]
  have hw := write_number (if T = 0 then s && t else decide (T < 0)) T.natAbs (min e f + 1074) _ hb
  refine ⟨hw.1, hw.2.trans (congrArg RM ?_)⟩
  have hpS : ((2 ^ (min e f + 1074) : Nat) : Int) = ((2 ^ min e f : Nat) : Int) * (S1 : Int) := by
    unfold S1
    have := pw_eq 1074
    rw [Nat.pow_add, Int.natCast_mul, pw_eq]
  rw [Int.natCast_mul, hpS, hZT, Int.mul_assoc, sgn_mul]
  refine congrArg (· * _) ?_
  by_cases h0 : T = 0
  · rw [h0]; simp [sgn]
  · rw [if_neg h0]
    unfold sgn
    by_cases h1 : T < 0
    · rw [decide_eq_true h1, if_pos rfl]; omega
    · rw [decide_eq_false h1]; simp; omega
theorem V_eq {x : Nat} : V x = sgn (sg x) ((vm (rg x) * 2 ^ ve (rg x) : Nat) : Int) := rfl
theorem add_fin {x y : Nat} (hx : rg x < 9218868437227405312) (hy : rg y < 9218868437227405312) : ∃ r, D.add x y = some r ∧ rg r ≤ 9218868437227405312 ∧ sr r = RM ((V x + V y) * (S1 : Int)) := by
  unfold Ieee.Format.add
  rw [read_num hx, read_num hy]
  obtain ⟨d, hd, h1, h2⟩ := sum_fin (sg x) (sg y) (vm (rg x)) (vm (rg y)) (ve (rg x)) (ve (rg y)) (V x + V y) rfl
  exact ⟨_, by rw [hd]; rfl, h1, h2⟩
theorem sub_fin {x y : Nat} (hx : rg x < 9218868437227405312) (hy : rg y < 9218868437227405312) : ∃ r, D.sub x y = some r ∧ rg r ≤ 9218868437227405312 ∧ sr r = RM ((V x - V y) * (S1 : Int)) := by
  unfold Ieee.Format.sub
  rw [read_num hx, read_num hy]
  obtain ⟨d, hd, h1, h2⟩ := sum_fin (sg x) (!sg y) (vm (rg x)) (vm (rg y)) (ve (rg x)) (ve (rg y)) (V x - V y) (by
    rw [V_eq, V_eq]; unfold sgn; cases sg y <;> simp <;> omega)
  exact ⟨_, by show Option.map _ ((Ieee.Datum.number (sg x) _ _).sum (.number (!sg y) _ _)) = _; rw [hd]; rfl, h1, h2⟩
end Go.Proofs.Ytkgicooplgmmpaa
