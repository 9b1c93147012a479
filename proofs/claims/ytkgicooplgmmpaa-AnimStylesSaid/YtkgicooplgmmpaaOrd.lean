/-
  The order of float words: it is the order of their signed rungs.
-/
import Derived.Test.YtkgicooplgmmpaaFl
namespace Go.Proofs.Ytkgicooplgmmpaa

theorem binade_D : D.binade = 4503599627370496 := by decide
theorem signWeight_D : D.signWeight = 9223372036854775808 := by decide
theorem infRung_D : D.infRung = 9218868437227405312 := by decide

/-- The magnitude of a rung, in units of the least number. -/
def vm (r : Nat) : Nat := if r < 4503599627370496 then r else 4503599627370496 + r % 4503599627370496
def ve (r : Nat) : Nat := if r < 4503599627370496 then 0 else r / 4503599627370496 - 1
def val (r : Nat) : Nat := vm r * 2 ^ ve r

theorem val_succ (r : Nat) : val r < val (r + 1) := by
  unfold val vm ve
  by_cases h : r + 1 < 4503599627370496
  · rw [if_pos (by omega), if_pos (by omega), if_pos h, if_pos h]; simp
  · by_cases h2 : r < 4503599627370496
    · rw [if_pos h2, if_pos h2, if_neg h, if_neg h]
      obtain rfl : r = 4503599627370496 - 1 := by omega
      decide
    · rw [if_neg h2, if_neg h2, if_neg h, if_neg h]
      by_cases h3 : r % 4503599627370496 = 4503599627370496 - 1
      · have e1 : (r + 1) % 4503599627370496 = 0 := by omega
        have e2 : (r + 1) / 4503599627370496 - 1 = (r / 4503599627370496 - 1) + 1 := by omega
        rw [e1, e2, h3, Nat.pow_succ]
        have hp : 0 < 2 ^ (r / 4503599627370496 - 1) := Nat.pow_pos (by decide)
        generalize 2 ^ (r / 4503599627370496 - 1) = p at *
        omega
      · have e1 : (r + 1) % 4503599627370496 = r % 4503599627370496 + 1 := by omega
        have e2 : (r + 1) / 4503599627370496 = r / 4503599627370496 := by omega
        rw [e1, e2]
        exact Nat.mul_lt_mul_of_pos_right (by omega) (Nat.pow_pos (by decide))
theorem val_lt {a b : Nat} (h : a < b) : val a < val b := by
  induction b with
  | zero => omega
  | succ b ih =>
    rcases Nat.lt_or_ge a b with h1 | h1
    · exact Nat.lt_trans (ih h1) (val_succ b)
    · obtain rfl : a = b := by omega
      exact val_succ a
theorem val_le {a b : Nat} (h : a ≤ b) : val a ≤ val b := by
  rcases Nat.lt_or_ge a b with h1 | h1
  · exact Nat.le_of_lt (val_lt h1)
  · obtain rfl : a = b := by omega
    exact Nat.le_refl _
theorem val_lt_iff {a b : Nat} : val a < val b ↔ a < b :=
  ⟨fun h => Nat.lt_of_not_le fun h2 => absurd (val_le h2) (by omega), val_lt⟩
theorem val_inj {a b : Nat} (h : val a = val b) : a = b := by
  rcases Nat.lt_trichotomy a b with h1 | h1 | h1
  · have := val_lt h1; omega
  · exact h1
  · have := val_lt h1; omega
theorem val_zero : val 0 = 0 := by decide

def rg (b : Nat) : Nat := b % 9223372036854775808
def sg (b : Nat) : Bool := b / 9223372036854775808 % 2 == 1
/-- The signed rung. -/
def sr (b : Nat) : Int := if sg b then -(rg b : Int) else (rg b : Int)

theorem read_eq (b : Nat) : D.read b = if rg b < 4503599627370496 then .number (sg b) (rg b) (-1074) else if rg b < 9218868437227405312 then .number (sg b) (4503599627370496 + rg b % 4503599627370496) (-1074 + (rg b / 4503599627370496 - 1 : Nat)) else if rg b = 9218868437227405312 then .infinity (sg b) else .nan (sg b) (rg b - 9218868437227405312) := by
  unfold Ieee.Format.read
  rw [signWeight_D, binade_D, infRung_D]
  rfl
theorem read_num {b : Nat} (h : rg b < 9218868437227405312) : D.read b = .number (sg b) (vm (rg b)) (-1074 + (ve (rg b) : Nat)) := by
  rw [read_eq]
  unfold vm ve
  by_cases h1 : rg b < 4503599627370496
  · rw [if_pos h1, if_pos h1, if_pos h1]; rfl
  · rw [if_neg h1, if_pos h, if_neg h1, if_neg h1]
theorem nan_iff (b : Nat) : (D.read b).isNaN = false ↔ rg b ≤ 9218868437227405312 := by
  rw [read_eq]
  by_cases h1 : rg b < 4503599627370496
  · rw [if_pos h1]; simp [Ieee.Datum.isNaN]; omega
  · rw [if_neg h1]
    by_cases h2 : rg b < 9218868437227405312
    · rw [if_pos h2]; simp [Ieee.Datum.isNaN]; omega
    · rw [if_neg h2]
      by_cases h3 : rg b = 9218868437227405312
      · rw [if_pos h3]; simp [Ieee.Datum.isNaN]; omega
      · rw [if_neg h3]; simp [Ieee.Datum.isNaN]; omega

def sgn (s : Bool) (n : Int) : Int := if s then -n else n
theorem compare_scale (a b k : Int) (hk : 0 < k) : compare (a * k) (b * k) = compare a b := by
  rcases Int.lt_trichotomy a b with h | h | h
  · rw [Int.compare_eq_lt.2 h, Int.compare_eq_lt.2 (Int.mul_lt_mul_of_pos_right h hk)]
  · rw [h]; simp
  · rw [Int.compare_eq_gt.2 h, Int.compare_eq_gt.2 (Int.mul_lt_mul_of_pos_right h hk)]
theorem signed_eq (s : Bool) (m u : Nat) : Ieee.signed s m u = sgn s ((m * 2 ^ u : Nat) : Int) := by
  unfold Ieee.signed sgn
  rw [Nat.shiftLeft_eq]
theorem sgn_mul (s : Bool) (a k : Int) : sgn s (a * k) = sgn s a * k := by
  unfold sgn; split <;> simp [Int.neg_mul]

theorem order_num (s t : Bool) (m n e f : Nat) : (Ieee.Datum.number s m (-1074 + (e : Int))).order (.number t n (-1074 + (f : Int))) = some (compare (sgn s ((m * 2 ^ e : Nat) : Int)) (sgn t ((n * 2 ^ f : Nat) : Int))) := by
  show some (compare (Ieee.signed s m _) (Ieee.signed t n _)) = _
  rw [signed_eq, signed_eq]
  have e1 : (-1074 + (e : Int) - min (-1074 + (e : Int)) (-1074 + (f : Int))).toNat = e - min e f := by omega
  have e2 : (-1074 + (f : Int) - min (-1074 + (e : Int)) (-1074 + (f : Int))).toNat = f - min e f := by omega
  rw [e1, e2]
  have g1 : m * 2 ^ e = m * 2 ^ (e - min e f) * 2 ^ (min e f) := by rw [Nat.mul_assoc, ← Nat.pow_add]; congr 2; omega
  have g2 : n * 2 ^ f = n * 2 ^ (f - min e f) * 2 ^ (min e f) := by rw [Nat.mul_assoc, ← Nat.pow_add]; congr 2; omega
  have hp : (0 : Int) < ((2 ^ min e f : Nat) : Int) := by have : 0 < 2 ^ min e f := Nat.pow_pos (by decide); omega
  rw [g1, g2]
  generalize m * 2 ^ (e - min e f) = x
  generalize n * 2 ^ (f - min e f) = y
  generalize 2 ^ min e f = z at *
  rw [Int.natCast_mul, Int.natCast_mul, sgn_mul, sgn_mul, compare_scale _ _ _ hp]

theorem sgn_mono_lt (s t : Bool) (a b : Nat) : compare (sgn s (val a : Int)) (sgn t (val b : Int)) = compare (sgn s (a : Int)) (sgn t (b : Int)) := by
  have key : ∀ x y : Int, ∀ u v : Int, ((x < y ↔ u < v) ∧ (y < x ↔ v < u)) → compare x y = compare u v := by
    intro x y u v ⟨h1, h2⟩
    rcases Int.lt_trichotomy x y with h | h | h
    · rw [Int.compare_eq_lt.2 h, Int.compare_eq_lt.2 (h1.1 h)]
    · have e : u = v := by
        rcases Int.lt_trichotomy u v with h3 | h3 | h3
        · have := h1.2 h3; omega
        · exact h3
        · have := h2.2 h3; omega
      rw [h, e]; simp
    · rw [Int.compare_eq_gt.2 h, Int.compare_eq_gt.2 (h2.1 h)]
  apply key
  have h1 : val a < val b ↔ a < b := val_lt_iff
  have h2 : val b < val a ↔ b < a := val_lt_iff
  have h3 : val a = 0 ↔ a = 0 := ⟨fun h => val_inj (h.trans val_zero.symm), fun h => h ▸ val_zero⟩
  have h4 : val b = 0 ↔ b = 0 := ⟨fun h => val_inj (h.trans val_zero.symm), fun h => h ▸ val_zero⟩
  cases s <;> cases t <;> simp only [sgn, if_true, if_false, Bool.false_eq_true] <;> omega

theorem order_sr {a b : Nat} (ha : rg a ≤ 9218868437227405312) (hb : rg b ≤ 9218868437227405312) : D.order a b = some (compare (sr a) (sr b)) := by
  unfold Ieee.Format.order
  have hsr : ∀ x, sr x = sgn (sg x) (rg x : Int) := fun _ => rfl
  rw [hsr, hsr]
  rcases Nat.lt_or_ge (rg a) 9218868437227405312 with h1 | h1
  · rcases Nat.lt_or_ge (rg b) 9218868437227405312 with h2 | h2
    · rw [read_num h1, read_num h2, order_num]
      congr 1
      exact sgn_mono_lt _ _ _ _
    · have e2 : rg b = 9218868437227405312 := by omega
      have r2 : D.read b = .infinity (sg b) := by rw [read_eq, if_neg (by omega), if_neg (by omega), if_pos e2]
      rw [read_num h1, r2, e2]
      show some (if sg b then Ordering.gt else Ordering.lt) = _
      congr 1
      symm
      cases sg b <;> cases sg a <;> simp only [sgn, if_true, if_false, Bool.false_eq_true]
      · exact Int.compare_eq_lt.2 (by omega)
      · exact Int.compare_eq_lt.2 (by omega)
      · exact Int.compare_eq_gt.2 (by omega)
      · exact Int.compare_eq_gt.2 (by omega)
  · have e1 : rg a = 9218868437227405312 := by omega
    have r1 : D.read a = .infinity (sg a) := by rw [read_eq, if_neg (by omega), if_neg (by omega), if_pos e1]
    rcases Nat.lt_or_ge (rg b) 9218868437227405312 with h2 | h2
    · rw [read_num h2, r1, e1]
      show some (if sg a then Ordering.lt else Ordering.gt) = _
      congr 1
      symm
      cases sg b <;> cases sg a <;> simp only [sgn, if_true, if_false, Bool.false_eq_true]
      · exact Int.compare_eq_gt.2 (by omega)
      · exact Int.compare_eq_lt.2 (by omega)
      · exact Int.compare_eq_gt.2 (by omega)
      · exact Int.compare_eq_lt.2 (by omega)
    · have e2 : rg b = 9218868437227405312 := by omega
      have r2 : D.read b = .infinity (sg b) := by rw [read_eq, if_neg (by omega), if_neg (by omega), if_pos e2]
      rw [r1, r2, e1, e2]
      show some (compare (sg b).toNat (sg a).toNat) = _
      congr 1
      cases sg b <;> cases sg a <;> decide
end Go.Proofs.Ytkgicooplgmmpaa
