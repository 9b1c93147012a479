/-
  The plain laws: both texts' easings, rows and springs are alike.
-/
import Derived.Test.YtkgicooplgmmpaaPl
import Derived.Test.YtkgicooplgmmpaaRe
namespace Go.Proofs.Ytkgicooplgmmpaa

theorem N_self {x : FL} {k : Nat} (h : N x k) : feq x x = true := by
  obtain ⟨r, rfl, hr, _⟩ := h
  rw [feq_some hr hr]; simp
theorem ease_zero (way : Int) : feq (easeG ffloor way (some 0)) (easeG stepR way (some 9223372036854775808)) = true := by
  unfold easeG
  by_cases h1 : (way == 1) = true
  · simp only [h1, if_true]; decide +kernel
  by_cases h2 : (way == 2) = true
  · simp only [h1, h2, if_true, Bool.false_eq_true, if_false]; decide +kernel
  by_cases h3 : (way == 3) = true
  · simp only [h1, h2, h3, if_true, Bool.false_eq_true, if_false]; decide +kernel
  by_cases h4 : (way == 4) = true
  · simp only [h1, h2, h3, h4, if_true, Bool.false_eq_true, if_false]; decide +kernel
  by_cases h5 : (way == 5) = true
  · simp only [h1, h2, h3, h4, h5, if_true, Bool.false_eq_true, if_false]; decide +kernel
  by_cases h6 : (way == 6) = true
  · simp only [h1, h2, h3, h4, h5, h6, if_true, Bool.false_eq_true, if_false]; decide +kernel
  · simp only [h1, h2, h3, h4, h5, h6, Bool.false_eq_true, if_false]; decide +kernel

/-- THE LAW OF AnimEase. -/
theorem ease_law (way : Int) {t : FL} (ht : W64 t) : feq (easeP way t) (easeR way t) = true := by
  rw [easeP_eq, easeR_eq]
  obtain ⟨y, hy, h1, h2⟩ := unit_cases t ht
  rw [h1]
  rcases h2 with h2 | ⟨rfl, _, h2⟩
  · rw [h2, easeG_eq hy]
    obtain ⟨k, hk⟩ := ease_num way hy
    exact N_self hk
  · rw [h2]; exact ease_zero way

theorem easePR {t : FL} (way : Int) (ht : W64 t) (hn : t ≠ some 9223372036854775808) : easeP way t = easeR way t := by
  rw [easeP_eq, easeR_eq]
  obtain ⟨y, hy, h1, h2⟩ := unit_cases t ht
  rcases h2 with h2 | ⟨_, h3, _⟩
  · rw [h1, h2, easeG_eq hy]
  · exact absurd h3 hn

/-- A word without a sign. -/
def Pos (t : FL) : Prop := ∀ x, t = some x → x < 9223372036854775808 ∧ rg x ≤ 9218868437227405312
theorem Pos.w {t : FL} (h : Pos t) : W64 t := fun x hx => ⟨by have := (h x hx).1; omega, (h x hx).2⟩
theorem word_pos (k : Nat) (h : k ≤ 9218868437227405312) : D.word false k < 9223372036854775808 ∧ rg (D.word false k) ≤ 9218868437227405312 ∧ sg (D.word false k) = false := by
  have e : D.word false k = k := rfl
  obtain ⟨_, h2, h3⟩ := sr_low (y := k) (by omega)
  rw [e, h2, h3]; exact ⟨by omega, h, rfl⟩
theorem write_pos (d : Ieee.Datum) (hn : d.isNaN = false) (hs : d.neg = false) : D.write d < 9223372036854775808 ∧ rg (D.write d) ≤ 9218868437227405312 ∧ sg (D.write d) = false := by
  cases d with
  | nan s t => simp [Ieee.Datum.isNaN] at hn
  | infinity s =>
    have : s = false := hs
    subst this
    exact word_pos _ (by decide)
  | number s m e =>
    have : s = false := hs
    subst this
    have hk : ∃ k, k ≤ 9218868437227405312 ∧ D.write (.number false m e) = D.word false k := by
      show ∃ k, k ≤ 9218868437227405312 ∧ D.nearest false m e = D.word false k
      unfold Ieee.Format.nearest
      split
      · exact ⟨0, by decide, rfl⟩
      · exact ⟨_, by rw [← infRung_D]; exact Nat.min_le_right _ _, rfl⟩
    obtain ⟨k, hk, e⟩ := hk
    rw [e]; exact word_pos k hk
theorem quotient_neg {g : Nat} {a b d : Ieee.Datum} (ha : a.neg = false) (hb : b.neg = false) (h : a.quotient g b = some d) : d.neg = false := by
  cases a with
  | nan s t => cases b <;> simp [Ieee.Datum.quotient] at h
  | infinity s =>
    cases b with
    | number t n j => simp [Ieee.Datum.quotient] at h; subst h; have h1 : s = false := ha; have h2 : t = false := hb; subst h1; subst h2; rfl
    | infinity t => simp [Ieee.Datum.quotient] at h
    | nan t u => simp [Ieee.Datum.quotient] at h
  | number s m i =>
    have h1 : s = false := ha
    subst h1
    cases b with
    | nan t u => simp [Ieee.Datum.quotient] at h
    | infinity t => have h2 : t = false := hb; subst h2; simp [Ieee.Datum.quotient] at h; subst h; rfl
    | number t n j =>
      have h2 : t = false := hb
      subst h2
      simp only [Ieee.Datum.quotient] at h
      split at h
      · split at h
        · cases h
        · cases h; rfl
      · cases h; rfl
theorem read_neg (b : Nat) : (D.read b).neg = sg b := by
  rw [read_eq]
  split
  · rfl
  · split
    · rfl
    · split <;> rfl
theorem fi_pos (n : Nat) : ∃ x, fi n = some x ∧ sg x = false ∧ rg x ≤ 9218868437227405312 := by
  have h := write_pos (.number (decide ((n : Int) < 0)) n 0) rfl (by show decide ((n : Int) < 0) = false; simp)
  have e : floatOfInt .f64 (n : Int) = D.write (.number (decide ((n : Int) < 0)) n 0) := rfl
  refine ⟨_, ?_, h.2.2, h.2.1⟩
  unfold fi
  rw [fl_eq, e, if_pos h.2.1]
theorem fdiv_pos (i n : Nat) : Pos (fdiv (fi i) (fi n)) := by
  obtain ⟨x, hx, sx, _⟩ := fi_pos i
  obtain ⟨y, hy, sy, _⟩ := fi_pos n
  rw [hx, hy]
  intro r hr
  have hr : D.div x y = some r := hr
  unfold Ieee.Format.div at hr
  have nx := read_neg x
  have ny := read_neg y
  rw [sx] at nx
  rw [sy] at ny
  cases hq : (D.read x).quotient (D.fractionBits + 2) (D.read y) with
  | none => rw [hq] at hr; simp at hr
  | some d =>
    rw [hq] at hr
    simp at hr
    subst hr
    have hnum := (quotient_num hq).1
    have hneg : d.neg = false := quotient_neg nx ny hq
    obtain ⟨h1, h2, _⟩ := write_pos d hnum hneg
    exact ⟨h1, h2⟩
theorem tween_law (way : Int) (a b : FL) (n : Nat) : tweenL (easeP way) a b n = tweenL (easeR way) a b n := by
  unfold tweenL
  refine List.map_congr_left fun i _ => ?_
  unfold tweenV
  have e := easePR way (fdiv_pos (i + 1) n).w fun h => by have := (fdiv_pos (i + 1) n _ h).1; omega
  rw [e]

/-- No word of a NaN. -/
def NN (t : FL) : Prop := ∀ x, t = some x → rg x ≤ 9218868437227405312
theorem NN_fl (x : Nat) : NN (fl x) := by
  intro y hy
  rw [fl_eq] at hy
  split at hy
  · cases hy; assumption
  · cases hy
theorem NN_lift (f : Nat → Nat → Option Nat) (hnum : ∀ x y r, f x y = some r → fl r = some r ∧ fl x = some x ∧ fl y = some y) (x y : FL) : NN (lift2 f x y) := by
  intro r hr
  cases x with
  | none => simp [lift2] at hr
  | some a =>
    cases y with
    | none => simp [lift2] at hr
    | some b =>
      have h : f a b = some r := by simpa [lift2] using hr
      exact NN_fl r r (hnum a b r h).1
theorem NN_add (x y : FL) : NN (fadd x y) := NN_lift _ (fun _ _ _ => add_num) x y
theorem NN_sub (x y : FL) : NN (fsub x y) := NN_lift _ (fun _ _ _ => sub_num) x y
theorem NN_mul (x y : FL) : NN (fmul x y) := NN_lift _ (fun _ _ _ => mul_num) x y
theorem NN_off (c d A B : FL) (hA : NN A) (hB : NN B) : ∀ k, NN (off c d A B k).1 ∧ NN (off c d A B k).2
  | 0 => ⟨hA, hB⟩
  | _ + 1 => ⟨NN_sub _ _, NN_add _ _⟩

theorem sr_abs (x : Nat) : sr (x % 9223372036854775808) = rg x ∧ rg (x % 9223372036854775808) = rg x := by
  obtain ⟨h1, h2, _⟩ := sr_low (y := x % 9223372036854775808) (Nat.mod_lt _ (by decide))
  rw [h1, h2]; exact ⟨rfl, rfl⟩
theorem fin_eq {t : FL} (ht : NN t) : finP t = finR t := by
  cases t with
  | none => decide
  | some x =>
    have hr := ht x rfl
    have ha := sr_abs x
    unfold finP finR
    rw [feq_some hr hr]
    show (!(!decide (sr x = sr x) || fgt (some (x % 9223372036854775808)) (fl 9218868437227405311))) = _
    have hm := sr_low (y := 9218868437227405311) (by decide)
    rw [fl_eq 9218868437227405311, if_pos (by rw [hm.2.1]; decide), fgt_some (by rw [ha.2]; exact hr) (by rw [hm.2.1]; decide), ha.1, hm.1]
    rcases Nat.lt_or_ge (rg x) 9218868437227405312 with h | h
    · obtain ⟨r, h1, h2, h3⟩ := sub_fin (x := x) (y := x) h h
      rw [Int.sub_self, Int.zero_mul, RM_zero] at h3
      have e : fsub (some x) (some x) = some r := h1
      rw [e, fl0, feq_some h2 (by decide), h3]
      have : ¬ (9218868437227405311 : Int) < (rg x : Int) := by omega
      simp [this]
      decide
    · have e : rg x = 9218868437227405312 := by omega
      have r1 : D.read x = .infinity (sg x) := by rw [read_eq, if_neg (by omega), if_neg (by omega), if_pos e]
      have e2 : fsub (some x) (some x) = none := by
        show Option.map _ ((D.read x).sum (D.read x).opposite) = _
        rw [r1]
        cases sg x <;> rfl
      rw [e2]
      have : (9218868437227405311 : Int) < (rg x : Int) := by omega
      simp [this, feq, ford]
theorem abs_le {t : FL} (ht : NN t) {n m : Nat} (hn : rg n ≤ 9218868437227405312) (hm : rg m ≤ 9218868437227405312) (h : sr m = - sr n) : fle (fabs t) (some n) = (fge t (some m) && fle t (some n)) := by
  cases t with
  | none => rfl
  | some x =>
    have hr := ht x rfl
    have ha := sr_abs x
    show fle (some (x % 9223372036854775808)) (some n) = _
    rw [fle_some (by rw [ha.2]; exact hr) hn, fge_some hr hm, fle_some hr hn, ha.1, h, rg_sr, Bool.eq_iff_iff]
    simp
    omega
theorem right_eq {a b c d : FL} (ha : NN a) (hb : NN b) (hc : NN c) : rightP a b c d = rightR a b c d := by
  unfold rightP rightR
  have e1 : fl 4652007308841189376 = some 4652007308841189376 := by decide
  have e2 : fl 13875379345695965184 = some 13875379345695965184 := by decide
  rw [fin_eq ha, fin_eq hb, e1, e2, abs_le hc (m := 13875379345695965184) (by decide) (by decide) (by decide)]
  simp only [Bool.and_assoc]

theorem sr_neg {b : Nat} (h : b < 18446744073709551616) : sr (Op.negFloat .f64 b) = - sr b ∧ rg (Op.negFloat .f64 b) = rg b := by
  have h1 : rg (Op.negFloat .f64 b) = rg b := neg_mod b
  have h2 : sg (Op.negFloat .f64 b) = !sg b := by
    have e : Op.negFloat .f64 b = b ^^^ 2 ^ 63 := rfl
    unfold sg
    rw [e, show (9223372036854775808 : Nat) = 2 ^ 63 from rfl, Nat.xor_div_two_pow]
    have : b / 2 ^ 63 = 0 ∨ b / 2 ^ 63 = 1 := by omega
    rcases this with h3 | h3 <;> rw [h3] <;> decide
  refine ⟨?_, h1⟩
  unfold sr
  rw [h1, h2]
  cases sg b <;> simp
theorem ok_eq {near A B : FL} (hn : W64 near) (hA : NN A) (hB : NN B) : okP near A B = okR near A B := by
  cases near with
  | none =>
    have h1 : ∀ x, fle x none = false := fun x => by cases x <;> rfl
    unfold okP okR
    simp [h1]
  | some n =>
    obtain ⟨hn1, hn2⟩ := hn n rfl
    obtain ⟨h1, h2⟩ := sr_neg hn1
    unfold okP okR
    show (fle (fabs A) (some n) && fle (fabs B) (some n)) = (fge A (some (Op.negFloat .f64 n)) && fle A (some n) && fge B (some (Op.negFloat .f64 n)) && fle B (some n))
    rw [abs_le hA hn2 (by rw [h2]; exact hn2) h1, abs_le hB hn2 (by rw [h2]; exact hn2) h1]
    simp only [Bool.and_assoc]
theorem rests_eq {a b c d near : FL} (ha : NN a) (hb : NN b) (hc : NN c) (hn : W64 near) : restsP a b c d near = restsR a b c d near := by
  unfold restsP restsR
  rw [right_eq ha hb hc]
  have e : offOk okP a b c d near = offOk okR a b c d near := by
    funext k
    unfold offOk
    have h := NN_off c d (fsub a b) (fl 0) (NN_sub _ _) (NN_fl 0) k
    exact ok_eq hn h.1 h.2
  rw [e]
end Go.Proofs.Ytkgicooplgmmpaa
