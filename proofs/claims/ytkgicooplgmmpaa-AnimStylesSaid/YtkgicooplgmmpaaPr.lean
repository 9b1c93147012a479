/-
  The plain laws of AnimRows: at rest is near.
-/
import Derived.Test.YtkgicooplgmmpaaPe
namespace Go.Proofs.Ytkgicooplgmmpaa

theorem W64_lift (f : Nat → Nat → Option Nat) (hnum : ∀ x y r, f x y = some r → fl r = some r ∧ fl x = some x ∧ fl y = some y) (hlt : ∀ x y r, f x y = some r → r < 2 ^ 64) (x y : FL) : W64 (lift2 f x y) := by
  intro r hr
  refine ⟨?_, NN_lift f hnum x y r hr⟩
  cases x with
  | none => simp [lift2] at hr
  | some a =>
    cases y with
    | none => simp [lift2] at hr
    | some b => exact hlt a b r (by simpa [lift2] using hr)
theorem W64_sub (x y : FL) : W64 (fsub x y) := W64_lift _ (fun _ _ _ => sub_num) (fun _ _ _ h => Ieee.Format.sub_lt D h) x y
theorem W64_add (x y : FL) : W64 (fadd x y) := W64_lift _ (fun _ _ _ => add_num) (fun _ _ _ h => Ieee.Format.add_lt D h) x y

theorem fle_num {x y : FL} (h : fle x y = true) : x ≠ none ∧ y ≠ none := by
  cases x <;> cases y <;> simp [fle, ford] at h ⊢
theorem restL_ok {ok : Nat → Bool} : ∀ {f j k : Nat}, restL ok f j = some k → ok k = true
  | 0, _, _, h => by simp [restL] at h
  | f + 1, j, k, h => by
    unfold restL at h
    split at h
    · cases h; assumption
    · exact restL_ok h

theorem near_iff {d near : FL} (hd : W64 d) (hn : W64 near) : okP near d (fl 0) = (fle d near && fle (fneg d) near) := by
  cases d with
  | none => unfold okP; simp [fabs, fneg, fle, ford]
  | some x =>
    obtain ⟨hx1, hx2⟩ := hd x rfl
    cases near with
    | none =>
      have h1 : ∀ x, fle x none = false := fun x => by cases x <;> rfl
      unfold okP; simp [h1]
    | some n =>
      obtain ⟨hn1, hn2⟩ := hn n rfl
      obtain ⟨g1, g2⟩ := sr_neg hx1
      obtain ⟨a1, a2⟩ := sr_abs x
      have e0 : fabs (fl 0) = some 0 := by decide
      unfold okP
      rw [e0]
      show (fle (some (x % 9223372036854775808)) (some n) && fle (some 0) (some n)) = (fle (some x) (some n) && fle (some (Op.negFloat .f64 x)) (some n))
      rw [fle_some (by rw [a2]; exact hx2) hn2, fle_some (by decide) hn2, fle_some hx2 hn2, fle_some (by rw [g2]; exact hx2) hn2, a1, g1, show sr 0 = 0 from by decide, rg_sr, Bool.eq_iff_iff]
      simp
      omega
theorem rests_zero {a b c d near : FL} (hn : W64 near) (hR : rightP a b c d = true) (h1 : fle (fsub a b) near = true) (h2 : fle (fneg (fsub a b)) near = true) : restsP a b c d near = some 0 := by
  have hnn : feq near near = true := by
    have := (fle_num h1).2
    cases near with
    | none => exact absurd rfl this
    | some n => rw [feq_some (hn n rfl).2 (hn n rfl).2]; simp
  unfold restsP
  rw [hR, hnn]
  have hok : offOk okP a b c d near 0 = true := by
    show okP near (fsub a b) (fl 0) = true
    rw [near_iff (W64_sub _ _) hn, h1, h2]; rfl
  show restL (offOk okP a b c d near) (65536 + 1) 0 = some 0
  unfold restL
  rw [hok]; rfl
theorem rests_pos {a b c d near : FL} {k : Nat} (hn : W64 near) (h : restsP a b c d near = some k) (hno : (fle (fsub a b) near && fle (fneg (fsub a b)) near) = false) : 0 < k := by
  rcases Nat.eq_zero_or_pos k with rfl | hk
  · exfalso
    unfold restsP at h
    split at h
    · have hok := restL_ok h
      have : okP near (fsub a b) (fl 0) = true := hok
      rw [near_iff (W64_sub _ _) hn, hno] at this
      cases this
    · cases h
  · exact hk
theorem rests_near {a b c d near : FL} {k : Nat} (h : restsP a b c d near = some k) : fle (fabs (off c d (fsub a b) (fl 0) k).1) near = true := by
  unfold restsP at h
  split at h
  · have hok := restL_ok h
    unfold offOk okP at hok
    simp at hok
    exact hok.1
  · cases h
theorem rests_lt {a b c d near : FL} {k : Nat} (h : restsP a b c d near = some k) : k ≤ 65536 := by
  unfold restsP at h
  split at h
  · have key : ∀ {ok : Nat → Bool} {f j k : Nat}, restL ok f j = some k → k < j + f := by
      intro ok f
      induction f with
      | zero => intro j k h; simp [restL] at h
      | succ f ih =>
        intro j k h
        unfold restL at h
        split at h
        · cases h; omega
        · have := ih h; omega
    have := key h
    omega
  · cases h
theorem fin_rg {x : Nat} (h : finP (fl x) = true) : fl x = some x ∧ rg x < 9218868437227405312 := by
  rw [fl_eq] at h ⊢
  by_cases hr : rg x ≤ 9218868437227405312
  · rw [if_pos hr] at h ⊢
    refine ⟨rfl, ?_⟩
    have ha := sr_abs x
    have hm := sr_low (y := 9218868437227405311) (by decide)
    unfold finP at h
    rw [feq_some hr hr] at h
    have h' : (!(!decide (sr x = sr x) || fgt (some (x % 9223372036854775808)) (fl 9218868437227405311))) = true := h
    rw [fl_eq 9218868437227405311, if_pos (by rw [hm.2.1]; decide), fgt_some (by rw [ha.2]; exact hr) (by rw [hm.2.1]; decide), ha.1, hm.1] at h'
    simp at h'
    omega
  · rw [if_neg hr] at h; simp [finP, feq, ford] at h
theorem sr_inf {x : Nat} (h : rg x = 9218868437227405312) : D.read x = .infinity (sg x) := by rw [read_eq, if_neg (by omega), if_neg (by omega), if_pos h]
theorem sr_word_inf (s : Bool) : rg (D.write (.infinity s)) = 9218868437227405312 ∧ sr (D.write (.infinity s)) = if s then -9218868437227405312 else 9218868437227405312 := by cases s <;> decide

/-- What is told at rest lies near. -/
theorem rest_value {b n : Nat} {A : FL} (hb : rg b < 9218868437227405312) (hn : W64 (some n)) (hA : NN A) (h : fle (fabs A) (some n) = true) :
    ∃ r1 r2, D.sub b n = some r1 ∧ D.add b n = some r2 ∧ fge (fadd (some b) A) (some r1) = true ∧ fle (fadd (some b) A) (some r2) = true := by
  have hn2 := (hn n rfl).2
  cases A with
  | none => have := (fle_num h).1; exact absurd rfl this
  | some x =>
    have hx := hA x rfl
    obtain ⟨a1, a2⟩ := sr_abs x
    have h' : fle (some (x % 9223372036854775808)) (some n) = true := h
    rw [fle_some (by rw [a2]; exact hx) hn2, a1] at h'
    have hle : (rg x : Int) ≤ sr n := by simpa using h'
    rcases Nat.lt_or_ge (rg n) 9218868437227405312 with hf | hf
    · have hxn : rg x < 9218868437227405312 := by have := rg_sr n; omega
      obtain ⟨r, e1, e2, e3⟩ := add_fin hb hxn
      obtain ⟨r1, f1, f2, f3⟩ := sub_fin hb hf
      obtain ⟨r2, g1, g2, g3⟩ := add_fin hb hf
      have hV : (V x).natAbs ≤ (V n).natAbs := by rw [V_abs, V_abs]; exact val_le (by rw [← rg_sr, ← rg_sr]; have := rg_sr n; omega)
      have hVn : V n = val (rg n) := V_of_sr (by have := rg_sr n; omega)
      have hS : (0 : Int) ≤ (S1 : Int) := by omega
      refine ⟨r1, r2, f1, g1, ?_, ?_⟩
      · have : fadd (some b) (some x) = some r := e1
        rw [this, fge_some e2 f2, e3, f3]
        have := RM_mono (Int.mul_le_mul_of_nonneg_right (show V b - V n ≤ V b + V x by omega) hS)
        simpa using this
      · have : fadd (some b) (some x) = some r := e1
        rw [this, fle_some e2 g2, e3, g3]
        have := RM_mono (Int.mul_le_mul_of_nonneg_right (show V b + V x ≤ V b + V n by omega) hS)
        simpa using this
    · have hni : rg n = 9218868437227405312 := by omega
      have hsg : sg n = false := by
        cases hs : sg n with
        | false => rfl
        | true => unfold sr at hle; rw [hs, hni] at hle; simp at hle; omega
      have rb := read_num hb
      have rn := sr_inf hni
      rw [hsg] at rn
      have d1 : D.sub b n = some (D.write (.infinity true)) := by
        unfold Ieee.Format.sub; rw [rb, rn]; rfl
      have d2 : D.add b n = some (D.write (.infinity false)) := by
        unfold Ieee.Format.add; rw [rb, rn]; rfl
      have hr : ∃ r, fadd (some b) (some x) = some r ∧ rg r ≤ 9218868437227405312 := by
        rcases Nat.lt_or_ge (rg x) 9218868437227405312 with hxf | hxf
        · obtain ⟨r, e1, e2, _⟩ := add_fin hb hxf
          exact ⟨r, e1, e2⟩
        · have rx := sr_inf (x := x) (by omega)
          refine ⟨D.write (.infinity (sg x)), ?_, by rw [(sr_word_inf _).1]; exact Nat.le_refl _⟩
          show Option.map _ ((D.read b).sum (D.read x)) = _
          rw [rb, rx]; rfl
      obtain ⟨r, e1, e2⟩ := hr
      have hbd := rg_sr r
      obtain ⟨i1, i2⟩ := sr_word_inf true
      obtain ⟨j1, j2⟩ := sr_word_inf false
      refine ⟨_, _, d1, d2, ?_, ?_⟩
      · rw [e1, fge_some e2 (by rw [i1]; exact Nat.le_refl _), i2]; simp; omega
      · rw [e1, fle_some e2 (by rw [j1]; exact Nat.le_refl _), j2]; simp; omega
end Go.Proofs.Ytkgicooplgmmpaa
