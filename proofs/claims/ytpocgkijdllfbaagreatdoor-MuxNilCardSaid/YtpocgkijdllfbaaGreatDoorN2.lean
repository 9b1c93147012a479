/- Part of the proof of this seat's statement of a nil receiver by the abstract machine. No condition. -/
import Derived.Test.YtpocgkijdllfbaaGreatDoorN1
import Derived.Test.YtpocgkijdllfbaaGreatDoorM7b
namespace Go.Eng
open Go Go.Proofs
set_option maxRecDepth 100000
theorem globs_lt {e0 e1 e2 e3 e4 : TypeId} {b : Nat} {o : AObj} (e : (globs e0 e1 e2 e3 e4).get b = some o) : b < 5 := by
  unfold globs at e
  rcases T.set_get _ _ _ _ _ e with ⟨rfl, _⟩ | ⟨_, e⟩
  · decide
  rcases T.set_get _ _ _ _ _ e with ⟨rfl, _⟩ | ⟨_, e⟩
  · decide
  rcases T.set_get _ _ _ _ _ e with ⟨rfl, _⟩ | ⟨_, e⟩
  · decide
  rcases T.set_get _ _ _ _ _ e with ⟨rfl, _⟩ | ⟨_, e⟩
  · decide
  rcases T.set_get _ _ _ _ _ e with ⟨rfl, _⟩ | ⟨_, e⟩
  · decide
  · simp [lf0, T.get_leaf] at e

/-- Where the blocks lie: the variables' own, and the block that the argument's bytes lie in. -/
def sgS (x : Option Im) : Sg := fun g => if g = 6 then x else sg0 g
theorem sg0_six : sg0 6 = none := by decide
theorem sgS_ne (x : Option Im) {b : Nat} (h : b < 6) : sgS x b = sg0 b := by simp [sgS, show b ≠ 6 by omega]
theorem sgS_le (x : Option Im) : Sg.le sg0 (sgS x) := fun b m e => by
  by_cases hb : b = 6
  · subst hb; rw [sg0_six] at e; simp at e
  · simp [sgS, hb, e]

theorem start_R7 {e0 e1 e2 e3 e4 : TypeId} {W : World} (h : Laid5 e0 e1 e2 e3 e4 W) (x : Option Im) (hx : ∀ m, x = some m → 5 ≤ m.c) : R Tryz.prog 5 (sgS x) (A7 e0 e1 e2 e3 e4) W := by
  have hlt : ∀ b o, (A7 e0 e1 e2 e3 e4).h.get b = some o → b < 5 := fun b o e => globs_lt e
  have hl : ∀ b o m, (A7 e0 e1 e2 e3 e4).h.get b = some o → sgS x b = some m → sg0 b = some m := fun b o m e em => by
    have := hlt b o e
    rwa [sgS_ne x (by omega)] at em
  refine ⟨fun b o m e em => ?_, fun b b' m m' l l' e e' hc => ?_, fun b hb => ?_, fun g hg => ?_, fun b m e hl => ?_, fun b m e hl => ?_, ?_, (by decide : (5:Nat) ≤ 7)⟩
  · obtain ⟨_, _, o', w1, w2⟩ := start_live h b o m e (hl b o m e em)
    exact ⟨o', w1, w2.mono (sgS_le x)⟩
  · obtain ⟨o, q⟩ := Option.isSome_iff_exists.1 l
    obtain ⟨o', q'⟩ := Option.isSome_iff_exists.1 l'
    rw [← (sg0_some (hl _ _ _ q e)).2, ← (sg0_some (hl _ _ _ q' e')).2, hc]
  · have hb : 7 ≤ b := hb
    have h6 : b ≠ 6 := by omega
    simp only [sgS, h6, if_false]
    cases hq : sg0 b with
    | none => rfl
    | some m => have := (sg0_some hq).1; omega
  · obtain ⟨m, q1, q2⟩ := (start_R h).glob g hg
    exact ⟨m, sgS_le x _ _ q1, q2⟩
  · have hl : 5 ≤ b := hl
    by_cases hb : b = 6
    · subst hb; exact hx m (by simpa [sgS] using e)
    · have e : sg0 b = some m := by simpa [sgS, hb] using e
      rw [(sg0_some e).2]; exact hl
  · have hl : b < 5 := hl
    rw [sgS_ne x (by omega)] at e
    rw [(sg0_some e).2]; exact hl
  · exact (start_R h).base_le

theorem good4 : fnGood Tryz.prog 4 = true := by kernel_rfl

/-- A step, as the model has it. -/
def stepV (a b c d : Int) (on : Bool) (p : Option Addr) (len cap : Nat) : Value := .agg ⟨[.int .i64 a, .int .i64 b, .int .i64 c, .int .i64 d, .bool on, .slice p len cap]⟩

theorem nil_go {e0 e1 e2 e3 e4 : TypeId} {W : World} (h : Laid5 e0 e1 e2 e3 e4 W) (x : Option Im) (hx : ∀ m, x = some m → 5 ≤ m.c) {a b c d : Int} {on : Bool} {p p' : Option Addr} {len cap cap' : Nat}
    (hv : VR (sgS x) (.slice p len cap) (.slice p' len cap')) :
    Calls Tryz.prog 4 ⟨[stepV a b c d on p' len cap']⟩ W fun e W1 => e = .returned (.bool true) ∧ W.heap.size ≤ W1.heap.size ∧ (∀ c, c < W.heap.size → W1.heap[c]? = W.heap[c]?) ∧ Rest W W1 := by
  obtain ⟨fn, cd, h1, h2, h3⟩ := fnGood_spec good4
  have e := nil_run e0 e1 e2 e3 e4 a b c d on p len cap
  have hvs : VRs (sgS x) [stepV a b c d on p len cap] [stepV a b c d on p' len cap'] :=
    .cons (.agg (.cons (.atom rfl) (.cons (.atom rfl) (.cons (.atom rfl) (.cons (.atom rfl) (.cons (.atom rfl) (.cons hv .nil))))))) .nil
  cases hq : ev Tryz.prog kn2 100001 (.call 4 [.agg ⟨[.int .i64 a, .int .i64 b, .int .i64 c, .int .i64 d, .bool on, .slice p len cap]⟩] (A7 e0 e1 e2 e3 e4)) with
  | code q1 q2 q3 => rw [hq] at e; simp [okVal] at e
  | none => rw [hq] at e; simp [okVal] at e
  | val u A1 =>
    rw [hq] at e
    have hu := beqV_eq _ _ e
    subst hu
    refine (ev_calls kn2_ok mixed h1 h2 h3 rfl hq (start_R7 h x hx) hvs).mono fun en W1 ⟨σ1, v', he, _, hE, hvv⟩ => ?_
    rw [hvv.eq_of_closed rfl] at he
    refine ⟨he, hE.size, fun c hc => hE.frame c hc ?_, hE.rest⟩
    rintro ⟨b, m, q, q2, _, q3⟩
    obtain ⟨o, ho⟩ := Option.isSome_iff_exists.1 q
    have := globs_lt ho
    have q3 : 5 ≤ b := q3
    omega

/-- A nil multiplexer, whatever the step. -/
theorem nil_any {e0 e1 e2 e3 e4 : TypeId} {W : World} (h : Laid5 e0 e1 e2 e3 e4 W) {a b c d : Int} {on : Bool} {p : Option Addr} {len cap : Nat} (hp : p = none ∨ ∃ k o, p = some ⟨k, o, none⟩ ∧ len ≤ cap) :
    Calls Tryz.prog 4 ⟨[stepV a b c d on p len cap]⟩ W fun e W1 => e = .returned (.bool true) ∧ W.heap.size ≤ W1.heap.size ∧ (∀ c, c < W.heap.size → W1.heap[c]? = W.heap[c]?) ∧ Rest W W1 := by
  rcases hp with rfl | ⟨k, o, rfl, hle⟩
  · exact nil_go h none (fun m e => by simp at e) (p := none) (.atom rfl)
  · by_cases hk : 5 ≤ k
    · exact nil_go h (some ⟨k, 0, 0, 0⟩) (fun m e => by simp at e; subst e; exact hk) (p := some ⟨6, o, none⟩) (cap := cap)
        (.slice (m := ⟨k, 0, 0, 0⟩) (by simp [sgS]) hle (Nat.le_refl _) (.inl rfl) (.inl rfl))
    · obtain ⟨m, q1, q2, q3⟩ := (start_R7 h none (fun m e => by simp at e)).glob k (by rw [nglob]; omega)
      have := VR.slice (σ := sgS none) (b := k) (o := o) (o' := o) (len := len) (cap := cap) (cap' := cap) q1 hle (Nat.le_refl _) (.inl rfl) (.inl (by rw [q3]; rfl))
      rw [q2] at this
      exact nil_go h none (fun m e => by simp at e) this
end Go.Eng
