/- Part of the proof of this seat's closed statement by the abstract machine: tables of closed answers, the start, the run. No condition. -/
import Derived.Test.YtpocgkijdllfbaaGreatDoorM4b
namespace Go.Eng
open Go Go.Proofs
set_option maxRecDepth 100000
theorem nglob : Tryz.prog.globals.size = 6 := by kernel_rfl
/-- A block of closed cells that the heap holds. -/
def HasC (W : World) (g : Nat) (vs : List Value) (e : TypeId) : Prop := ∃ fz, W.heap[g]? = some (.cells ⟨vs⟩ e fz)
theorem setAll_get : ∀ (l : List Value) (t : T Value) (j i : Nat) (u : Value), (T.setAll t j l).get i = some u → (j ≤ i ∧ l[i - j]? = some u) ∨ t.get i = some u
  | [], t, j, i, u, hu => .inr hu
  | x :: l, t, j, i, u, hu => by
    rcases setAll_get l (t.set j x) (j + 1) i u hu with ⟨q1, q2⟩ | q
    · exact .inl ⟨by omega, by rw [show i - j = (i - (j + 1)) + 1 by omega]; simpa using q2⟩
    · rcases T.set_get _ _ _ _ _ q with ⟨rfl, rfl⟩ | ⟨_, q⟩
      · exact .inl ⟨Nat.le_refl _, by simp⟩
      · exact .inr q
theorem laid_OR {σ : Sg} {vs : List Value} {g : Nat} {e : TypeId} {W : World} (h : HasC W g vs e) (hc : closedVs vs = true) (hs : vs.length ≤ 2 ^ 60) :
    ∃ o', W.heap[g]? = some o' ∧ OR σ ⟨g, 0, vs.length, vs.length⟩ (.cells (T.setAll lfv 0 vs) vs.length [] vs.length e (0, 18446744073709551616)) o' := by
  obtain ⟨fz, hw⟩ := h
  refine ⟨_, hw, ⟨vs⟩, fz, rfl, by simp, rfl, by simp, hs, fun i v hi hv => ?_, fun q => by simp at q, fun i _ _ => ⟨Nat.zero_le _, .inr (by simp)⟩, fun q => absurd rfl q⟩
  rcases cellF_lt hv with hq | ⟨hq, hq2⟩
  · rcases setAll_get _ _ _ _ _ hq with ⟨_, q⟩ | q
    · obtain ⟨v', q1, q2⟩ := (closed_VRs σ vs hc).get i v (by simpa using q)
      exact ⟨v', by simpa using q1, q2⟩
    · simp [lfv, T.get_leaf] at q
  · rw [nth_eq] at hq2; simp at hq2
end Go.Eng
