/- Part of the proof of this seat's closed statement by the abstract machine: tables of closed answers, the start, the run. No condition. -/
import Derived.Test.YtpocgkijdllfbaaGreatDoorM5b
namespace Go.Eng
open Go Go.Proofs
set_option maxRecDepth 100000
def laid0 : List Value := [.int .i64 1, .int .i64 2, .int .i64 3, .int .i64 4, .int .i64 5, .int .i64 7, .int .i64 8, .int .i64 9]
def laid1 : List Value := [.int .i64 22, .int .i64 22, .int .i64 23, .int .i64 24, .int .i64 25, .int .i64 27, .int .i64 28, .int .i64 29]
def laid2 : List Value := [.int .u64 1, .int .u64 10, .int .u64 100, .int .u64 1000, .int .u64 10000, .int .u64 100000, .int .u64 1000000, .int .u64 10000000, .int .u64 100000000, .int .u64 1000000000, .int .u64 10000000000, .int .u64 100000000000, .int .u64 1000000000000, .int .u64 10000000000000, .int .u64 100000000000000, .int .u64 1000000000000000, .int .u64 10000000000000000, .int .u64 100000000000000000, .int .u64 1000000000000000000, .int .u64 10000000000000000000]
def laid3 : List Value := [.int .u8 0, .int .u8 1, .int .u8 28, .int .u8 2, .int .u8 29, .int .u8 14, .int .u8 24, .int .u8 3, .int .u8 30, .int .u8 22, .int .u8 20, .int .u8 15, .int .u8 25, .int .u8 17, .int .u8 4, .int .u8 8, .int .u8 31, .int .u8 27, .int .u8 13, .int .u8 23, .int .u8 21, .int .u8 19, .int .u8 16, .int .u8 7, .int .u8 26, .int .u8 12, .int .u8 18, .int .u8 6, .int .u8 11, .int .u8 5, .int .u8 10, .int .u8 9]
def laid4 : List Value := [.int .u8 0, .int .u8 1, .int .u8 56, .int .u8 2, .int .u8 57, .int .u8 49, .int .u8 28, .int .u8 3, .int .u8 61, .int .u8 58, .int .u8 42, .int .u8 50, .int .u8 38, .int .u8 29, .int .u8 17, .int .u8 4, .int .u8 62, .int .u8 47, .int .u8 59, .int .u8 36, .int .u8 45, .int .u8 43, .int .u8 51, .int .u8 22, .int .u8 53, .int .u8 39, .int .u8 33, .int .u8 30, .int .u8 24, .int .u8 18, .int .u8 12, .int .u8 5, .int .u8 63, .int .u8 55, .int .u8 48, .int .u8 27, .int .u8 60, .int .u8 41, .int .u8 37, .int .u8 16, .int .u8 46, .int .u8 35, .int .u8 44, .int .u8 21, .int .u8 52, .int .u8 32, .int .u8 23, .int .u8 11, .int .u8 54, .int .u8 26, .int .u8 40, .int .u8 15, .int .u8 34, .int .u8 20, .int .u8 31, .int .u8 10, .int .u8 25, .int .u8 14, .int .u8 19, .int .u8 9, .int .u8 13, .int .u8 8, .int .u8 7, .int .u8 6]
structure Laid5 (e0 e1 e2 e3 e4 : TypeId) (W : World) : Prop where
  b0 : HasC W 0 laid0 e0
  b1 : HasC W 1 laid1 e1
  b2 : HasC W 2 laid2 e2
  b3 : HasC W 3 laid3 e3
  b4 : HasC W 4 laid4 e4
def sg0 : Sg := fun g => if g = 0 then some ⟨0, 0, 8, 8⟩ else if g = 1 then some ⟨1, 0, 8, 8⟩ else if g = 2 then some ⟨2, 0, 20, 20⟩ else if g = 3 then some ⟨3, 0, 32, 32⟩ else if g = 4 then some ⟨4, 0, 64, 64⟩ else if g = 5 then some ⟨5, 0, 0, 0⟩ else none
theorem start_live {e0 e1 e2 e3 e4 : TypeId} {W : World} (h : Laid5 e0 e1 e2 e3 e4 W) : ∀ b o m, (A0 e0 e1 e2 e3 e4).h.get b = some o → sg0 b = some m → b < 5 ∧ m.c = b ∧ ∃ o', W.heap[m.c]? = some o' ∧ OR sg0 m o o' := by
  intro b o m e em
  have e : (globs e0 e1 e2 e3 e4).get b = some o := e
  unfold globs at e
  rcases T.set_get _ _ _ _ _ e with ⟨rfl, rfl⟩ | ⟨_, e⟩
  · simp [sg0] at em; subst em; exact ⟨by decide, rfl, laid_OR h.b4 (by decide) (by decide)⟩
  rcases T.set_get _ _ _ _ _ e with ⟨rfl, rfl⟩ | ⟨_, e⟩
  · simp [sg0] at em; subst em; exact ⟨by decide, rfl, laid_OR h.b3 (by decide) (by decide)⟩
  rcases T.set_get _ _ _ _ _ e with ⟨rfl, rfl⟩ | ⟨_, e⟩
  · simp [sg0] at em; subst em; exact ⟨by decide, rfl, laid_OR h.b2 (by decide) (by decide)⟩
  rcases T.set_get _ _ _ _ _ e with ⟨rfl, rfl⟩ | ⟨_, e⟩
  · simp [sg0] at em; subst em; exact ⟨by decide, rfl, laid_OR h.b1 (by decide) (by decide)⟩
  rcases T.set_get _ _ _ _ _ e with ⟨rfl, rfl⟩ | ⟨_, e⟩
  · simp [sg0] at em; subst em; exact ⟨by decide, rfl, laid_OR h.b0 (by decide) (by decide)⟩
  · simp [lf0, T.get_leaf] at e
end Go.Eng
