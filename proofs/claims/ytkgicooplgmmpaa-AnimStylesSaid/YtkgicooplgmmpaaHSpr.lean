/- How a spring that comes in is opened. -/
import Derived.Test.YtkgicooplgmmpaaFr
import Derived.Test.YtkgicooplgmmpaaLa
namespace Go.Proofs.Ytkgicooplgmmpaa
open Go.ChangeShapes Go.WideShapes Go.ChangeAt Go.RowKit Go.Joins

theorem trod_float {H : Type} {enc : TypeId × Value → H} {P : Program} {w : World} {base : Nat} {spare : Nat → Bool} {held : Bool} {fuel : Nat} {t : TypeId} {cs : List Value} {x : DataW H × List MemPlace} {k : FloatKind} (ht : P.underlying t = some (.float k))
    (h : DataW.trod enc P w base spare held fuel t cs = some x) : ∃ b, cs = [.float k b] ∧ x = (.lit (.float k b), []) ∧ (Lit.float k b).wf = true := by
  cases fuel with
  | zero => simp [DataW.trod] at h
  | succ n =>
    unfold DataW.trod at h
    rw [ht] at h
    split at h <;> simp_all

theorem cellsSpring : Try.prog.cellsOf 33 = 4 := by kernel_rfl
theorem open_spring {H : Type} {enc : TypeId × Value → H} {W : World} {spare : Nat → Bool} {held : Bool} {base : Nat} {r : Reach} {b0 : Nat} {v : Value} {d : DataW H} {p : List MemPlace} (hv : Value.okWide Try.prog W r b0 33 v) (h : DataW.Trod enc Try.prog W base spare held 33 v d p) :
    ∃ a b c d, v = spr a b c d := by
  obtain ⟨v0, v1, v2, v3, y0, y1, y2, y3, n, rfl, _, _, h0, h1, h2, h3⟩ := open_agg4 Try.underlying33 (by kernel_rfl) cellsSpring hv h
  obtain ⟨a, e0, _⟩ := trod_float Try.underlying22 h0
  obtain ⟨b, e1, _⟩ := trod_float Try.underlying22 h1
  obtain ⟨c, e2, _⟩ := trod_float Try.underlying22 h2
  obtain ⟨d', e3, _⟩ := trod_float Try.underlying22 h3
  cases e0; cases e1; cases e2; cases e3
  exact ⟨a, b, c, d', rfl⟩
end Go.Proofs.Ytkgicooplgmmpaa
