/- How a style that comes in is opened. -/
import Derived.Test.YtkgicooplgmmpaaHSpr
import Derived.Test.YtkgicooplgmmpaaMe
import Derived.ChangeArms
namespace Go.Proofs.Ytkgicooplgmmpaa
open Go.ChangeShapes Go.WideShapes Go.ChangeAt Go.RowKit Go.Joins

theorem cellsStyle : Try.prog.cellsOf 51 = 3 := by kernel_rfl
theorem wf_i32 {n : Int} (h : (Lit.int .i32 n).wf = true) : -2147483648 ≤ n ∧ n ≤ 2147483647 := by
  have h' : (decide (IntKind.i32.min ≤ n) && decide (n ≤ IntKind.i32.max)) = true := h
  simp only [Bool.and_eq_true, decide_eq_true_eq] at h'
  exact h'
theorem open_style {H : Type} {enc : TypeId × Value → H} {W : World} {spare : Nat → Bool} {held : Bool} {base : Nat} {r : Reach} {b0 : Nat} {v : Value} {d : DataW H} {p : List MemPlace} (hv : Value.okWide Try.prog W r b0 51 v) (h : DataW.Trod enc Try.prog W base spare held 51 v d p) :
    ∃ f g a, v = sty f g a ∧ (-2147483648 ≤ f ∧ f ≤ 2147483647) ∧ (-2147483648 ≤ g ∧ g ≤ 2147483647) ∧ (Lit.int .u8 a).wf = true := by
  obtain ⟨v0, v1, v2, y0, y1, y2, n, rfl, _, _, h0, h1, h2⟩ := open_agg3 Try.underlying51 (by kernel_rfl) cellsStyle hv h
  obtain ⟨f, e0, _, w0⟩ := DataW.trod_int Try.underlying49 h0
  obtain ⟨g, e1, _, w1⟩ := DataW.trod_int Try.underlying49 h1
  obtain ⟨a, e2, _, w2⟩ := DataW.trod_int Try.underlying5 h2
  cases e0; cases e1; cases e2
  exact ⟨f, g, a, rfl, wf_i32 w0, wf_i32 w1, w2⟩
end Go.Proofs.Ytkgicooplgmmpaa
