/-
  PaintCaret: the closed facts of the row and of the card, each by the kernel. No condition.
-/
import Derived.Test.YtpnjlfnejjjncaaGreatDoorRows
import Derived.Test.YtpnjlfnejjjncaaGreatDoorCards
import Derived.KernelRfl
import Derived.SevenTiedAt
import Derived.Conc.LeavingOf
import Derived.Leaving
set_option linter.unusedVariables false
set_option linter.unusedSimpArgs false
namespace Go.Proofs.YtpnjlfnejjjncaaGreatDoor
open Go

set_option maxRecDepth 100000 in
set_option maxHeartbeats 4000000 in
theorem caret_facts : joinedFacts Tryz.prog 3 Tryz.f3 Rows.paintCaretSpec Rows.paintCaretRow = true := by
  unfold joinedFacts
  simp only [Bool.and_eq_true]
  repeat' apply And.intro
  all_goals (as_aux_lemma => kernel_rfl)
theorem caret_named : Tryz.prog.funcNamed "fresco/frescolaw20.PaintCaret" = some 3 := by kernel_rfl
theorem caret_words : Rows.paintCaretRow.wfByText (OpenSpec.ofChange Rows.paintCaretSpec) = true := by kernel_rfl
theorem caret_main : Tryz.prog.mainIs = some (true, "e2483d07c8fcf93a7fd183efa9b7dc2880995af2a1a96d0b1bd58361d9f80846".toList) := by kernel_rfl
theorem caret_goes : true = Rows.paintCaretRow.goesBy Tryz.prog := by kernel_rfl
theorem caret_looks : true = Tryz.prog.looks [] := by kernel_rfl
end Go.Proofs.YtpnjlfnejjjncaaGreatDoor
