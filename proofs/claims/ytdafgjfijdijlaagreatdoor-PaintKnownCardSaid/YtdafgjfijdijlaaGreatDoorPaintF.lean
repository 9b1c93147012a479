/-
  PaintKnown, second part: the closed facts of the row and of the card, each by the kernel. No condition.
-/
import Derived.Test.YtdafgjfijdijlaaGreatDoorRows
import Derived.Test.YtdafgjfijdijlaaGreatDoorCards
import Derived.KernelRfl
import Derived.SevenTiedAt
import Derived.Conc.LeavingOf
import Derived.Leaving
namespace Go.Proofs.YtdafgjfijdijlaaGreatDoor
open Go

set_option maxRecDepth 100000 in
set_option maxHeartbeats 4000000 in
theorem paint_facts : joinedFacts Tryz.prog 3 Tryz.f3 Rows.paintKnownSpec Rows.paintKnownRow = true := by
  unfold joinedFacts
  simp only [Bool.and_eq_true]
  repeat' apply And.intro
  all_goals (as_aux_lemma => kernel_rfl)
theorem paint_named : Tryz.prog.funcNamed "fresco/frescolaw20.PaintKnown" = some 3 := by kernel_rfl
theorem paint_words : Rows.paintKnownRow.wfByText (OpenSpec.ofChange Rows.paintKnownSpec) = true := by kernel_rfl
theorem paint_main : Tryz.prog.mainIs = some (true, "2c78129dda02172418a1861ceb06d84c05753ea9a9090ed3e8a75bf9dbd329f5".toList) := by kernel_rfl
theorem paint_goes : true = Rows.paintKnownRow.goesBy Tryz.prog := by kernel_rfl
theorem paint_looks : true = Tryz.prog.looks [] := by kernel_rfl
end Go.Proofs.YtdafgjfijdijlaaGreatDoor
