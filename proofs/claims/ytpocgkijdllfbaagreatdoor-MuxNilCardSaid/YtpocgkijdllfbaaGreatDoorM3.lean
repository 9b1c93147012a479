/- Part of the proof of this seat's closed statement by the abstract machine: tables of closed answers, the start, the run. No condition. -/
import Derived.Test.YtpocgkijdllfbaaGreatDoorM2
namespace Go.Eng
open Go Go.Proofs
set_option maxRecDepth 100000
theorem tabs {f : FuncId} {args : List Value} {v : Value} {g : Nat} {t : List (List Value × Value)} {o : Option Value} (ht : tabOk Tryz.prog kn0 20000 g t = true) (h : (bif Nat.beq f g then look t args else o) = some v) {Q : Prop}
    (h1 : (closedVs args = true ∧ closedV v = true ∧ (∃ fn c, Tryz.prog.funcs[f]? = some fn ∧ fn.body = some c) ∧ (∀ W, (callFunc f ⟨args⟩).run Tryz.prog W = .ok (.enter f ⟨args⟩) W) ∧
      ∀ W, Calls Tryz.prog f ⟨args⟩ W fun e W1 => e = .returned v ∧ W.heap.size ≤ W1.heap.size ∧ (∀ c, c < W.heap.size → W1.heap[c]? = W.heap[c]?) ∧ Rest W W1) → Q) (h2 : o = some v → Q) : Q := by
  cases hb : Nat.beq f g with
  | true =>
    rw [hb] at h
    have hfg := Nat.eq_of_beq_eq_true hb
    subst hfg
    exact h1 (tab_ok kn0_ok mixed ht h)
  | false => rw [hb] at h; exact h2 h
theorem kn2_ok : KnOK Tryz.prog kn2 := by
  refine ⟨fun f args v h => ?_, kn0_ok.ne, kn0_ok.mz⟩
  simp only [kn2] at h
  refine tabs tab200_ok h (fun q => q) fun h => ?_
  refine tabs tab153_ok h (fun q => q) fun h => ?_
  refine tabs tab122_ok h (fun q => q) fun h => ?_
  refine tabs tab119_ok h (fun q => q) fun h => ?_
  refine tabs tab97_ok h (fun q => q) fun h => ?_
  refine tabs tab90_ok h (fun q => q) fun h => ?_
  refine tabs tab87_ok h (fun q => q) fun h => ?_
  refine tabs tab70_ok h (fun q => q) fun h => ?_
  refine tabs tab69_ok h (fun q => q) fun h => ?_
  refine tabs tab65_ok h (fun q => q) fun h => ?_
  refine tabs tab64_ok h (fun q => q) fun h => ?_
  refine tabs tab56_ok h (fun q => q) fun h => ?_
  refine tabs tab53_ok h (fun q => q) fun h => ?_
  refine tabs tab52_ok h (fun q => q) fun h => ?_
  refine tabs tab44_ok h (fun q => q) fun h => ?_
  refine tabs tab41_ok h (fun q => q) fun h => ?_
  refine tabs tab39_ok h (fun q => q) fun h => ?_
  refine tabs tab33_ok h (fun q => q) fun h => ?_
  refine tabs tab29_ok h (fun q => q) fun h => ?_
  simp at h
end Go.Eng
