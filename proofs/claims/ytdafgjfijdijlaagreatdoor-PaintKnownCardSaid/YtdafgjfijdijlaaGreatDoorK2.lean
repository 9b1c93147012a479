/- Part of the proof of this seat's closed statement by the abstract machine: tables of closed answers, the run. No condition. -/
import Derived.Test.YtdafgjfijdijlaaGreatDoorK1a
import Derived.Test.YtdafgjfijdijlaaGreatDoorK1b
import Derived.Test.YtdafgjfijdijlaaGreatDoorK1c
import Derived.Test.YtdafgjfijdijlaaGreatDoorK1d
import Derived.Lib.MakeNoZero
import Derived.Laws.Externs
namespace Go.Eng
open Go Go.Proofs
set_option maxRecDepth 100000
theorem ne_run (x : Value) (W : World) : (callFunc 279 ⟨[x]⟩).run Tryz.prog W = .ok (.value x) W := by kernel_rfl
theorem mz_run (n : Nat) (W : World) (hn : n ≤ 2 ^ 40) : ∃ cap cells W1, (callFunc 280 ⟨[.int .i64 n]⟩).run Tryz.prog W = .ok (.value (.slice (some ⟨W.heap.size, 0, none⟩) n cap)) W1 ∧ W1.heap = W.heap.push (.cells cells 5) ∧ cells.size = cap ∧ n ≤ cap ∧ Rest W W1 := by
  obtain ⟨cs, hrun, hle, _⟩ := Lib.run_makeNoZero (P := Tryz.prog) W #[3] 59 5 Tryz.underlying59 n (Nat.le_trans hn (by decide))
  refine ⟨cs.size, cs, W.drew.drew.alloc (.cells cs 5), ?_, rfl, rfl, hle, rfl, rfl⟩
  rw [show (⟨[.int .i64 n]⟩ : Array Value) = #[.int .i64 n] from rfl, run_callFunc_extern Tryz.func280 (by kernel_rfl) (by kernel_rfl) (by kernel_rfl) (e := Extern.BytealgMakeNoZero.makeNoZero #[3] #[59]) (by kernel_rfl), hrun]
  rfl
theorem kn0_ok : KnOK Tryz.prog kn0 := by
  refine ⟨fun f args v h => ?_, fun f args A v A1 h => ?_, fun fn _ _ x W => ne_run x W, fun fn _ _ n W hn => mz_run n W hn⟩
  · simp [kn0] at h
  · simp [kn0] at h
theorem mixed : Tryz.prog.follows .mixedOrders = true := by kernel_rfl
theorem tabs {kn : Kn} (hk : KnOK Tryz.prog kn) {f : FuncId} {args : List Value} {v : Value} {g : Nat} {t : List (List Value × Value)} {o : Option Value} (ht : tabOk Tryz.prog kn 20000 g t = true) (h : (bif Nat.beq f g then look t args else o) = some v) {Q : Prop}
    (h1 : (closedVs args = true ∧ closedV v = true ∧ (∃ fn c, Tryz.prog.funcs[f]? = some fn ∧ fn.body = some c) ∧ (∀ W, (callFunc f ⟨args⟩).run Tryz.prog W = .ok (.enter f ⟨args⟩) W) ∧
      ∀ W, Calls Tryz.prog f ⟨args⟩ W fun e W1 => e = .returned v ∧ W.heap.size ≤ W1.heap.size ∧ (∀ c, c < W.heap.size → W1.heap[c]? = W.heap[c]?) ∧ Rest W W1) → Q) (h2 : o = some v → Q) : Q := by
  cases hb : Nat.beq f g with
  | true =>
    rw [hb] at h
    have hfg := Nat.eq_of_beq_eq_true hb
    subst hfg
    exact h1 (tab_ok hk mixed ht h)
  | false => rw [hb] at h; exact h2 h
theorem knA_ok : KnOK Tryz.prog knA := by
  refine ⟨fun f args v h => ?_, fun f args A v A1 h => by simp [knA] at h, kn0_ok.ne, kn0_ok.mz⟩
  simp only [knA] at h
  refine tabs kn0_ok tab191_ok h (fun q => q) fun h => ?_
  simp at h
theorem kn2_ok : KnOK Tryz.prog kn2 := by
  refine ⟨fun f args v h => ?_, fun f args A v A1 h => by simp [kn2] at h, kn0_ok.ne, kn0_ok.mz⟩
  simp only [kn2] at h
  refine tabs knA_ok tab414_ok h (fun q => q) fun h => ?_
  refine tabs knA_ok tab328_ok h (fun q => q) fun h => ?_
  refine tabs knA_ok tab327_ok h (fun q => q) fun h => ?_
  refine tabs knA_ok tab254_ok h (fun q => q) fun h => ?_
  refine tabs knA_ok tab253_ok h (fun q => q) fun h => ?_
  refine tabs knA_ok tab245_ok h (fun q => q) fun h => ?_
  refine tabs knA_ok tab228_ok h (fun q => q) fun h => ?_
  refine tabs knA_ok tab206_ok h (fun q => q) fun h => ?_
  refine tabs knA_ok tab205_ok h (fun q => q) fun h => ?_
  refine tabs knA_ok tab195_ok h (fun q => q) fun h => ?_
  refine tabs knA_ok tab190_ok h (fun q => q) fun h => ?_
  refine tabs knA_ok tab140_ok h (fun q => q) fun h => ?_
  refine tabs knA_ok tab137_ok h (fun q => q) fun h => ?_
  refine tabs knA_ok tab136_ok h (fun q => q) fun h => ?_
  refine tabs knA_ok tab134_ok h (fun q => q) fun h => ?_
  refine tabs knA_ok tab120_ok h (fun q => q) fun h => ?_
  refine tabs knA_ok tab119_ok h (fun q => q) fun h => ?_
  refine tabs knA_ok tab118_ok h (fun q => q) fun h => ?_
  refine tabs knA_ok tab98_ok h (fun q => q) fun h => ?_
  refine tabs knA_ok tab52_ok h (fun q => q) fun h => ?_
  refine tabs knA_ok tab48_ok h (fun q => q) fun h => ?_
  refine tabs knA_ok tab47_ok h (fun q => q) fun h => ?_
  refine tabs knA_ok tab45_ok h (fun q => q) fun h => ?_
  refine tabs knA_ok tab44_ok h (fun q => q) fun h => ?_
  refine tabs knA_ok tab37_ok h (fun q => q) fun h => ?_
  refine tabs knA_ok tab31_ok h (fun q => q) fun h => ?_
  refine tabs knA_ok tab29_ok h (fun q => q) fun h => ?_
  refine tabs knA_ok tab19_ok h (fun q => q) fun h => ?_
  refine tabs knA_ok tab10_ok h (fun q => q) fun h => ?_
  refine tabs kn0_ok tab191_ok h (fun q => q) fun h => ?_
  simp at h
end Go.Eng
