/- Part of the proof of this seat's closed statement by the abstract machine: tables of closed answers, the run. No condition. -/
import Derived.Test.YtdafgjfijdijlaaGreatDoorK2
import Derived.Test.YtdafgjfijdijlaaGreatDoorK5a
import Derived.Test.YtdafgjfijdijlaaGreatDoorK5b
import Derived.Test.YtdafgjfijdijlaaGreatDoorK5c
import Derived.Test.YtdafgjfijdijlaaGreatDoorK5d
import Derived.Test.YtdafgjfijdijlaaGreatDoorK5e
namespace Go.Eng
open Go Go.Proofs
set_option maxRecDepth 100000
theorem good4 : fnGood Tryz.prog 4 = true := by kernel_rfl
theorem ents4_ok : ∀ x ∈ ents4, entOk Tryz.prog kn2 100000 4 0 x = true := by
  intro x hx
  simp only [ents4, List.mem_cons, List.not_mem_nil, or_false] at hx
  rcases hx with rfl | rfl | rfl | rfl | rfl | rfl | rfl | rfl
  · exact ent0_ok
  · exact ent1_ok
  · exact ent2_ok
  · exact ent3_ok
  · exact ent4_ok
  · exact ent5_ok
  · exact ent6_ok
  · exact ent7_ok
theorem kn3_ok : KnOK Tryz.prog kn3 := by
  refine ⟨kn2_ok.kn, fun f args A v A1 h => ?_, kn0_ok.ne, kn0_ok.mz⟩
  simp only [kn3] at h
  cases hb4 : Nat.beq f 4 with
  | true =>
    rw [hb4] at h
    obtain rfl := Nat.eq_of_beq_eq_true hb4
    exact km_ok kn2_ok mixed good4 ents4_ok h
  | false =>
  rw [hb4] at h
  simp only [cond_false] at h
  simp at h
end Go.Eng
