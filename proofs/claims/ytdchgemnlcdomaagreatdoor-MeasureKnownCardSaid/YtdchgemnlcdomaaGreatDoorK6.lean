/- Part of the proof of this seat's closed statement by the abstract machine: tables of closed answers, the run. No condition. -/
import Derived.Test.YtdchgemnlcdomaaGreatDoorK2
import Derived.Test.YtdchgemnlcdomaaGreatDoorK5a
import Derived.Test.YtdchgemnlcdomaaGreatDoorK5b
import Derived.Test.YtdchgemnlcdomaaGreatDoorK5c
import Derived.Test.YtdchgemnlcdomaaGreatDoorK5d
import Derived.Test.YtdchgemnlcdomaaGreatDoorK5e
namespace Go.Eng
open Go Go.Proofs
set_option maxRecDepth 100000
theorem good5 : fnGood Tryz.prog 5 = true := by kernel_rfl
theorem ents5_ok : ∀ x ∈ ents5, entOk Tryz.prog kn2 100000 5 0 x = true := by
  intro x hx
  simp only [ents5, List.mem_cons, List.not_mem_nil, or_false] at hx
  rcases hx with rfl | rfl | rfl | rfl | rfl | rfl | rfl | rfl | rfl | rfl | rfl | rfl | rfl | rfl | rfl | rfl | rfl | rfl | rfl
  · exact ent0_ok
  · exact ent1_ok
  · exact ent2_ok
  · exact ent3_ok
  · exact ent4_ok
  · exact ent5_ok
  · exact ent6_ok
  · exact ent7_ok
  · exact ent8_ok
  · exact ent9_ok
  · exact ent10_ok
  · exact ent11_ok
  · exact ent12_ok
  · exact ent13_ok
  · exact ent14_ok
  · exact ent15_ok
  · exact ent16_ok
  · exact ent17_ok
  · exact ent18_ok
theorem kn3_ok : KnOK Tryz.prog kn3 := by
  refine ⟨kn2_ok.kn, fun f args A v A1 h => ?_, kn0_ok.ne, kn0_ok.mz⟩
  simp only [kn3] at h
  cases hb5 : Nat.beq f 5 with
  | true =>
    rw [hb5] at h
    obtain rfl := Nat.eq_of_beq_eq_true hb5
    exact km_ok kn2_ok mixed good5 ents5_ok h
  | false =>
  rw [hb5] at h
  simp only [cond_false] at h
  simp at h
end Go.Eng
