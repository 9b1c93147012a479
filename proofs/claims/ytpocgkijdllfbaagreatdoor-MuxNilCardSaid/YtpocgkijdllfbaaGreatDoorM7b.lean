/- Part of the proof of this seat's closed statement by the abstract machine: tables of closed answers, the start, the run. No condition. -/
import Derived.Test.YtpocgkijdllfbaaGreatDoorM6b
namespace Go.Eng
open Go Go.Proofs
set_option maxRecDepth 100000
theorem sg0_some {b : Nat} {m : Im} (h : sg0 b = some m) : b < 6 ∧ m.c = b := by
  unfold sg0 at h
  repeat' split at h
  all_goals first | (simp at h; done) | (simp at h; subst h; subst b; exact ⟨by decide, rfl⟩)
theorem start_R {e0 e1 e2 e3 e4 : TypeId} {W : World} (h : Laid5 e0 e1 e2 e3 e4 W) : R Tryz.prog 5 sg0 (A0 e0 e1 e2 e3 e4) W := by
  refine ⟨fun b o m e em => (start_live h b o m e em).2.2, fun b b' m m' _ _ e e' hc => ?_, fun b hb => ?_, fun g hg => ?_, fun b m e hl => ?_, fun b m e hl => ?_, ?_, (by decide : (5:Nat) ≤ 6)⟩
  · rw [← (sg0_some e).2, ← (sg0_some e').2, hc]
  · cases hq : sg0 b with
    | none => rfl
    | some m => have := (sg0_some hq).1; have hb : 6 ≤ b := hb; omega
  · rw [nglob] at hg
    match g, hg with
    | 0, _ => exact ⟨_, rfl, rfl, rfl⟩
    | 1, _ => exact ⟨_, rfl, rfl, rfl⟩
    | 2, _ => exact ⟨_, rfl, rfl, rfl⟩
    | 3, _ => exact ⟨_, rfl, rfl, rfl⟩
    | 4, _ => exact ⟨_, rfl, rfl, rfl⟩
    | 5, _ => exact ⟨_, rfl, rfl, rfl⟩
  · have hl : 5 ≤ b := hl
    rw [(sg0_some e).2]; exact hl
  · have hl : b < 5 := hl
    rw [(sg0_some e).2]; exact hl
  · obtain ⟨fz, q⟩ := h.b4
    have := (Array.getElem?_eq_some_iff.1 q).1; omega
theorem good3 : fnGood Tryz.prog 3 = true := by kernel_rfl
theorem names_any {e0 e1 e2 e3 e4 : TypeId} {W : World} (h : Laid5 e0 e1 e2 e3 e4 W) : Calls Tryz.prog 3 ⟨[]⟩ W fun e W1 => e = .returned (.bool true) ∧ W.heap.size ≤ W1.heap.size ∧ (∀ c, c < W.heap.size → W1.heap[c]? = W.heap[c]?) ∧ Rest W W1 := by
  obtain ⟨fn, c, h1, h2, h3⟩ := fnGood_spec good3
  have e := wakes_run e0 e1 e2 e3 e4
  cases hq : ev Tryz.prog kn2 100001 (.call 3 [] (A0 e0 e1 e2 e3 e4)) with
  | code a b c => rw [hq] at e; simp [okVal] at e
  | none => rw [hq] at e; simp [okVal] at e
  | val u A1 =>
    rw [hq] at e
    have hu := beqV_eq _ _ e
    subst hu
    refine (ev_calls kn2_ok mixed h1 h2 h3 rfl hq (start_R h) .nil).mono fun en W1 ⟨σ1, v', he, _, hE, hvv⟩ => ?_
    rw [hvv.eq_of_closed rfl] at he
    refine ⟨he, hE.size, fun c hc => hE.frame c hc ?_, hE.rest⟩
    rintro ⟨b, m, q, q2, _, q3⟩
    obtain ⟨o, ho⟩ := Option.isSome_iff_exists.1 q
    have := (start_live h b o m ho q2).1
    have q3 : 5 ≤ b := q3
    omega
end Go.Eng
