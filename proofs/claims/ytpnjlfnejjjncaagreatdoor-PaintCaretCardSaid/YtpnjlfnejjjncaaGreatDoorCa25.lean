/-
  The walk of paint.entry, where the first entry is the node's.
-/
import Derived.Test.YtpnjlfnejjjncaaGreatDoorCa22
import Derived.Deep.RegionHeld3
set_option linter.unusedVariables false
set_option linter.unusedSimpArgs false
namespace Go.Proofs.YtpnjlfnejjjncaaGreatDoor
open Go.RowKit

def EntPost (cs : List Cl) (x : Int) (w : World) (e : Ending) (w' : World) : Prop :=
  ∃ A c, e = .returned (.tuple #[.slice A cs.length c, .int .i64 x]) ∧ cs.length ≤ c ∧ c ≤ maxLen ∧ SeeC w' A cs.length cs ∧ Below w.heap.size w w'
set_option maxRecDepth 100000 in
set_option maxHeartbeats 2000000 in
theorem entry_one (tv : Value) (E oE cE : Nat) (s : ByteArray) (x : Int) (w : World) (hE : E < w.heap.size) (h0 : w.cell? ⟨E, oE, none⟩ = some (.int .i64 0)) (h1 : w.cell? ⟨E, oE + 1, none⟩ = some (.string s)) (h2 : w.cell? ⟨E, oE + 2, none⟩ = some (.int .i64 x))
    (hs : s.size ≤ 10000000) (hl : ∀ b ∈ s.data.toList, lett b) :
    Calls Tryz.prog 39 #[.agg #[tv], .agg #[.int .i64 0, .slice (some ⟨E, oE, none⟩) 1 cE], .int .i64 0] w (EntPost (one1 s.data.toList) x w) := by
  have HC : Hid (∀ W, Calls Tryz.prog 131 #[.string s] W (CluPost (one1 s.data.toList) W)) := Lib.hid fun W => clusters_lett s hs hl W
  clear hl
  go_enter Tryz.func39, Tryz.ntmps39
  go_wp2
  refine wp_loop_rounds 1 ?_
  rw [rounds_succ]
  go_wp2
  obtain ⟨B, hB⟩ : ∃ B, w.heap.size + 1 + 1 = B := ⟨_, rfl⟩
  obtain ⟨w3, hw3⟩ : ∃ w3, ((w.alloc (.cells #[tv] 49)).alloc (.cells #[.int .i64 0, .slice (some ⟨E, oE, none⟩) 1 cE] 44)).alloc (.cells #[.int .i64 0, .string s, .int .i64 x] 41) = w3 := ⟨_, rfl⟩
  have g1 : w3.cell? ⟨B, 1, none⟩ = some (.string s) := by rw [← hw3, ← hB]; exact World.cell?_alloc_at _ _ _ _ (by simp)
  have g2 : w3.cell? ⟨B, 2, none⟩ = some (.int .i64 x) := by rw [← hw3, ← hB]; exact World.cell?_alloc_at _ _ _ _ (by simp)
  have g3 : B < w3.heap.size := by rw [← hw3, ← hB]; simp
  have g4 : Below w.heap.size w w3 := by rw [← hw3]; exact (((Below.refl _ w).alloc (Nat.le_refl _) _).alloc (by simp) _).alloc (by simp; omega) _
  rw [hw3, hB]
  clear hw3 hB h0 h1 h2 hE
  go_region_held3 (fun W => W.cell? ⟨B, 1, none⟩ = some (.string s) ∧ W.cell? ⟨B, 2, none⟩ = some (.int .i64 x) ∧ B < W.heap.size ∧ Below w.heap.size w W)
    (first | exact ⟨g1, g2, g3, g4⟩ | exact ⟨g1, g2, g3, Below.drew g4⟩ | exact ⟨k1, k2, k3, k4⟩ | exact ⟨k1, k2, k3, Below.drew k4⟩)
    (first | (go_at_call 131; ((with_reducible refine (HC.out _).mono ?_); rintro e1' w5 ⟨A, c, rfl, hc1, hc2, hS, hb5⟩; have k1 := (hb5.cell (p := ⟨B, 1, none⟩) g3).trans g1; have k2 := (hb5.cell (p := ⟨B, 2, none⟩) g3).trans g2; have k3 := Nat.lt_of_lt_of_le g3 hb5.size; have k4 := (Below.drew g4).trans (hb5.mono (Below.drew g4).size))))
  all_goals
    go_wp2
    go_ret2
    exact ⟨A, c, rfl, hc1, hc2, hS, k4⟩
end Go.Proofs.YtpnjlfnejjjncaaGreatDoor
