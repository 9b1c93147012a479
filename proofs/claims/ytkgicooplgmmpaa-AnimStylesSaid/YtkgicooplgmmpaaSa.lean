/-
  The walks of Same and apart.
-/
import Derived.Test.YtkgicooplgmmpaaPs
import Derived.Test.YtkgicooplgmmpaaAl
import Derived.Deep.QuietTactic
import Derived.BigQuiet
namespace Go.Proofs.Ytkgicooplgmmpaa
open Go.RowKit

def sameE (x y : FL) : Bool := feq x y || !(feq x x || feq y y)
theorem sameE_self {x : FL} (h : NN x) : sameE x x = true := by
  cases x with
  | none => decide
  | some a => unfold sameE; rw [feq_some (h a rfl) (h a rfl)]; simp

theorem FSee.shape {w : World} {v : Value} {bs : List Nat} (h : FSee w v bs) : ∃ p c, v = .slice p bs.length c ∧ bs.length ≤ 9223372036854775807 ∧ ∀ i, i < bs.length → ∃ g o, p = some ⟨g, o, none⟩ ∧ w.cell? ⟨g, o + i, none⟩ = some (.float .f64 (bs.getD i 0)) := by
  rcases h with ⟨rfl, rfl⟩ | ⟨g, o, c, rfl, h1, h2⟩
  · exact ⟨none, 0, rfl, by simp, fun i hi => by simp at hi⟩
  · exact ⟨_, c, rfl, by unfold maxLen at h1; omega, fun i hi => ⟨g, o, rfl, h2 i hi⟩⟩

set_option maxRecDepth 100000 in
set_option maxHeartbeats 1000000 in
theorem same_any (us bs : List Nat) (va vb : Value) (w : World) (ha : FSee w va us) (hb : FSee w vb bs) (hlen : us.length = bs.length) (hall : ∀ i, i < us.length → sameE (fl (us.getD i 0)) (fl (bs.getD i 0)) = true) :
    Calls Try.prog 40 #[va, vb] w (FBool true w) := by
  obtain ⟨pa, ca, rfl, hna, hca⟩ := ha.shape
  obtain ⟨pb, cb, rfl, hnb, hcb⟩ := hb.shape
  rw [← hlen] at hnb hcb ⊢
  generalize us.length = n at *
  have HA := Lib.hid hall
  have CA := Lib.hid hca
  have CB := Lib.hid hcb
  clear hall hca hcb hlen ha hb
  go_enter Try.func40, Try.ntmps40
  go_wp2_with fail
  go_loopw [5] (fun i wr => ∃ k : Nat, k ≤ n ∧ i = .int .i64 k ∧ ∃ m, wr = w.drewN m) (fun i _ => n - (intOf i).toNat)
  case atStart => exact ⟨0, Nat.zero_le _, rfl, 0, rfl⟩
  case round =>
    obtain ⟨k, hk, rfl, m, rfl⟩ := hrel
    by_cases hkn : k < n
    · obtain ⟨ga, oa, rfl, c1⟩ := CA.out k hkn
      obtain ⟨gb, ob, rfl, c2⟩ := CB.out k hkn
      have hs := HA.out k hkn
      cases h1 : feq (fl (us.getD k 0)) (fl (bs.getD k 0))
      · have h2 : feq (fl (us.getD k 0)) (fl (us.getD k 0)) = false := by unfold sameE at hs; rw [h1] at hs; simp at hs; exact hs.1
        have h3 : feq (fl (bs.getD k 0)) (fl (bs.getD k 0)) = false := by unfold sameE at hs; rw [h1] at hs; simp at hs; exact hs.2
        clear hs
        generalize us.getD k 0 = xa at *
        generalize bs.getD k 0 = xb at *
        go_wp2_with fail
        go_quiet (fail)
        go_wp2_with fail
        go_roundw
        case rel => exact ⟨k + 1, by omega, by go_num, _, rfl⟩
        case measure => simp [intOf]; omega
      · clear hs
        generalize us.getD k 0 = xa at *
        generalize bs.getD k 0 = xb at *
        go_wp2_with fail
        go_quiet (fail)
        go_wp2_with fail
        go_roundw
        case rel => exact ⟨k + 1, by omega, by go_num, _, rfl⟩
        case measure => simp [intOf]; omega
    · obtain rfl : k = n := by omega
      go_wp2_with fail
      go_ret
      exact FBool.drew rfl
end Go.Proofs.Ytkgicooplgmmpaa
