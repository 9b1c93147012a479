/-
  The walk of paint.clusters, at a text of small letters.
-/
import Derived.Test.YtpnjlfnejjjncaaGreatDoorCa20
import Derived.Test.YtpnjlfnejjjncaaGreatDoorCa21
import Derived.Test.YtpnjlfnejjjncaaGreatDoorCa18
set_option linter.unusedVariables false
set_option linter.unusedSimpArgs false
namespace Go.Proofs.YtpnjlfnejjjncaaGreatDoor
open Go.RowKit

/-- The clusters of a text of letters. -/
def one1 (l : List UInt8) : List Cl := l.map fun b => ([b.toNat], 1)
theorem one1_len (l : List UInt8) : (one1 l).length = l.length := by simp [one1]
theorem one1_ones (l : List UInt8) : Ones (one1 l) := fun c hc => by
  obtain ⟨b, _, rfl⟩ := List.mem_map.1 hc
  rfl
def CluPost (cs : List Cl) (w : World) (e : Ending) (w' : World) : Prop :=
  ∃ A c, e = .returned (.slice A cs.length c) ∧ cs.length ≤ c ∧ c ≤ maxLen ∧ SeeC w' A cs.length cs ∧ Below w.heap.size w w'
set_option maxRecDepth 100000 in
set_option maxHeartbeats 2000000 in
theorem clusters_lett (s : ByteArray) (hs : s.size ≤ 10000000) (hl : ∀ b ∈ s.data.toList, lett b) (w : World) :
    Calls Tryz.prog 131 #[.string s] w (CluPost (one1 s.data.toList) w) := by
  have HFL := Lib.hid (flow_any s hs w)
  rw [flow_lett _ hl] at HFL
  have HL := Lib.hid hl
  obtain ⟨cs, hcs⟩ : ∃ cs, one1 s.data.toList = cs := ⟨_, rfl⟩
  have HCS := Lib.hid hcs
  have hlen : cs.length ≤ 10000000 := by rw [← hcs, one1_len, blen]; exact hs
  obtain ⟨n, hn⟩ : ∃ n, cs.length = n := ⟨_, rfl⟩
  have HN := Lib.hid hn
  have HF2 : Hid (Calls Tryz.prog 126 #[.string s] w (VRow 140 2 n (cv cs) w)) := Lib.hid (by
    have := HFL.out
    rw [← hn, ← hcs]; exact this)
  rw [hcs]
  rw [hn] at hlen
  clear HFL hl hcs hn
  go_enter Tryz.func131, Tryz.ntmps131
  go_wp2_with (go_at_call 126; ((with_reducible refine HF2.out.mono ?_); rintro e w1 ⟨v, rfl, hb1, hrow⟩; obtain ⟨A, c, rfl, hc1, hc2, hA⟩ := slice_form2 hrow; have HA := Lib.hid hA; have HB1 := Lib.hid hb1; clear hA hrow hb1))
  go_loopw [9] (fun i wr => ∃ k : Nat, i = .int .i64 k ∧ k ≤ n ∧ wr = w1) (fun i _ => n - (intOf i).toNat)
  case atStart => exact ⟨0, rfl, by omega, rfl⟩
  case round =>
    obtain ⟨k, rfl, hk, rfl⟩ := hrel
    by_cases hlt : k < n
    · obtain ⟨g, rfl, hgB, hg, hc⟩ := HA.out (by omega)
      obtain ⟨b, hb⟩ : ∃ b, s.data.toList[k]? = some b := ⟨_, List.getElem?_eq_getElem (by have := HN.out; rw [← HCS.out, one1_len] at this; omega)⟩
      have hy : cs[k]? = some ([b.toNat], 1) := by rw [← HCS.out]; simp [one1, hb]
      have hbl : lett b := HL.out b (List.mem_of_getElem? hb)
      have hc0 : wr.cell? ⟨g, k * 2, none⟩ = some (.string (mkS [b.toNat])) := hc _ _ (cv_get cs k _ hy).1
      have e1 : ¬ mkS [b.toNat] = ⟨#[10]⟩ := fun h => by
        have := (line_mk (c := ([b.toNat], 1)) (by intro x hx; simp at hx; subst hx; exact b.toNat_lt)).1 h
        simp [lett] at this hbl
        omega
      have e2 : ((mkS [b.toNat]).toList == [10]) = false := by simp; exact fun h => e1 (ba_toList h)
      obtain ⟨t, ht⟩ : ∃ t, mkS [b.toNat] = t := ⟨_, rfl⟩
      rw [ht] at hc0 e1 e2
      clear hc hy hbl ht
      go_wp2
      go_roundw
      case rel => exact ⟨k + 1, by go_num, by omega, by first | rfl | trivial⟩
      case measure => simp [intOf]; omega
    · obtain rfl : k = n := by omega
      go_wp2
      go_ret
      refine ⟨A, c, by rw [HN.out]; rfl, by rw [HN.out]; exact hc1, hc2, ⟨rfl, fun h0 => ?_⟩, HB1.out⟩
      obtain ⟨g, hAg, hgB, hg, hc⟩ := HA.out (by rw [← HN.out]; exact h0)
      refine ⟨g, 0, hAg, hg, fun i y hy => ?_⟩
      rw [Nat.zero_add]
      exact ⟨hc _ _ (cv_get cs i y hy).1, hc _ _ (cv_get cs i y hy).2⟩
end Go.Proofs.YtpnjlfnejjjncaaGreatDoor
