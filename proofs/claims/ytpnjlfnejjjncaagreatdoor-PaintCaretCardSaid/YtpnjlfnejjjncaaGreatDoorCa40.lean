/-
  The walk of frescolaw20.row: the bytes of the texts of a screen's first row.
-/
import Derived.Test.YtpnjlfnejjjncaaGreatDoorCa26
import Derived.Lib.AppendStr
set_option linter.unusedVariables false
set_option linter.unusedSimpArgs false
namespace Go.Proofs.YtpnjlfnejjjncaaGreatDoor
open Go.RowKit

def bytesN (t : ByteArray) : List Nat := t.data.toList.map (·.toNat)
theorem strCells_bv (t : ByteArray) : Lib.strCells t = bv (bytesN t) := by simp [Lib.strCells, bv, bytesN]
/-- The bytes of a row of texts. -/
def rowB (ts : List ByteArray) : List Nat := ts.flatMap bytesN
theorem rowB_lt (ts : List ByteArray) : ∀ y ∈ rowB ts, y < 256 := fun y hy => by
  simp only [rowB, List.mem_flatMap, bytesN, List.mem_map] at hy
  obtain ⟨t, _, b, _, rfl⟩ := hy
  exact b.toNat_lt
theorem rowB_snoc (ts : List ByteArray) (k : Nat) (t : ByteArray) (h : ts[k]? = some t) : rowB (ts.take (k + 1)) = rowB (ts.take k) ++ bytesN t := by
  obtain ⟨h1, h2⟩ := List.getElem?_eq_some_iff.1 h
  rw [List.take_succ_eq_append_getElem h1, h2]; simp [rowB]
def scrL (D o c n col : Nat) : List Value := [.int .i64 n, .int .i64 1, .slice (some ⟨D, o, none⟩) n c, .int .i64 col, .int .i64 0, .bool true]
set_option maxRecDepth 100000 in
set_option maxHeartbeats 4000000 in
theorem row_any (D o c n col : Nat) (ts : List ByteArray) (w : World) (hD : At w D o (rowL ts)) (hlen : ts.length = n) (h1 : ∀ t ∈ ts, t.size = 1) (hn : 1 ≤ n ∧ n ≤ 60) :
    Calls Tryz.prog 6 #[.agg #[.int .i64 n, .int .i64 1, .slice (some ⟨D, o, none⟩) n c, .int .i64 col, .int .i64 0, .bool true], .int .i64 0] w (VBel (.string (mkS (rowB ts))) w) := by
  obtain ⟨i0, hi, hz0, hz1, hz2⟩ := info_parts elB.hI
  have HD := Lib.hid hD
  have HL := Lib.hid hlen
  have H1 := Lib.hid h1
  have lD := hD.1
  clear hD hlen h1
  go_enter Tryz.func6, Tryz.ntmps6
  go_upto_region 2 with (fail)
  obtain ⟨w1, hw1⟩ : ∃ w1, w.alloc (.cells #[.int .i64 n, .int .i64 1, .slice (some ⟨D, o, none⟩) n c, .int .i64 col, .int .i64 0, .bool true] 26) = w1 := ⟨_, rfl⟩
  obtain ⟨B, hB⟩ : ∃ B, w.heap.size = B := ⟨_, rfl⟩
  have hS : Bk1 w1 B (scrL D o c n col) 26 := by rw [← hw1, ← hB]; exact heap_alloc_new w _
  have hbw : Below w.heap.size w w1 := by rw [← hw1]; exact (Below.refl _ w).alloc (Nat.le_refl _) _
  have HD1 := Lib.hid (HD.out.below hbw)
  have HBW := Lib.hid hbw
  have HS := Lib.hid hS
  rw [hw1, hB]
  clear hw1 hB hbw hS
  go_wp2
  go_loopw [5, 6] (fun v i wr => ∃ k m : Nat, i = .int .i64 k ∧ k ≤ n ∧ m = k ∧ wr.ownsRow w1.heap.size 5 1 v m (bv (rowB (ts.take k))) ∧ Below w1.heap.size w1 wr) (fun _ i _ => n - (intOf i).toNat)
  case atStart => exact ⟨0, 0, rfl, by omega, rfl, ⟨by simp [rowB, bv], .inl ⟨rfl, rfl⟩⟩, Below.refl _ _⟩
  case round =>
    obtain ⟨k, m, rfl, hk, rfl, hown, hbr⟩ := hrel
    have hSr := HS.out.below hbr
    have s0 := hSr.cell (j := 0) rfl
    have s2 := hSr.cell (j := 2) rfl
    rcases Nat.lt_or_ge m n with hlt | hge
    · obtain ⟨t, ht⟩ : ∃ t, ts[m]? = some t := ⟨_, List.getElem?_eq_getElem (by rw [HL.out]; exact hlt)⟩
      have hc0 : wr.cell? ⟨D, o + m * 5, none⟩ = some (.string t) := by
        have := (HD1.out.below hbr).cell (j := m * 5) (v := .string t) (by have := rowL_get ts m 0 t ht (by omega); rw [Nat.add_zero] at this; rw [this]; rfl)
        exact this
      have ht1 : t.size = 1 := H1.out t (List.mem_of_getElem? ht)
      have HT := Lib.hid ht
      have hBw : w1.heap.size ≤ wr.heap.size := hbr.size
      have lDr : D < wr.heap.size := (HD1.out.below hbr).1
      have HS2 := Lib.hid hSr
      clear ht
      go_wp2_with (at_builtin; refine Lib.wpList_append_own_string _ rfl _ _ 23 9 rfl w1.heap.size 5 i0 elB.hT Tryz.underlying9 hi hz0 hz1 hz2 _ _ _ rfl hown t rfl ?c3 ?c4 ?c5 ?_)
      case c3 => unfold maxLen; omega
      case c4 => omega
      case c5 => exact hBw
      intro v' w2 hown' hgrow _
      have hb2 : Below w1.heap.size w1 w2 := hbr.grown hgrow hBw (fun k hk => (hown.lt k hk).1)
      have hown2 : w2.ownsRow w1.heap.size 5 1 v' (m + 1) (bv (rowB (ts.take (m + 1)))) := by
        rw [rowB_snoc ts m t HT.out, bv_append, ← strCells_bv]; exact hown'
      have HO := Lib.hid hown2
      have HB2 := Lib.hid hb2
      clear hown hown' hgrow hbr hc0 hSr s0 s2 hown2 hb2
      go_wp2
      go_roundw
      case rel => exact ⟨m + 1, m + 1, by first | rfl | go_num, by omega, rfl, HO.out, HB2.out⟩
      case measure => simp [intOf]; omega
    · obtain rfl : m = n := by omega
      have hge' : ((m : Int) < m) = False := by simp
      have hrow : ts.take m = ts := by rw [List.take_of_length_le (by rw [HL.out]; exact Nat.le_refl _)]
      rw [hrow] at hown
      have hcv := own_convert (rowB_lt ts) hown
      go_wp2
      go_ret
      exact ⟨rfl, HBW.out.trans (hbr.mono HBW.out.size)⟩
end Go.Proofs.YtpnjlfnejjjncaaGreatDoor
