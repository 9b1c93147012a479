/-
  The walk of frescolaw20.PaintCaret, first part: the letters, the screen.
-/
import Derived.Test.YtpnjlfnejjjncaaGreatDoorCa39
import Derived.Test.YtpnjlfnejjjncaaGreatDoorCa40
import Derived.Test.YtpnjlfnejjjncaaGreatDoorCa41
set_option linter.unusedVariables false
set_option linter.unusedSimpArgs false
namespace Go.Proofs.YtpnjlfnejjjncaaGreatDoor
open Go.RowKit

/-- The first letters. -/
def abc (k : Nat) : List Nat := (List.range k).map fun i => 97 + i % 26
theorem abc_len (k : Nat) : (abc k).length = k := by simp [abc]
theorem abc_succ (k : Nat) : abc (k + 1) = abc k ++ [97 + k % 26] := by simp [abc, List.range_succ]
theorem abc_lt (k : Nat) : ∀ y ∈ abc k, y < 256 := fun y hy => by
  simp only [abc, List.mem_map] at hy
  obtain ⟨i, _, rfl⟩ := hy
  omega
theorem abc_lett (k : Nat) : ∀ b ∈ (mkS (abc k)).data.toList, lett b := fun b hb => by
  simp only [mkS, toBytes, abc, List.map_map, List.mem_map] at hb
  obtain ⟨i, _, rfl⟩ := hb
  have h : (UInt8.ofNat (97 + i % 26)).toNat = 97 + i % 26 := by simp; omega
  simp only [Function.comp, lett]
  omega
theorem conv_at {g off c : Nat} {ys : List Nat} {w : World} (hlt : ∀ y ∈ ys, y < 256) (hc : ∀ (j y : Nat), ys[j]? = some y → w.cell? ⟨g, off + j, none⟩ = some (.int .u8 y)) :
    (convert 23 9 (.slice (some ⟨g, off, none⟩) ys.length c)).run Tryz.prog w = .ok (.string (mkS ys)) w := by
  have e : ys.length = (toBytes ys).length := by simp [toBytes]
  have hcc : ∀ j (hj : j < (toBytes ys).length), w.cell? ((⟨g, off, none⟩ : Addr).add j) = some (.int .u8 ((toBytes ys)[j].toNat : Int)) := by
    intro j hj
    have hj' : j < ys.length := by simpa [toBytes] using hj
    have h256 := hlt ys[j] (List.getElem_mem hj')
    have h1 := hc j ys[j] (List.getElem?_eq_getElem hj')
    rw [show (⟨g, off, none⟩ : Addr).add j = ⟨g, off + j, none⟩ by simp [Addr.add], h1]
    simp [toBytes]
    omega
  rw [e]
  exact run_convert_bytes_back w _ _ _ ⟨g, off, none⟩ c (toBytes ys) Tryz.underlying23 Tryz.underlying5 Tryz.underlying9 hcc
def strSz : Value → Nat
  | .string s => s.size
  | _ => 0
theorem mkS_snoc32 (z : List Nat) (j : Nat) : mkS (z ++ List.replicate j 32) ++ ⟨#[32]⟩ = mkS (z ++ List.replicate (j + 1) 32) := by
  apply ByteArray.ext
  have : List.replicate (j + 1) 32 = List.replicate j 32 ++ [32] := List.replicate_succ'
  rw [this]
  simp [mkS, toBytes, ByteArray.data_append]
theorem rowB_txK : ∀ (l : List UInt8), rowB (l.map fun b => mkS [b.toNat]) = l.map (·.toNat)
  | [] => rfl
  | b :: l => by
    have ih := rowB_txK l
    simp only [rowB, List.map_cons, List.flatMap_cons] at ih ⊢
    rw [ih]
    simp [bytesN, mkS, toBytes]
theorem rowB_sp : ∀ (m : Nat), rowB (List.replicate m sp) = List.replicate m 32
  | 0 => rfl
  | m + 1 => by
    have ih := rowB_sp m
    simp only [rowB, List.replicate_succ, List.flatMap_cons] at ih ⊢
    rw [ih]
    rfl
theorem caret_plain (k n : Nat) (x : Int) (s : ByteArray) (hs : mkS (abc k) = s) (hn : 1 ≤ n) :
    rowB (txts s x n) = ((abc k).drop (car x k - vcol (car x k) n)).take (vmany k (car x k - vcol (car x k) n) n) ++ List.replicate (n - (((abc k).drop (car x k - vcol (car x k) n)).take (vmany k (car x k - vcol (car x k) n) n)).length) 32 := by
  have hsz : s.size = k := by rw [← hs, mkS_size, abc_len]
  have hm : s.data.toList.map (·.toNat) = abc k := by
    rw [← hs]
    simp only [mkS, toBytes, List.map_map]
    refine (List.map_congr_left fun y hy => ?_).trans (List.map_id _)
    have := abc_lt k y hy
    simp; omega
  unfold txts
  have hl : (shown s x n).size = (shown s x n).data.toList.length := rfl
  have hd : (shown s x n).data.toList = (s.data.toList.drop (car x k - vcol (car x k) n)).take (vmany k (car x k - vcol (car x k) n) n) := by
    unfold shown cut1
    rw [hsz]
  unfold txK
  rw [hl, List.take_of_length_le (Nat.le_refl _), List.drop_replicate]
  have h1 : ∀ a b : List ByteArray, rowB (a ++ b) = rowB a ++ rowB b := fun a b => List.flatMap_append
  rw [h1, rowB_txK, rowB_sp, hd]
  have h2 : ((s.data.toList.drop (car x k - vcol (car x k) n)).take (vmany k (car x k - vcol (car x k) n) n)).map (·.toNat) = ((abc k).drop (car x k - vcol (car x k) n)).take (vmany k (car x k - vcol (car x k) n) n) := by
    rw [List.map_take, List.map_drop, hm]
  rw [h2]
  congr 2
  rw [← h2, List.length_map]
theorem txts_one (s : ByteArray) (x : Int) (n : Nat) : ∀ t ∈ txts s x n, t.size = 1 := fun t ht => by
  simp only [txts, txK, List.mem_append, List.mem_map] at ht
  rcases ht with ⟨b, _, rfl⟩ | ht
  · rw [mkS_size]; rfl
  · have := List.mem_of_mem_drop ht
    obtain rfl := (List.mem_replicate.1 this).2
    rfl
theorem works_any (W : World) : Calls Tryz.prog 4 #[] W (VBel (.bool true) W) := by
  letI := env0
  refine Calls.mono (Go.Eng.law_any W) fun e W1 ⟨h1, h2, h3, h4⟩ => ?_
  exact ⟨h1, ⟨h4.1, h4.2.2, h4.2.1, h2, h3⟩⟩
set_option maxRecDepth 100000 in
set_option maxHeartbeats 8000000 in
theorem caret_any (l wv : Nat) (x : Int) (w : World) (hl : l < 256) (hw : wv < 256) (hx : -9223372036854775808 ≤ x ∧ x ≤ 9223372036854775807) (hG : Tryz.prog.globals.size ≤ w.heap.size) :
    Calls Tryz.prog 3 #[.int .u8 l, .int .i64 x, .int .u8 wv] w (VBel (.bool true) w) := by
  have HWO := Lib.hid works_any
  obtain ⟨n, hn⟩ : ∃ n, wv % 60 + 1 = n := ⟨_, rfl⟩
  have hn1 : 1 ≤ n ∧ n ≤ 60 := by omega
  go_enter Tryz.func3, Tryz.ntmps3
  go_upto_region 4 with (first | (go_at_call 4; ((with_reducible refine (HWO.out _).mono ?_); rintro e1 w1 ⟨rfl, hb1⟩)))
  rw [show ((wv : Int) % 60 + 1) = (n : Int) by omega]
  have HB1 := Lib.hid hb1
  clear hb1
  go_wp2
  go_loopw [9, 25] (fun v i wr => ∃ k : Nat, i = .int .i64 k ∧ k ≤ l ∧ wr.ownsRow w1.heap.size 5 1 v k (bv (abc k)) ∧ Below w1.heap.size w1 wr) (fun _ i _ => l - (intOf i).toNat)
  case atStart => exact ⟨0, rfl, by omega, ⟨by simp [abc, bv], .inl ⟨rfl, rfl⟩⟩, Below.refl _ _⟩
  case round =>
    obtain ⟨k, rfl, hk, hown, hbr⟩ := hrel
    have HR := Lib.hid hown
    have HBR := Lib.hid hbr
    have hB : w1.heap.size ≤ wr.heap.size := hbr.size
    clear hown hbr
    rcases Nat.lt_or_ge k l with hlt | hge
    · have hm : (k : Int).tmod 26 = k % 26 := by rw [Int.tmod_eq_emod_of_nonneg (by omega)]
      go_wp2_with ((with_reducible apply wpList_append_new elB (B := w1.heap.size) (n := k) (xs := bv (abc k)) (nw := #[.int .u8 (97 + (k : Int) % 26)])); exact rfl; exact rfl; exact rfl; exact HR.out; exact hB; omega; exact rfl; (intro u hu; simp at hu; subst hu; rfl); intro v' w3 hrow3 hgr3 hpl3 K hK)
      have hrow4 : w3.ownsRow w1.heap.size 5 1 v' (k + 1) (bv (abc (k + 1))) := by
        rw [abc_succ, bv_append]
        simpa [bv] using hrow3
      have hb4 : Below w1.heap.size w1 w3 := (HBR.out.alloc hB _).grown hgr3 (by simp; omega) (fun j hj => (World.ownsRow.lt HR.out j hj).1)
      clear hrow3
      go_roundw
      case rel => exact ⟨k + 1, by first | rfl | go_num, by omega, hrow4, hb4⟩
      case measure => simp [intOf]; omega
    · obtain rfl : k = l := by omega
      have hcv := own_convert (abc_lt k) HR.out
      obtain ⟨s, hs⟩ : ∃ s, mkS (abc k) = s := ⟨_, rfl⟩
      have hsz : s.size = k := by rw [← hs, mkS_size, abc_len]
      have hlt : ∀ b ∈ s.data.toList, lett b := by rw [← hs]; exact abc_lett k
      rw [hs] at hcv
      have hGr : Tryz.prog.globals.size ≤ (wr.alloc (.cells #[.int .i64 0, .string s, .int .i64 x] 41)).heap.size := Nat.le_trans hG (Nat.le_trans HB1.out.size (Nat.le_trans hB (by simp)))
      have HAL : Hid (Calls Tryz.prog 5 #[.agg #[.int .i8 7, .string ⟨#[]⟩, .string ⟨#[]⟩, .slice none 0 0, .int .i8 0, .int .i64 0, .int .i64 0, .int .i64 0, .int .i64 0, .int .i8 0, .int .i64 0, .int .i64 0, .int .i64 0, .int .i64 0, .int .i64 0, .int .i64 0, .int .i64 0, .int .i64 0, .int .i64 0, .int .i8 0, .int .i8 0, .int .i8 0, .string ⟨#[]⟩, .int .i8 0, .int .i32 0, .int .i32 0, .int .u8 0, .int .u8 0, .slice none 0 0, .int .i64 0, .int .i64 0, .int .i64 0, .int .i64 0, .int .u8 0], .int .i64 n, .int .i64 1, .agg #[.int .i64 0, .slice (some ⟨wr.heap.size, 0, none⟩) 1 1]] (wr.alloc (.cells #[.int .i64 0, .string s, .int .i64 x] 41)) (AlPost n (vcol (car x s.size) n) (txts s x n) (wr.alloc (.cells #[.int .i64 0, .string s, .int .i64 x] 41)))) :=
        Lib.hid (alone_any n s x hn1 (by omega) hlt hx wr.heap.size _ (heap_alloc_new wr _) hGr)
      rw [hsz] at HAL
      have HS := Lib.hid hs
      have HSZ := Lib.hid hsz
      have HLT := Lib.hid hlt
      obtain ⟨col, hcol⟩ : ∃ col, vcol (car x k) n = col := ⟨_, rfl⟩
      rw [hcol] at HAL
      have HCOL := Lib.hid hcol
      clear hs hsz hlt hcol
      go_upto_region 11 with (first | (go_at_call 5; ((with_reducible refine HAL.out.mono ?_); rintro e2 w2 ⟨D, o, c, rfl, hD, hb2⟩)))
      obtain ⟨w4, hw4⟩ : ∃ w4, w2.alloc (.cells #[.int .i64 n, .int .i64 1, .slice (some ⟨D, o, none⟩) n c, .int .i64 col, .int .i64 0, .bool true] 26) = w4 := ⟨_, rfl⟩
      obtain ⟨Z, hZ⟩ : ∃ Z, w2.heap.size = Z := ⟨_, rfl⟩
      have hb4 : Below w2.heap.size w2 w4 := by rw [← hw4]; exact (Below.refl _ w2).alloc (Nat.le_refl _) _
      have hbE : Below wr.heap.size wr (wr.alloc (.cells #[.int .i64 0, .string s, .int .i64 x] 41)) := (Below.refl _ wr).alloc (Nat.le_refl _) _
      have HZ4 : Hid (Bk1 w4 Z (scrL D o c n col) 26) := Lib.hid (by rw [← hw4, ← hZ]; exact heap_alloc_new w2 _)
      have HD4 : Hid (At w4 D o (rowL (txts s x n))) := Lib.hid (hD.below hb4)
      have HR4 : Hid (w4.ownsRow w1.heap.size 5 1 u9 k (bv (abc k))) := Lib.hid (orow_belowSize (orow_belowSize (orow_belowSize HR.out hbE) hb2) hb4)
      have HB4 : Hid (Below w.heap.size w w4) := Lib.hid (by
        have h1 := HB1.out.trans (HBR.out.mono HB1.out.size)
        have h2 := h1.trans (hbE.mono h1.size)
        have h3 := h2.trans (hb2.mono h2.size)
        exact h3.trans (hb4.mono h3.size))
      obtain ⟨q, hq⟩ : ∃ q, car x k = q := ⟨_, rfl⟩
      have hqk : q ≤ k := by rw [← hq]; unfold car; omega
      have hqi : min (max x 0) (k : Int) = (q : Int) := by rw [← hq]; unfold car; omega
      have hcq : col = min q (n - 1) := by rw [← HCOL.out, hq]; rfl
      have HQ := Lib.hid hq
      rw [hw4, hZ]
      clear hw4 hZ hb4 hbE hb2 hD hq hcv HAL
      obtain ⟨fr, hfr⟩ : ∃ fr, q - col = fr := ⟨_, rfl⟩
      obtain ⟨hi, hhi⟩ : ∃ hi, min k (fr + n) = hi := ⟨_, rfl⟩
      have hfi : max (0 : Int) ((q : Int) - ((n : Int) - 1)) = (fr : Int) := by omega
      have hmi : min (k : Int) ((fr : Int) + n) = (hi : Int) := by omega
      have hfk : fr ≤ k := by omega
      have hfh : fr ≤ hi := by omega
      have hhk : hi ≤ k := by omega
      go_upto_region 13 with (fail)
      go_cut [15] (fun v W => v = .string (mkS (((abc k).drop fr).take (hi - fr))) ∧ W = w4)
      case first =>
        have hlt := abc_lt k
        have hlen := abc_len k
        rcases HR4.out.2 with ⟨rfl, h0⟩ | ⟨g, cap, cur, rfl, hg, hheap, hcap1, hcap2, hcur, htake⟩
        · obtain rfl : k = 0 := h0
          obtain rfl : fr = 0 := by omega
          obtain rfl : hi = 0 := by omega
          have hcv0 : (convert 23 9 (.slice none 0 0)).run Tryz.prog w4 = .ok (.string (mkS [])) w4 := Lib.run_convert_nil_bytes w4 _ _ _ 0 Tryz.underlying23 Tryz.underlying5 Tryz.underlying9
          have hm0 : min (0 : Int) (n : Int) = 0 := by omega
          have he0 : mkS [] = ⟨#[]⟩ := rfl
          rw [he0] at hcv0
          go_wp2
          go_meet
          exact ⟨rfl, rfl⟩
        · obtain ⟨ys, hys⟩ : ∃ ys, ((abc k).drop fr).take (hi - fr) = ys := ⟨_, rfl⟩
          have hyl : ys.length = hi - fr := by rw [← hys]; simp [hlen]; omega
          have hcell : ∀ (j y : Nat), ys[j]? = some y → w4.cell? ⟨g, fr + j, none⟩ = some (.int .u8 y) := fun j y hj => by
            have hj1 := (List.getElem?_eq_some_iff.1 hj).1
            have h1 : (abc k)[fr + j]? = some y := by
              rw [← hys, List.getElem?_take, if_pos (by omega), List.getElem?_drop] at hj
              exact hj
            have h2 := HR4.out.cells (g := g) rfl (fr + j) (.int .u8 y) (by simp [bv, h1])
            rw [Addr.add_lit, Nat.zero_add] at h2
            exact h2
          have hlty : ∀ y ∈ ys, y < 256 := fun y hy => hlt y (by rw [← hys] at hy; exact List.mem_of_mem_drop (List.mem_of_mem_take hy))
          rcases Nat.lt_or_ge fr cap with hfc | hfc
          · have hfc1 : ¬ cap = fr := by omega
            have hfc2 : ¬ fr = cap := by omega
            have hfc3 : ¬ cap - fr = 0 := by omega
            have hcv1 := conv_at (c := cap - fr) hlty hcell
            rw [hyl] at hcv1
            have HYS := Lib.hid hys
            clear hys hcell hlty hlt hlen hheap htake hcur
            go_wp2
            go_meet
            exact ⟨by rw [HYS.out], rfl⟩
          · obtain rfl : cap = fr := by omega
            obtain rfl : hi = cap := by omega
            obtain rfl : ys = [] := List.eq_nil_of_length_eq_zero (by omega)
            have hcv1 : (convert 23 9 (.slice (some ⟨g, 0, none⟩) 0 0)).run Tryz.prog w4 = .ok (.string (mkS [])) w4 := conv_at (off := 0) (c := 0) (ys := []) (fun y hy => by simp at hy) (fun j y hj => by simp at hj)
            have HYS := Lib.hid hys
            clear hys hcell hlty hlt hlen hheap htake hcur
            go_wp2
            go_meet
            exact ⟨by rw [HYS.out], rfl⟩
      case rest =>
      obtain ⟨rfl, hw5⟩ := hcut
      obtain rfl := hw5.symm
      obtain ⟨z, hz⟩ : ∃ z, ((abc k).drop fr).take (hi - fr) = z := ⟨_, rfl⟩
      have hzl : z.length = hi - fr := by rw [← hz]; simp [abc_len]; omega
      have HPL : Hid (mkS (rowB (txts s x n)) = mkS (z ++ List.replicate (n - z.length) 32)) := Lib.hid (by
        rw [← hz, caret_plain k n x s HS.out hn1.1, HCOL.out, HQ.out, hfr, show vmany k fr n = hi - fr by unfold vmany; omega])
      rw [hz]
      have hzn : z.length ≤ n := by omega
      clear hz
      go_wp2
      go_loopw [15] (fun v wr => ∃ (st : ByteArray) (j : Nat), v = .string st ∧ st = mkS (z ++ List.replicate j 32) ∧ st.size = z.length + j ∧ z.length + j ≤ n ∧ wr = w4) (fun v _ => n - strSz v)
      case atStart => exact ⟨_, 0, rfl, by simp, by rw [mkS_size]; rfl, by omega, rfl⟩
      case round =>
        obtain ⟨st, j, rfl, hst, hss, hjn, rfl⟩ := hrel
        have HST := Lib.hid hst
        clear hst
        rcases Nat.lt_or_ge st.size n with hlt2 | hge2
        · have h32 : (⟨#[32]⟩ : ByteArray).size = 1 := rfl
          go_wp2
          all_goals try (exfalso; simp only [maxLen] at *; omega)
          go_roundw
          case rel => exact ⟨_, j + 1, rfl, by rw [HST.out, mkS_snoc32], by simp [ByteArray.size_append]; omega, by omega, by first | rfl | trivial⟩
          case measure => simp [strSz]; omega
        · have hj : j = n - z.length := by omega
          have hEQ : mkS (rowB (txts s x n)) = st := by rw [HPL.out, HST.out, hj]
          have HRO : Hid (Calls Tryz.prog 6 #[.agg #[.int .i64 n, .int .i64 1, .slice (some ⟨D, o, none⟩) n c, .int .i64 col, .int .i64 0, .bool true], .int .i64 0] wr (VBel (.string st) wr)) := Lib.hid (by
            have := row_any D o c n col (txts s x n) wr HD4.out (txts_len s x n) (txts_one s x n) hn1
            rw [hEQ] at this
            exact this)
          have z0 := HZ4.out.cell (j := 0) rfl
          have z1 := HZ4.out.cell (j := 1) rfl
          have z2 := HZ4.out.cell (j := 2) rfl
          have z3 := HZ4.out.cell (j := 3) rfl
          have z4 := HZ4.out.cell (j := 4) rfl
          have z5 := HZ4.out.cell (j := 5) rfl
          have lZ := HZ4.out.lt
          have hqc : (q : Int) - fr = col := by omega
          clear hEQ hj hcq
          go_wp2_with (first | (go_at_call 6; ((with_reducible refine HRO.out.mono ?_); rintro e7 w7 ⟨rfl, hb7⟩; have k3 := (hb7.cell (p := ⟨Z, 3, none⟩) lZ).trans z3; have k4 := (hb7.cell (p := ⟨Z, 4, none⟩) lZ).trans z4; have k5 := (hb7.cell (p := ⟨Z, 5, none⟩) lZ).trans z5)))
          go_ret
          exact ⟨rfl, HB4.out.trans (hb7.mono HB4.out.size)⟩
end Go.Proofs.YtpnjlfnejjjncaaGreatDoor
