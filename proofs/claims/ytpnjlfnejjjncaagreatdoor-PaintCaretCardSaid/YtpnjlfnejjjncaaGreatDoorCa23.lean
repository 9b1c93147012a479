/-
  The walk of (*cells.Buffer).Put, at a text of small letters that has room, from the row's first cell on.
-/
import Derived.Test.YtpnjlfnejjjncaaGreatDoorCa19
import Derived.Test.YtpnjlfnejjjncaaGreatDoorCa22
import Derived.Laws.MakeOwn
import Derived.BigQuiet
import Derived.Deep.QuietTactic
import Derived.Laws.CopyRow
import Derived.Laws.IdiomCopy
set_option linter.unusedVariables false
set_option linter.unusedSimpArgs false
namespace Go.Proofs.YtpnjlfnejjjncaaGreatDoor
open Go.RowKit

/-- The texts of a row behind k letters. -/
def txK (l : List UInt8) (ts : List ByteArray) (k : Nat) : List ByteArray := (l.take k).map (fun b => mkS [b.toNat]) ++ ts.drop k
theorem txK_zero (l : List UInt8) (ts : List ByteArray) : txK l ts 0 = ts := by simp [txK]
theorem txK_len (l : List UInt8) (ts : List ByteArray) (k : Nat) (h : k ≤ l.length) (h2 : k ≤ ts.length) : (txK l ts k).length = ts.length := by simp [txK]; omega
theorem txK_succ (l : List UInt8) (ts : List ByteArray) (k : Nat) (b : UInt8) (h : l[k]? = some b) (h2 : k < ts.length) : (txK l ts k).set k (mkS [b.toNat]) = txK l ts (k + 1) := by
  obtain ⟨h1, h3⟩ := List.getElem?_eq_some_iff.1 h
  have hl : ((l.take k).map (fun b => mkS [b.toNat])).length = k := by simp; omega
  unfold txK
  rw [List.set_append_right _ _ (by rw [hl]; exact Nat.le_refl _), hl, Nat.sub_self, List.take_succ_eq_append_getElem h1, h3]
  have hd : (List.drop k ts).set 0 (mkS [b.toNat]) = mkS [b.toNat] :: List.drop (k + 1) ts := by rw [List.drop_eq_getElem_cons h2]; rfl
  rw [hd]; simp
theorem grown1_new {w w1 : World} {b : Nat} {row : Option Nat} (h : w.grownBy w1 (some b)) (hb : w.heap.size ≤ b) : w.grownBy w1 row :=
  ⟨h.os, h.tape, h.output, h.size, fun i hi _ => h.block i hi (by simp; omega)⟩
def cPutPost (PB D n m : Nat) (ts : List ByteArray) (w : World) (e : Ending) (w' : World) : Prop := e = .returned (.int .i64 m) ∧ Buf w' PB D n ts ∧ w.grownBy w' (some D)
set_option maxRecDepth 100000 in
set_option maxHeartbeats 4000000 in
theorem bufPut_any (PB D n : Nat) (s : ByteArray) (ts : List ByteArray) (w : World) (hB : Buf w PB D n ts) (hn : 1 ≤ n ∧ n ≤ 60) (hs : s.size ≤ n) (hl : ∀ b ∈ s.data.toList, lett b) :
    Calls Tryz.prog 51 #[.pointer (some ⟨PB, 0, none⟩), .int .i64 0, .int .i64 0, .string s, sty0, rectV n] w (cPutPost PB D n s.size (txK s.data.toList ts s.size) w) := by
  have HFL := Lib.hid (flow_any s (by omega) )
  have HWI : Hid (∀ W, Buf W PB D n ts → Calls Tryz.prog 160 #[.pointer (some ⟨PB, 0, none⟩), rectV n] W (VBel (rectV n) W)) := Lib.hid fun W h => window_any PB D n ts W h hn
  have HLA : Hid (∀ (i : Nat) (t : ByteArray) (ts : List ByteArray) (W : World), Buf W PB D n ts → i < n → Calls Tryz.prog 162 #[.pointer (some ⟨PB, 0, none⟩), .int .i64 i, .int .i64 0, cellV t, rectV n] W (SetPost PB D n (ts.set i t) W)) := Lib.hid fun i t ts W h hi => lay_any PB D n i t ts W h hi hn.2
  have HB := Lib.hid hB
  have HL := Lib.hid hl
  rw [flow_lett _ hl] at HFL
  obtain ⟨m, hm⟩ : ∃ m, s.size = m := ⟨_, rfl⟩
  have hlen : (one1 s.data.toList).length = m := by rw [one1_len, blen]; exact hm
  have HM := Lib.hid hlen
  have HF2 : Hid (∀ W, Calls Tryz.prog 126 #[.string s] W (VRow 140 2 m (cv (one1 s.data.toList)) W)) := Lib.hid (by
    intro W
    have := HFL.out W
    rw [← hlen]; exact this)
  rw [hm] at hs ⊢
  clear HFL hl hlen hm hB
  go_enter Tryz.func51, Tryz.ntmps51
  have l2 := HB.out.hd.lt
  have lD := HB.out.row.lt
  have hbA : ∀ e1 e2, Below w.heap.size w ((w.alloc e1).alloc e2) := fun e1 e2 => ((Below.refl _ w).alloc (Nat.le_refl _) _).alloc (by simp) _
  go_upto_region 5 with (first | (go_at_call 160; ((with_reducible refine (HWI.out _ (HB.out.below (hbA _ _))).mono ?_); rintro e1' w5 ⟨rfl, hb5⟩)))
  have hx0 : min (max (0 : Int) (-1099511627776)) 1099511627776 = 0 := by decide
  obtain ⟨b, hb⟩ : ∃ b, w.heap.size = b := ⟨_, rfl⟩
  obtain ⟨r, hr⟩ : ∃ r, w5.heap.size = r := ⟨_, rfl⟩
  obtain ⟨w7, hw7⟩ : ∃ w7, w5.alloc (.cells #[.int .i64 0, .int .i64 0, .int .i64 n, .int .i64 1] 71) = w7 := ⟨_, rfl⟩
  have hbr : b + 1 < r := by have := hb5.size; simp at this; omega
  have hb7 : Below w.heap.size w w7 := by rw [← hw7]; exact ((hbA _ _).trans (hb5.mono (hbA _ _).size)).alloc (by omega) _
  have hS7 : Bk1 w7 b [.int .i32 0, .int .i32 0, .int .u8 0] 59 := by
    rw [← hw7, ← hb]
    exact Bk1.below (Bk1.below (heap_alloc2_old w _ _) hb5) ((Below.refl _ _).alloc (Nat.le_refl _) _)
  have hR7 : Bk1 w7 r [.int .i64 0, .int .i64 0, .int .i64 n, .int .i64 1] 71 := by rw [← hw7, ← hr]; exact heap_alloc_new _ _
  have hB7 := HB.out.below hb7
  have HB7 := Lib.hid hb7
  rw [hx0, hw7, hb, hr]
  clear hw7 hb5 hbA hb7 hx0
  have s0 := hS7.cell (j := 0) rfl
  have s1 := hS7.cell (j := 1) rfl
  have s2 := hS7.cell (j := 2) rfl
  have HOV : Hid (∀ W, Calls Tryz.prog 37 #[sty0, .slice none 0 0] W (VBel sty0 W)) := Lib.hid over_zero
  have lb := hS7.lt
  have lr := hR7.lt
  go_upto_region 6 with (first | (go_at_call 37; ((with_reducible refine (HOV.out _).mono ?_); rintro e2' w8 ⟨rfl, hb8⟩; have hS8 := hS7.below hb8; have f0 := hS8.froz 0; have f1 := hS8.froz 1; have f2 := hS8.froz 2; have z0 := hS8.cell (j := 0) rfl; have z1 := hS8.cell (j := 1) rfl; have z2 := hS8.cell (j := 2) rfl)))
  obtain ⟨w9, hw9⟩ : ∃ w9, ((w8.setCell ⟨b, 0, none⟩ (.int .i32 0)).setCell ⟨b, 1, none⟩ (.int .i32 0)).setCell ⟨b, 2, none⟩ (.int .u8 0) = w9 := ⟨_, rfl⟩
  have hg9 : w7.grownBy w9 (some b) := by rw [← hw9]; exact grown1_trans (grown1_below hb8) (grown1_trans (grown1_trans (grown1_set w8 b 0 (.int .i32 0)) (grown1_set _ b 1 (.int .i32 0))) (grown1_set _ b 2 (.int .u8 0)))
  have hS9 : Bk1 w9 b [.int .i32 0, .int .i32 0, .int .u8 0] 59 := by rw [← hw9]; exact ((hS8.set 0 (.int .i32 0)).set 1 (.int .i32 0)).set 2 (.int .u8 0)
  have hR9 : Bk1 w9 r [.int .i64 0, .int .i64 0, .int .i64 n, .int .i64 1] 71 := hR7.grown hg9 (by simp; omega)
  have hB9 : Buf w9 PB D n ts := ⟨hB7.hd.grown hg9 (by simp; omega), hB7.row.grown hg9 (by simp; omega), hB7.len, hB7.ne⟩
  have hb9 : w.grownBy w9 (some b) := grown1_trans (grown1_below HB7.out) hg9
  rw [hw9]
  clear hw9 hS8 f0 f1 f2 z0 z1 z2 hS7 hR7 hB7 s0 s1 s2 hg9
  have lb := hS9.lt
  have lr := hR9.lt
  have lP := hB9.hd.lt
  have lD2 := hB9.row.lt
  go_wp2_with (first | (go_at_call 126; ((with_reducible refine (HF2.out _).mono ?_); rintro e wf ⟨v, rfl, hbf, hrow⟩; obtain ⟨A, c, rfl, hc1, hc2, hA⟩ := slice_form2 hrow; have HA := Lib.hid hA; clear hA hrow)))
  have hSf := hS9.below hbf
  have hRf := hR9.below hbf
  have hBf := hB9.below hbf
  have hgf : w.grownBy wf (some b) := grown1_trans hb9 (grown1_below hbf)
  have HGf := Lib.hid hgf
  have HSf := Lib.hid hSf
  have HRf := Lib.hid hRf
  have HBf := Lib.hid hBf
  have hsz := hbf.size
  clear hS9 hR9 hB9 hb9 hgf hSf hRf hBf hbf
  go_loopw [14, 30] (fun nn i wr => ∃ k : Nat, nn = .int .i64 k ∧ i = .int .i64 k ∧ k ≤ m ∧ Buf wr PB D n (txK s.data.toList ts k) ∧ wf.grownBy wr (some D)) (fun nn i _ => m - (intOf i).toNat)
  case atStart => exact ⟨0, rfl, rfl, by omega, by rw [txK_zero]; exact HBf.out, grown1_below (Below.refl _ _)⟩
  case round =>
    obtain ⟨k, rfl, rfl, hk, hBk, hgk⟩ := hrel
    have HBk := Lib.hid hBk
    have HGk := Lib.hid hgk
    have hSz := hgk.size
    have lBk := hBk.hd.lt
    clear hBk hgk
    by_cases hlt : k < m
    · obtain ⟨g, rfl, hgB, hg, hc⟩ := HA.out (by omega)
      obtain ⟨bt, hbt⟩ : ∃ bt, s.data.toList[k]? = some bt := ⟨_, List.getElem?_eq_getElem (by have := HM.out; rw [one1_len] at this; omega)⟩
      have hy : (one1 s.data.toList)[k]? = some ([bt.toNat], 1) := by simp [one1, hbt]
      have hbl : lett bt := HL.out bt (List.mem_of_getElem? hbt)
      have hgD : D ≠ g := by omega
      have hcel : ∀ (j : Nat) (v : Value), wf.cell? ⟨g, j, none⟩ = some v → wr.cell? ⟨g, j, none⟩ = some v := fun j v hv => (World.cell?_of_block (a := ⟨g, j, none⟩) (HGk.out.block g hg (by simp; omega))).trans hv
      have hc0 : wr.cell? ⟨g, k * 2, none⟩ = some (.string (mkS [bt.toNat])) := hcel _ _ (hc _ _ (cv_get _ k _ hy).1)
      have hc1 : wr.cell? ⟨g, k * 2 + 1, none⟩ = some (.int .i64 1) := hcel _ _ (hc _ _ (cv_get _ k _ hy).2)
      have hSr : Bk1 wr b [.int .i32 0, .int .i32 0, .int .u8 0] 59 := HSf.out.grown HGk.out (by simp; omega)
      have hRr : Bk1 wr r [.int .i64 0, .int .i64 0, .int .i64 n, .int .i64 1] 71 := HRf.out.grown HGk.out (by simp; omega)
      have lSr := hSr.lt
      have lRr := hRr.lt
      have e1 : ¬ mkS [bt.toNat] = ⟨#[10]⟩ := fun h => by
        have := (line_mk (c := ([bt.toNat], 1)) (by intro x hx; simp at hx; subst hx; exact bt.toNat_lt)).1 h
        simp [lett] at this hbl
        omega
      have e2 : ((mkS [bt.toNat]).toList == [10]) = false := by simp; exact fun h => e1 (ba_toList h)
      have HTX := Lib.hid (txK_succ s.data.toList ts k bt hbt (by have := HBf.out.len; omega))
      obtain ⟨t, ht⟩ : ∃ t, mkS [bt.toNat] = t := ⟨_, rfl⟩
      rw [ht] at hc0 e1 e2 HTX
      clear hc hy hbl ht hcel
      go_upto_region 12 with (fail)
      obtain ⟨wc, hwc⟩ : ∃ wc, wr.alloc (.cells #[.string t, .int .i64 1] 140) = wc := ⟨_, rfl⟩
      obtain ⟨CB, hCB⟩ : ∃ CB, wr.heap.size = CB := ⟨_, rfl⟩
      have hbc : Below wr.heap.size wr wc := by rw [← hwc]; exact (Below.refl _ wr).alloc (Nat.le_refl _) _
      have hCK : Bk1 wc CB [.string t, .int .i64 1] 140 := by rw [← hwc, ← hCB]; exact heap_alloc_new _ _
      have hSc := hSr.below hbc
      have hRc := hRr.below hbc
      have HBc := Lib.hid (HBk.out.below hbc)
      have HGc := Lib.hid (grown1_trans HGk.out (grown1_below hbc))
      have lDc := HBk.out.row.lt
      have hCD : CB ≠ D := by omega
      rw [hwc, hCB]
      clear hwc hSr hRr hc0 hc1
      have s0 := hSc.cell (j := 0) rfl
      have s1 := hSc.cell (j := 1) rfl
      have s2 := hSc.cell (j := 2) rfl
      have r0 := hRc.cell (j := 0) rfl
      have r1 := hRc.cell (j := 1) rfl
      have r2 := hRc.cell (j := 2) rfl
      have r3 := hRc.cell (j := 3) rfl
      have c0 := hCK.cell (j := 0) rfl
      have c1 := hCK.cell (j := 1) rfl
      go_wp2_with (first | (go_at_call 162; ((with_reducible refine (HLA.out k t _ _ HBc.out (by omega)).mono ?_); rintro e6 w6 ⟨rfl, hB6, hg6⟩; have hC6 := hCK.grown hg6 (by simp [hCD]); have k0 := hC6.cell (j := 0) rfl; have k1 := hC6.cell (j := 1) rfl)))
      go_roundw
      case rel => exact ⟨k + 1, by go_num, by go_num, by omega, by rw [← HTX.out]; exact hB6, grown1_trans HGc.out hg6⟩
      case measure => simp [intOf]; omega
    · obtain rfl : k = m := by omega
      go_wp2
      go_ret
      exact ⟨rfl, HBk.out, grown1_trans (grown1_new HGf.out (by omega)) HGk.out⟩
end Go.Proofs.YtpnjlfnejjjncaaGreatDoor
/-
  The walk of cells.New, at a screen of one row.
-/
namespace Go.Proofs.YtpnjlfnejjjncaaGreatDoor
open Go.RowKit

def sizedT : List (List Value × Value) := (List.range 60).map fun i => ([.int .i64 (i + 1 : Nat), .int .i64 1], .bool true)
set_option maxRecDepth 100000 in
theorem sizedT_ok : Go.Eng.tabOk Tryz.prog Go.Eng.kn0 20000 29 sizedT = true := by kernel_rfl
theorem sized_any (n : Nat) (h : 1 ≤ n ∧ n ≤ 60) (W : World) : Calls Tryz.prog 29 #[.int .i64 n, .int .i64 1] W (VBel (.bool true) W) :=
  tab_at Go.Eng.kn0_ok sizedT_ok (List.mem_map.2 ⟨n - 1, List.mem_range.2 (by omega), by rw [show n - 1 + 1 = n by omega]⟩) W
/-- The text of a blank. -/
abbrev sp : ByteArray := ⟨#[32]⟩
theorem mk_cells (N : Nat) (hN : N ≤ 60) (w : World) : ∃ l : List Value, l.length = N * 5 ∧ (Instr.makeSlice 24 (.int .i64 N) (.int .i64 N)).run Tryz.prog w = .ok (.slice (some ⟨w.heap.size, 0, none⟩) N N) (w.alloc (.cells l.toArray 62)) := by
  obtain ⟨i0, hi, hz0, hz1, hz2⟩ := info_parts (P := Tryz.prog) (show (Tryz.prog.info? 62).map (fun i => (i.zero, i.size, i.bytes)) = some (some (.agg #[.string ⟨#[]⟩, .int .i8 0, .int .i32 0, .int .i32 0, .int .u8 0]), 5, 32) by kernel_rfl)
  have := run_make (P := Tryz.prog) w 24 62 i0 _ Tryz.underlying24 hi hz0 .i64 .i64 N N (by omega) (Int.le_refl _) (by rw [hz2]; omega) (by omega)
  rw [hz1] at this
  refine ⟨(madeCells _ ((N : Int).toNat * 5)).toList, ?_, by simpa using this⟩
  rw [Array.length_toList, size_madeCells]; simp
def rowK (k : Nat) (l : List Value) : List Value := rowL (List.replicate k sp) ++ l
theorem rowK_set {n k : Nat} {l : List Value} (hl : l.length = (n - k) * 5) (hk : k < n) : ∃ l', l'.length = (n - (k + 1)) * 5 ∧ (((((rowK k l).set (k * 5) (.string sp)).set (k * 5 + 1) (.int .i8 1)).set (k * 5 + 2) (.int .i32 0)).set (k * 5 + 3) (.int .i32 0)).set (k * 5 + 4) (.int .u8 0) = rowK (k + 1) l' ∧
    ∀ j, j < 5 → ∃ v, (rowK k l)[k * 5 + j]? = some v := by
  have hL : (rowL (List.replicate k sp)).length = k * 5 := by rw [rowL_len, List.length_replicate]; omega
  match l, hl with
  | a :: b :: c :: d :: e :: l', hl =>
    simp at hl
    refine ⟨l', by omega, ?_, fun j hj => ?_⟩
    · unfold rowK
      rw [List.set_append_right _ _ (by omega), List.set_append_right _ _ (by omega), List.set_append_right _ _ (by omega), List.set_append_right _ _ (by omega), List.set_append_right _ _ (by omega), hL]
      rw [Nat.sub_self, show k * 5 + 1 - k * 5 = 1 by omega, show k * 5 + 2 - k * 5 = 2 by omega, show k * 5 + 3 - k * 5 = 3 by omega, show k * 5 + 4 - k * 5 = 4 by omega]
      simp [rowL, List.replicate_succ', cel]
    · unfold rowK
      rw [List.getElem?_append_right (by omega), hL, show k * 5 + j - k * 5 = j by omega]
      exact ⟨_, List.getElem?_eq_getElem (by simp; omega)⟩
  | [], hl => simp at hl; omega
  | [_], hl => simp at hl; omega
  | [_, _], hl => simp at hl; omega
  | [_, _, _], hl => simp at hl; omega
  | [_, _, _, _], hl => simp at hl; omega
theorem below_new {w w1 w2 : World} {b : Nat} (h : Below w.heap.size w w1) (k : w1.grownBy w2 (some b)) (hb : w.heap.size ≤ b) : Below w.heap.size w w2 :=
  ⟨k.os.trans h.os, k.tape.trans h.tape, k.output.trans h.output, Nat.le_trans h.size k.size, fun i hi => (k.block i (Nat.lt_of_lt_of_le hi h.size) (by simp; omega)).trans (h.block i hi)⟩
def NewPost (n : Nat) (w : World) (e : Ending) (w' : World) : Prop :=
  ∃ PB D, e = .returned (.tuple #[.pointer (some ⟨PB, 0, none⟩), .int .i64 0]) ∧ Buf w' PB D n (List.replicate n sp) ∧ Below w.heap.size w w' ∧ w.heap.size ≤ PB ∧ w.heap.size ≤ D
set_option maxRecDepth 100000 in
set_option maxHeartbeats 4000000 in
theorem cellsNew_any (n : Nat) (hn : 1 ≤ n ∧ n ≤ 60) (w : World) : Calls Tryz.prog 12 #[.int .i64 n, .int .i64 1] w (NewPost n w) := by
  have HZ : Hid (∀ W, Calls Tryz.prog 29 #[.int .i64 n, .int .i64 1] W (VBel (.bool true) W)) := Lib.hid fun W => sized_any n hn W
  go_enter Tryz.func12, Tryz.ntmps12
  go_upto_region 3 with (first | (go_at_call 29; ((with_reducible refine (HZ.out _).mono ?_); rintro e1' w1 ⟨rfl, hb1⟩)))
  obtain ⟨l0, hl0, hmk⟩ := mk_cells n hn.2 w1
  go_wp2
  obtain ⟨D, hD⟩ : ∃ D, w1.heap.size = D := ⟨_, rfl⟩
  obtain ⟨w2, hw2⟩ : ∃ w2, (w1.alloc (.cells l0.toArray 62)).alloc (.cells #[.int .i64 n, .int .i64 1, .slice (some ⟨D, 0, none⟩) n n] 119) = w2 := ⟨_, rfl⟩
  have hb2 : Below w.heap.size w w2 := by rw [← hw2]; exact (hb1.alloc hb1.size _).alloc (by have := hb1.size; simp; omega) _
  have hD2 : Bk1 w2 D l0 62 := by rw [← hw2, ← hD]; exact heap_alloc2_old _ _ _
  have hP2 : Bk1 w2 (D + 1) (bufL n D) 119 := by rw [← hw2, ← hD]; exact heap_alloc2_new _ _ _
  rw [hD, hw2]
  have hDw : w.heap.size ≤ D := by have := hb1.size; omega
  have HD := Lib.hid hD
  clear hw2 hb1 hmk hD
  go_loopw [25] (fun i wr => ∃ (k : Nat) (l : List Value), i = .int .i64 k ∧ k ≤ n ∧ l.length = (n - k) * 5 ∧ Bk1 wr D (rowK k l) 62 ∧ Bk1 wr (D + 1) (bufL n D) 119 ∧ w2.grownBy wr (some D)) (fun i _ => n - (intOf i).toNat)
  case atStart => exact ⟨0, l0, rfl, by omega, by omega, hD2, hP2, grown1_below (Below.refl _ _)⟩
  case round =>
    obtain ⟨k, l, rfl, hk, hl, hDr, hPr, hg⟩ := hrel
    have HG := Lib.hid hg
    clear hg hD2 hP2
    by_cases hlt : k < n
    · obtain ⟨l', hl', hset, hget⟩ := rowK_set hl hlt
      obtain ⟨v0, g0⟩ := hget 0 (by omega)
      obtain ⟨v1, g1⟩ := hget 1 (by omega)
      obtain ⟨v2, g2⟩ := hget 2 (by omega)
      obtain ⟨v3, g3⟩ := hget 3 (by omega)
      obtain ⟨v4, g4⟩ := hget 4 (by omega)
      have c0 : wr.cell? ⟨D, k * 5, none⟩ = some v0 := hDr.cell g0
      have c1 := hDr.cell g1
      have c2 := hDr.cell g2
      have c3 := hDr.cell g3
      have c4 := hDr.cell g4
      have f0 := hDr.froz (k * 5)
      have f1 := hDr.froz (k * 5 + 1)
      have f2 := hDr.froz (k * 5 + 2)
      have f3 := hDr.froz (k * 5 + 3)
      have f4 := hDr.froz (k * 5 + 4)
      have p2 := hPr.cell (j := 2) rfl
      have hS := ((((hDr.set (k * 5) (.string sp)).set (k * 5 + 1) (.int .i8 1)).set (k * 5 + 2) (.int .i32 0)).set (k * 5 + 3) (.int .i32 0)).set (k * 5 + 4) (.int .u8 0)
      rw [hset] at hS
      have hg5 := grown1_trans (grown1_trans (grown1_trans (grown1_trans (grown1_set wr D (k * 5) (.string sp)) (grown1_set _ D (k * 5 + 1) (.int .i8 1))) (grown1_set _ D (k * 5 + 2) (.int .i32 0))) (grown1_set _ D (k * 5 + 3) (.int .i32 0))) (grown1_set _ D (k * 5 + 4) (.int .u8 0))
      have HS := Lib.hid hS
      have HG5 := Lib.hid hg5
      have HP5 := Lib.hid (hPr.grown hg5 (by simp))
      clear hDr hPr hS hset hget g0 g1 g2 g3 g4 hg5 hl
      go_wp2
      go_roundw
      case rel => exact ⟨k + 1, l', by go_num, by omega, hl', HS.out, HP5.out, grown1_trans HG.out HG5.out⟩
      case measure => simp [intOf]; omega
    · obtain rfl : k = n := by omega
      obtain rfl : l = [] := List.length_eq_zero_iff.1 (by rw [hl]; simp)
      have HX : Hid (Buf wr (D + 1) D k (List.replicate k sp)) := Lib.hid ⟨hPr, by simpa [rowK] using hDr, by simp, by omega⟩
      go_wp2
      go_ret2
      exact ⟨D + 1, D, rfl, HX.out, below_new hb2 HG.out hDw, by omega, hDw⟩
end Go.Proofs.YtpnjlfnejjjncaaGreatDoor
/-
  The walk of (*cells.Buffer).part, at the whole buffer.
-/
namespace Go.Proofs.YtpnjlfnejjjncaaGreatDoor
open Go.RowKit

theorem rowL_one (ts : List ByteArray) (i : Nat) (h : i < ts.length) : (rowL ts)[i * 5 + 1]? = some (.int .i8 1) := rowL_get ts i 1 _ (List.getElem?_eq_getElem h) (by omega)
set_option maxRecDepth 100000 in
set_option maxHeartbeats 4000000 in
theorem part_any (PB D n : Nat) (ts : List ByteArray) (w : World) (hB : Buf w PB D n ts) (hn : 1 ≤ n ∧ n ≤ 60) :
    Calls Tryz.prog 161 #[.pointer (some ⟨PB, 0, none⟩), rectV n] w (VBel (.tuple #[]) w) := by
  have p0 := hB.hd.cell (j := 0) rfl
  have p2 := hB.hd.cell (j := 2) rfl
  have c1 : w.cell? ⟨D, 1, none⟩ = some (.int .i8 1) := hB.row.cell (j := 1) (by have := rowL_one ts 0 (by rw [hB.len]; omega); simpa using this)
  have lP := hB.hd.lt
  have lD := hB.row.lt
  clear hB
  have h0 : (0 : Int) < n := by omega
  have h1 : 0 < n := by omega
  have ix0 : ∀ W, (Instr.index 322 (.agg #[.int .i64 0, .int .i64 n]) (.int .i64 0)).run Tryz.prog W = .ok (.int .i64 0) W := fun W => by kernel_rfl
  have ix1 : ∀ W, (Instr.index 322 (.agg #[.int .i64 0, .int .i64 n]) (.int .i64 1)).run Tryz.prog W = .ok (.int .i64 n) W := fun W => by kernel_rfl
  go_enter Tryz.func161, Tryz.ntmps161
  go_wp2
  refine wp_loop_rounds 2 ?_
  rw [rounds_succ]
  go_wp2
  refine wp_loop_rounds 3 ?_
  rw [rounds_succ]
  go_wp2
  go_quiet (fail)
  go_wp2
  rw [rounds_succ]
  go_wp2
  go_quiet (fail)
  go_wp2
  rw [rounds_succ]
  go_wp2
  rw [rounds_succ]
  go_wp2
  go_end0
  exact ⟨rfl, below_drewN ((Below.refl _ w).alloc (Nat.le_refl _) _) _⟩
end Go.Proofs.YtpnjlfnejjjncaaGreatDoor
/-
  The walk of (*cells.Buffer).Fill, at the whole buffer of blanks.
-/
namespace Go.Proofs.YtpnjlfnejjjncaaGreatDoor
open Go.RowKit

theorem set_rep (n i : Nat) : (List.replicate n sp).set i sp = List.replicate n sp := by
  apply List.ext_getElem?
  intro j
  by_cases h : i = j
  · subst h
    by_cases hi : i < n
    · simp [hi]
    · rw [List.getElem?_eq_none (by simp; omega), List.getElem?_eq_none (by simp; omega)]
  · rw [List.getElem?_set_ne h]
theorem fill_step {wr w6 : World} {PB D n R k : Nat} {rl sl : List Value} {rt st : TypeId} (hB : Buf wr PB D n (List.replicate n sp)) (hR : Bk1 wr R rl rt) (hS : Bk1 wr (R + 1) sl st) (hb : Below wr.drew.heap.size wr.drew w6) (hk : k < n) (h1 : D < R) (_h2 : PB < R) :
    Buf (((((w6.setCell ⟨D, k * 5, none⟩ (.string sp)).setCell ⟨D, k * 5 + 1, none⟩ (.int .i8 1)).setCell ⟨D, k * 5 + 2, none⟩ (.int .i32 0)).setCell ⟨D, k * 5 + 3, none⟩ (.int .i32 0)).setCell ⟨D, k * 5 + 4, none⟩ (.int .u8 0)) PB D n (List.replicate n sp) ∧
    Bk1 (((((w6.setCell ⟨D, k * 5, none⟩ (.string sp)).setCell ⟨D, k * 5 + 1, none⟩ (.int .i8 1)).setCell ⟨D, k * 5 + 2, none⟩ (.int .i32 0)).setCell ⟨D, k * 5 + 3, none⟩ (.int .i32 0)).setCell ⟨D, k * 5 + 4, none⟩ (.int .u8 0)) R rl rt ∧
    Bk1 (((((w6.setCell ⟨D, k * 5, none⟩ (.string sp)).setCell ⟨D, k * 5 + 1, none⟩ (.int .i8 1)).setCell ⟨D, k * 5 + 2, none⟩ (.int .i32 0)).setCell ⟨D, k * 5 + 3, none⟩ (.int .i32 0)).setCell ⟨D, k * 5 + 4, none⟩ (.int .u8 0)) (R + 1) sl st ∧
    wr.grownBy (((((w6.setCell ⟨D, k * 5, none⟩ (.string sp)).setCell ⟨D, k * 5 + 1, none⟩ (.int .i8 1)).setCell ⟨D, k * 5 + 2, none⟩ (.int .i32 0)).setCell ⟨D, k * 5 + 3, none⟩ (.int .i32 0)).setCell ⟨D, k * 5 + 4, none⟩ (.int .u8 0)) (some D) := by
  have hg5 := grown1_trans (grown1_trans (grown1_trans (grown1_trans (grown1_set w6 D (k * 5) (.string sp)) (grown1_set _ D (k * 5 + 1) (.int .i8 1))) (grown1_set _ D (k * 5 + 2) (.int .i32 0))) (grown1_set _ D (k * 5 + 3) (.int .i32 0))) (grown1_set _ D (k * 5 + 4) (.int .u8 0))
  have hg : wr.grownBy w6 (some D) := grown1_trans (grown1_drew (grown1_below (Below.refl _ wr))) (grown1_below hb)
  have h6 : Buf w6 PB D n (List.replicate n sp) := hB.drew.below hb
  have r := ((((h6.row.set (k * 5) (.string sp)).set (k * 5 + 1) (.int .i8 1)).set (k * 5 + 2) (.int .i32 0)).set (k * 5 + 3) (.int .i32 0)).set (k * 5 + 4) (.int .u8 0)
  rw [← rowL_set (List.replicate n sp) k sp (by simp [hk]), set_rep] at r
  exact ⟨⟨h6.hd.grown hg5 (by simp [h6.ne]), r, h6.len, h6.ne⟩, (hR.grown hg (by simp; omega)).grown hg5 (by simp; omega), (hS.grown hg (by simp; omega)).grown hg5 (by simp; omega), grown1_trans hg hg5⟩
def FillPost (PB D n : Nat) (w : World) (e : Ending) (w' : World) : Prop := e = .returned (.tuple #[]) ∧ Buf w' PB D n (List.replicate n sp) ∧ w.grownBy w' (some D)
set_option maxRecDepth 100000 in
set_option maxHeartbeats 4000000 in
theorem fillBlank_any (PB D n : Nat) (w : World) (hB : Buf w PB D n (List.replicate n sp)) (hn : 1 ≤ n ∧ n ≤ 60) :
    Calls Tryz.prog 50 #[.pointer (some ⟨PB, 0, none⟩), rectV n, sty0] w (FillPost PB D n w) := by
  have HWI : Hid (∀ W, Buf W PB D n (List.replicate n sp) → Calls Tryz.prog 160 #[.pointer (some ⟨PB, 0, none⟩), rectV n] W (VBel (rectV n) W)) := Lib.hid fun W h => window_any PB D n _ W h hn
  have HPA : Hid (∀ W, Buf W PB D n (List.replicate n sp) → Calls Tryz.prog 161 #[.pointer (some ⟨PB, 0, none⟩), rectV n] W (VBel (.tuple #[]) W)) := Lib.hid fun W h => part_any PB D n _ W h hn
  have HBL : Hid (∀ W, Calls Tryz.prog 19 #[sty0] W (VBel (cellV sp) W)) := Lib.hid blank_zero
  have HB := Lib.hid hB
  have lP := hB.hd.lt
  have lD := hB.row.lt
  clear hB
  go_enter Tryz.func50, Tryz.ntmps50
  have hbA : ∀ e1 e2, Below w.heap.size w ((w.alloc e1).alloc e2) := fun e1 e2 => ((Below.refl _ w).alloc (Nat.le_refl _) _).alloc (by simp) _
  go_upto_region 3 with (first | (go_at_call 160; ((with_reducible refine (HWI.out _ (HB.out.below (hbA _ _))).mono ?_); rintro e1' w5 ⟨rfl, hb5⟩; have hR5 := Bk1.below (heap_alloc2_old w _ _) hb5; have z0 := hR5.cell (j := 0) rfl; have z1 := hR5.cell (j := 1) rfl; have z2 := hR5.cell (j := 2) rfl; have z3 := hR5.cell (j := 3) rfl; have f0 := hR5.froz 0; have f1 := hR5.froz 1; have f2 := hR5.froz 2; have f3 := hR5.froz 3)))
  obtain ⟨w7, hw7⟩ : ∃ w7, ((((w5.setCell ⟨w.heap.size, 0, none⟩ (.int .i64 0)).setCell ⟨w.heap.size, 1, none⟩ (.int .i64 0)).setCell ⟨w.heap.size, 2, none⟩ (.int .i64 n)).setCell ⟨w.heap.size, 3, none⟩ (.int .i64 1)) = w7 := ⟨_, rfl⟩
  have hS5 := Bk1.below (heap_alloc2_new w (.cells #[.int .i64 0, .int .i64 0, .int .i64 n, .int .i64 1] 71) (.cells #[.int .i32 0, .int .i32 0, .int .u8 0] 59)) hb5
  have hg7 : w5.grownBy w7 (some w.heap.size) := by rw [← hw7]; exact grown1_trans (grown1_trans (grown1_trans (grown1_set w5 _ 0 _) (grown1_set _ _ 1 _)) (grown1_set _ _ 2 _)) (grown1_set _ _ 3 _)
  have hR7 : Bk1 w7 w.heap.size [.int .i64 0, .int .i64 0, .int .i64 n, .int .i64 1] 71 := by rw [← hw7]; exact (((hR5.set 0 (.int .i64 0)).set 1 (.int .i64 0)).set 2 (.int .i64 n)).set 3 (.int .i64 1)
  have hS7 : Bk1 w7 (w.heap.size + 1) [.int .i32 0, .int .i32 0, .int .u8 0] 59 := Bk1.grown hS5 hg7 (by simp)
  have hb7 : Below w.heap.size w w7 := below_new ((hbA _ _).trans (hb5.mono (hbA _ _).size)) hg7 (Nat.le_refl _)
  have HB7 := Lib.hid (HB.out.below hb7)
  have HBW := Lib.hid hb7
  obtain ⟨R, hR⟩ : ∃ R, w.heap.size = R := ⟨_, rfl⟩
  rw [hw7, hR]
  rw [hR] at hR7 hS7 lP lD
  clear hw7 hb5 z0 z1 z2 z3 f0 f1 f2 f3 hR5 hS5 hg7 hbA hb7
  have z0 := hR7.cell (j := 0) rfl
  have z1 := hR7.cell (j := 1) rfl
  have z2 := hR7.cell (j := 2) rfl
  have z3 := hR7.cell (j := 3) rfl
  go_upto_region 4 with (first | (go_at_call 161; ((with_reducible refine (HPA.out _ HB7.out).mono ?_); rintro e1' w8 ⟨rfl, hb8⟩)))
  have HR8 := Lib.hid (Bk1.below hR7 hb8)
  have HS8 := Lib.hid (Bk1.below hS7 hb8)
  have HB8 := Lib.hid (HB7.out.below hb8)
  have hbr : R ≤ w8.heap.size := by have := HBW.out.size; have := hb8.size; omega
  have HG8 := Lib.hid (grown1_trans (row := some D) (grown1_below HBW.out) (grown1_below hb8))
  have h0 : (0 : Int) < 1 := by omega
  clear hR7 hS7 z0 z1 z2 z3 hb8
  have hR8 := HR8.out
  have z0 := hR8.cell (j := 0) rfl
  have z1 := hR8.cell (j := 1) rfl
  have z2 := hR8.cell (j := 2) rfl
  have z3 := hR8.cell (j := 3) rfl
  go_wp2
  refine wp_loop_rounds 2 ?_
  rw [rounds_succ]
  go_wp2
  clear hR8 z0 z1 z2 z3
  go_loopw [7] (fun x wr => ∃ k : Nat, x = .int .i64 k ∧ k ≤ n ∧ Buf wr PB D n (List.replicate n sp) ∧ Bk1 wr R [.int .i64 0, .int .i64 0, .int .i64 n, .int .i64 1] 71 ∧ Bk1 wr (R + 1) [.int .i32 0, .int .i32 0, .int .u8 0] 59 ∧ w8.grownBy wr (some D)) (fun x _ => n - (intOf x).toNat)
  case atStart => exact ⟨0, rfl, by omega, HB8.out, HR8.out, HS8.out, grown1_below (Below.refl _ _)⟩
  case round =>
    obtain ⟨k, rfl, hk, hBr, hRr, hSr, hg⟩ := hrel
    have HBr := Lib.hid hBr
    have HRr := Lib.hid hRr
    have HSr := Lib.hid hSr
    have HG := Lib.hid hg
    have p0 := hBr.hd.cell (j := 0) rfl
    have p2 := hBr.hd.cell (j := 2) rfl
    have lPr := hBr.hd.lt
    have lDr := hBr.row.lt
    have z0 := hRr.cell (j := 0) rfl
    have z1 := hRr.cell (j := 1) rfl
    have z2 := hRr.cell (j := 2) rfl
    have z3 := hRr.cell (j := 3) rfl
    have s0 := hSr.cell (j := 0) rfl
    have s1 := hSr.cell (j := 1) rfl
    have s2 := hSr.cell (j := 2) rfl
    clear hBr hRr hSr hg
    by_cases hlt : k < n
    · go_upto_region 10 with (fail)
      have HF : Hid (∀ w6 : World, Below wr.drew.heap.size wr.drew w6 → w6.cell? ⟨PB, 0, none⟩ = some (.int .i64 n) ∧ w6.cell? ⟨PB, 2, none⟩ = some (.slice (some ⟨D, 0, none⟩) n n) ∧ w6.cell? ⟨D, k * 5, none⟩ = some (.string sp) ∧ w6.cell? ⟨D, k * 5 + 1, none⟩ = some (.int .i8 1) ∧ w6.cell? ⟨D, k * 5 + 2, none⟩ = some (.int .i32 0) ∧ w6.cell? ⟨D, k * 5 + 3, none⟩ = some (.int .i32 0) ∧ w6.cell? ⟨D, k * 5 + 4, none⟩ = some (.int .u8 0) ∧ (∀ j, w6.frozen? ⟨D, j, none⟩ = false)) := Lib.hid fun w6 hb => by
        have hB6 : Buf w6 PB D n (List.replicate n sp) := HBr.out.drew.below hb
        have ht : (List.replicate n sp)[k]? = some sp := by simp [hlt]
        exact ⟨hB6.hd.cell (j := 0) rfl, hB6.hd.cell (j := 2) rfl, hB6.row.cell (rowL_get _ k 0 sp ht (by omega)), hB6.row.cell (rowL_get _ k 1 sp ht (by omega)), hB6.row.cell (rowL_get _ k 2 sp ht (by omega)), hB6.row.cell (rowL_get _ k 3 sp ht (by omega)), hB6.row.cell (rowL_get _ k 4 sp ht (by omega)), fun j => hB6.row.froz j⟩
      clear z0 z1 z2 z3
      have EW : IntKind.i64.wrap (IntKind.i64.wrap 0 + (k : Int)) = k := by simp [IntKind.wrap, IntKind.min, IntKind.max, IntKind.signed, IntKind.bits]; omega
      go_region_with (first | (go_at_call 19; ((with_reducible refine (HBL.out _).mono ?_); rintro e1' w6 ⟨rfl, hb6⟩; obtain ⟨q0, q2, c0, c1, c2, c3, c4, f⟩ := HF.out w6 hb6; have f0 := f (k * 5); have f1 := f (k * 5 + 1); have f2 := f (k * 5 + 2); have f3 := f (k * 5 + 3); have f4 := f (k * 5 + 4); clear f)))
      all_goals
        have hst := fill_step HBr.out HRr.out HSr.out hb6 hlt (by omega) (by omega)
        go_wp2
        go_roundw
        case rel => exact ⟨k + 1, by go_num, by omega, hst.1, hst.2.1, hst.2.2.1, grown1_trans HG.out hst.2.2.2⟩
        case measure => simp [intOf]; omega
    · obtain rfl : k = n := by omega
      go_wp2
      rw [rounds_succ]
      go_wp2
      refine bodyPost_ret (results_none rfl _ _ _) rfl ?_
      exact ⟨rfl, HBr.out, grown1_trans HG8.out HG.out⟩
end Go.Proofs.YtpnjlfnejjjncaaGreatDoor
/-
  The walk of (*cells.Buffer).Screen.
-/
namespace Go.Proofs.YtpnjlfnejjjncaaGreatDoor
open Go.RowKit

theorem run_copy_whole {P : Program} (w : World) (dT sT ty elem : TypeId) (g n c c2 : Nat) (a : Addr) (sz : Nat) (cur cs : List Value) (t : TypeId)
    (hu : P.underlying dT = some (.slice elem)) (hs : (P.info? elem).map (·.size) = some sz)
    (hg : w.heap[g]? = some (.cells cur.toArray t (0, 0))) (hl : cur.length = n * sz) (hcl : cs.length = n * sz)
    (hsrc : ∀ j v, cs[j]? = some v → w.cell? (a.add j) = some v) (h1 : ∀ v ∈ cs, v.oneCell' = true) :
    (Builtin.copy_ #[dT, sT] ty #[.slice (some ⟨g, 0, none⟩) n c, .slice (some a) n c2]).run P w = .ok (goInt n) (w.setRow g cs.toArray) := by
  have hld := run_loadCells_list (P := P) w a cs hsrc
  have hst := run_storeCells_at P g 0 t cs 0 cur.toArray w hg (by simp; omega) h1
  have hd : cur.drop cs.length = [] := List.drop_eq_nil_of_le (by omega)
  simp [hd] at hst
  cases hq : P.info? elem with
  | none => simp [hq] at hs
  | some i =>
    have hi : i.size = sz := by simpa [hq] using hs
    simp [Builtin.copy_, run_underlying hu, Builtin.lenOf, Builtin.firstCells, sizeOf, typeInfo, hq, hi, ← hcl, hld, hst]
theorem cel_one (ts : List ByteArray) : ∀ v ∈ rowL ts, v.oneCell' = true := fun v hv => by
  obtain ⟨t, _, h⟩ := List.mem_flatMap.1 hv
  simp [cel] at h
  rcases h with rfl | rfl | rfl | rfl <;> rfl
theorem Bk1.setRow {W : World} {b : Nat} {l : List Value} {e : TypeId} (h : Bk1 W b l e) (cs : List Value) : Bk1 (W.setRow b cs.toArray) b cs e := setRow_heap W b _ _ e _ h
theorem grown1_setRow (W : World) (b : Nat) (cs : Array Value) : W.grownBy (W.setRow b cs) (some b) :=
  ⟨rfl, rfl, rfl, by simp [World.setRow], fun k _ hk => setRow_other W b k cs (fun e => hk (by simp [e]))⟩
theorem mk_cellsW (N : Nat) (hN : N ≤ 60) : ∃ l : List Value, l.length = N * 5 ∧ ∀ w : World, (Instr.makeSlice 24 (.int .i64 N) (.int .i64 N)).run Tryz.prog w = .ok (.slice (some ⟨w.heap.size, 0, none⟩) N N) (w.alloc (.cells l.toArray 62)) := by
  obtain ⟨i0, hi, hz0, hz1, hz2⟩ := info_parts (P := Tryz.prog) (show (Tryz.prog.info? 62).map (fun i => (i.zero, i.size, i.bytes)) = some (some (.agg #[.string ⟨#[]⟩, .int .i8 0, .int .i32 0, .int .i32 0, .int .u8 0]), 5, 32) by kernel_rfl)
  refine ⟨(madeCells (Value.agg #[.string ⟨#[]⟩, .int .i8 0, .int .i32 0, .int .i32 0, .int .u8 0]).cells ((N : Int).toNat * 5)).toList, ?_, fun w => ?_⟩
  · rw [Array.length_toList, size_madeCells]; simp
  · have := run_make (P := Tryz.prog) w 24 62 i0 _ Tryz.underlying24 hi hz0 .i64 .i64 N N (by omega) (Int.le_refl _) (by rw [hz2]; omega) (by omega)
    rw [hz1] at this
    simpa using this
def ScrPost (n : Nat) (ts : List ByteArray) (w : World) (e : Ending) (w' : World) : Prop :=
  ∃ S, e = .returned (.agg #[.int .i64 n, .int .i64 1, .slice (some ⟨S, 0, none⟩) n n, .int .i64 0, .int .i64 0, .bool false]) ∧ Bk1 w' S (rowL ts) 62 ∧ Below w.heap.size w w' ∧ w.heap.size ≤ S
set_option maxRecDepth 100000 in
set_option maxHeartbeats 4000000 in
theorem screen_any (PB D n : Nat) (ts : List ByteArray) (w : World) (hB : Buf w PB D n ts) (hn : 1 ≤ n ∧ n ≤ 60) :
    Calls Tryz.prog 15 #[.pointer (some ⟨PB, 0, none⟩)] w (ScrPost n ts w) := by
  have HB := Lib.hid hB
  have p0 := hB.hd.cell (j := 0) rfl
  have p1 := hB.hd.cell (j := 1) rfl
  have p2 := hB.hd.cell (j := 2) rfl
  have lP := hB.hd.lt
  have lD := hB.row.lt
  clear hB
  go_enter Tryz.func15, Tryz.ntmps15
  go_upto_region 3 with (fail)
  obtain ⟨l0, hl0, hmk⟩ := mk_cellsW n hn.2
  obtain ⟨w1, hw1⟩ : ∃ w1, w.alloc (.cells #[.int .i64 0, .int .i64 0, .slice none 0 0, .int .i64 0, .int .i64 0, .bool false] 26) = w1 := ⟨_, rfl⟩
  have hb1 : Below w.heap.size w w1 := by rw [← hw1]; exact (Below.refl _ w).alloc (Nat.le_refl _) _
  have hT : Bk1 w1 w.heap.size [.int .i64 0, .int .i64 0, .slice none 0 0, .int .i64 0, .int .i64 0, .bool false] 26 := by rw [← hw1]; exact heap_alloc_new _ _
  have HB1 := Lib.hid (HB.out.below hb1)
  have HBW := Lib.hid hb1
  have p0 := HB1.out.hd.cell (j := 0) rfl
  have p1 := HB1.out.hd.cell (j := 1) rfl
  have p2 := HB1.out.hd.cell (j := 2) rfl
  have lP := HB1.out.hd.lt
  have lD := HB1.out.row.lt
  have HT := Lib.hid hT
  have HTl := Lib.hid hT.lt
  have hTw : w.heap.size < w1.heap.size := hT.lt
  obtain ⟨T, hTT⟩ : ∃ T, w.heap.size = T := ⟨_, rfl⟩
  rw [hw1, hTT]
  clear hw1 hb1 hT
  go_cut [3] (fun v W => ∃ X S, v = .pointer (some ⟨X, 0, none⟩) ∧ Bk1 W X [.int .i64 n, .int .i64 1, .slice (some ⟨S, 0, none⟩) n n, .int .i64 0, .int .i64 0, .bool false] 26 ∧ Bk1 W S l0 62 ∧ X ≠ S ∧ w1.heap.size ≤ X ∧ w1.heap.size ≤ S ∧ Below w1.heap.size w1 W)
  case first =>
    go_region
    · go_wp2
      go_meet
      exact ⟨w1.heap.size + 1, w1.heap.size, rfl, heap_alloc2_new w1 _ _, heap_alloc2_old w1 _ _, by omega, by omega, by omega, Below.drew (((Below.refl _ w1).alloc (Nat.le_refl _) _).alloc (by simp) _)⟩
    · go_wp2
      go_meet
      exact ⟨w1.heap.size, w1.heap.size + 1, rfl, heap_alloc2_old w1 _ _, heap_alloc2_new w1 _ _, by omega, by omega, by omega, Below.drew (((Below.refl _ w1).alloc (Nat.le_refl _) _).alloc (by simp) _)⟩
  case rest =>
  obtain ⟨X, S, rfl, hX, hS, hXS, hX1, hS1, hb2⟩ := hcut
  have hBc : Buf wc PB D n ts := HB1.out.below hb2
  have x2 := hX.cell (j := 2) rfl
  have q2 := hBc.hd.cell (j := 2) rfl
  have hrun : ∀ ty, (Builtin.copy_ #[24, 24] ty #[.slice (some ⟨S, 0, none⟩) n n, .slice (some ⟨D, 0, none⟩) n n]).run Tryz.prog wc.drew = .ok (goInt n) (wc.drew.setRow S (rowL ts).toArray) := fun ty => by
    obtain ⟨i0, hi, hz0, hz1, hz2⟩ := info_parts (P := Tryz.prog) (show (Tryz.prog.info? 62).map (fun i => (i.zero, i.size, i.bytes)) = some (some (.agg #[.string ⟨#[]⟩, .int .i8 0, .int .i32 0, .int .i32 0, .int .u8 0]), 5, 32) by kernel_rfl)
    refine run_copy_whole wc.drew _ _ ty 62 S n n n _ 5 l0 (rowL ts) 62 Tryz.underlying24 (by rw [hi]; exact congrArg some hz1) hS hl0 (by rw [rowL_len, hBc.len]; omega) (fun j v hv => ?_) (cel_one ts)
    have := (hBc.row.cell hv : wc.cell? ⟨D, j, none⟩ = some v)
    have e : (⟨D, 0, none⟩ : Addr).add j = ⟨D, j, none⟩ := by unfold Addr.add; split <;> simp_all
    rw [e]
    exact this
  have lX := hX.lt
  go_upto_region 4 with (fail)
  go_region
  obtain ⟨w5, hw5⟩ : ∃ w5, wc.drew.setRow S (rowL ts).toArray = w5 := ⟨_, rfl⟩
  have hS5 : Bk1 w5 S (rowL ts) 62 := by rw [← hw5]; exact Bk1.setRow (W := wc.drew) hS _
  have hg5 : wc.grownBy w5 (some S) := by rw [← hw5]; exact grown1_trans (grown1_drew (grown1_below (Below.refl _ _))) (grown1_setRow _ _ _)
  have hX5 := hX.grown hg5 (by simp [hXS])
  have hTc : Bk1 wc T [.int .i64 0, .int .i64 0, .slice none 0 0, .int .i64 0, .int .i64 0, .bool false] 26 := by rw [← hTT]; exact HT.out.below hb2
  have hT5 := hTc.grown hg5 (by simp; omega)
  have hb5 : Below w.heap.size w w5 := below_new (HBW.out.trans (hb2.mono HBW.out.size)) hg5 (by omega)
  rw [hw5]
  clear hw5 hrun x2 q2 p0 p1 p2 hmk hS hX hTc hb2 hg5
  have x0 := hX5.cell (j := 0) rfl
  have x1 := hX5.cell (j := 1) rfl
  have x2 := hX5.cell (j := 2) rfl
  have x3 := hX5.cell (j := 3) rfl
  have x4 := hX5.cell (j := 4) rfl
  have x5 := hX5.cell (j := 5) rfl
  have t0 := hT5.cell (j := 0) rfl
  have t1 := hT5.cell (j := 1) rfl
  have t2 := hT5.cell (j := 2) rfl
  have t3 := hT5.cell (j := 3) rfl
  have t4 := hT5.cell (j := 4) rfl
  have t5 := hT5.cell (j := 5) rfl
  have f0 := hT5.froz 0
  have f1 := hT5.froz 1
  have f2 := hT5.froz 2
  have f3 := hT5.froz 3
  have f4 := hT5.froz 4
  have f5 := hT5.froz 5
  go_wp2
  have hF := (((((hT5.set 0 (.int .i64 n)).set 1 (.int .i64 1)).set 2 (.slice (some ⟨S, 0, none⟩) n n)).set 3 (.int .i64 0)).set 4 (.int .i64 0)).set 5 (.bool false)
  have hg := grown1_trans (grown1_trans (grown1_trans (grown1_trans (grown1_trans (grown1_set w5 T 0 (.int .i64 n)) (grown1_set _ T 1 (.int .i64 1))) (grown1_set _ T 2 (.slice (some ⟨S, 0, none⟩) n n))) (grown1_set _ T 3 (.int .i64 0))) (grown1_set _ T 4 (.int .i64 0))) (grown1_set _ T 5 (.bool false))
  apply bodyPost_ret (results_cell_row (cs := #[.int .i64 n, .int .i64 1, .slice (some ⟨S, 0, none⟩) n n, .int .i64 0, .int .i64 0, .bool false]) rfl _ _ T _ _ _ rfl hF Tryz.underlying26 rfl (by kernel_rfl)) rfl
  exact ⟨S, rfl, hS5.grown hg (by simp; omega), below_new hb5 hg (by omega), by omega⟩
end Go.Proofs.YtpnjlfnejjjncaaGreatDoor
