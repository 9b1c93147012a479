/-
  The walks of paint's rows.line and picture.row, at a picture of one row of letters.
-/
import Derived.Test.YtpnjlfnejjjncaaGreatDoorCa23
import Derived.Test.YtpnjlfnejjjncaaGreatDoorCa05
set_option linter.unusedVariables false
set_option linter.unusedSimpArgs false
namespace Go.Proofs.YtpnjlfnejjjncaaGreatDoor
open Go.RowKit

set_option maxRecDepth 100000 in
theorem line_any (L oL cL : Nat) (s : ByteArray) (w : World) (h : w.cell? ⟨L, oL, none⟩ = some (.string s)) : Calls Tryz.prog 413 #[.slice (some ⟨L, oL, none⟩) 1 cL, .int .i64 0] w (VBel (.string s) w) := by
  go_enter Tryz.func413, Tryz.ntmps413
  go_wp2
  go_ret
  exact ⟨rfl, Below.refl _ _⟩
def RowPost (n m : Nat) (ts : List ByteArray) (w : World) (e : Ending) (w' : World) : Prop :=
  ∃ S, e = .returned (.slice (some ⟨S, 0, none⟩) n n) ∧ Bk1 w' S (rowL ts) 62 ∧ Below w.heap.size w w' ∧ w.heap.size ≤ S ∧ m = m
set_option maxRecDepth 100000 in
set_option maxHeartbeats 4000000 in
theorem picRow_any (L oL cL n : Nat) (s : ByteArray) (w : World) (hL : w.cell? ⟨L, oL, none⟩ = some (.string s)) (hLl : L < w.heap.size) (hn : 1 ≤ n ∧ n ≤ 60) (hs : s.size ≤ n) (hl : ∀ b ∈ s.data.toList, lett b) :
    Calls Tryz.prog 18 #[.agg (picL L oL cL n).toArray, .int .i64 0] w (RowPost n 0 (txK s.data.toList (List.replicate n sp) s.size) w) := by
  have HNW : Hid (∀ W, Calls Tryz.prog 12 #[.int .i64 n, .int .i64 1] W (NewPost n W)) := Lib.hid fun W => cellsNew_any n hn W
  have HFI : Hid (∀ PB D W, Buf W PB D n (List.replicate n sp) → Calls Tryz.prog 50 #[.pointer (some ⟨PB, 0, none⟩), rectV n, sty0] W (FillPost PB D n W)) := Lib.hid fun PB D W h => fillBlank_any PB D n W h hn
  have HPU : Hid (∀ PB D W, Buf W PB D n (List.replicate n sp) → Calls Tryz.prog 51 #[.pointer (some ⟨PB, 0, none⟩), .int .i64 0, .int .i64 0, .string s, sty0, rectV n] W (cPutPost PB D n s.size (txK s.data.toList (List.replicate n sp) s.size) W)) := Lib.hid fun PB D W h => bufPut_any PB D n s _ W h hn hs hl
  have HSC : Hid (∀ PB D ts W, Buf W PB D n ts → Calls Tryz.prog 15 #[.pointer (some ⟨PB, 0, none⟩)] W (ScrPost n ts W)) := Lib.hid fun PB D ts W h => screen_any PB D n ts W h hn
  have HLI : Hid (∀ W, W.cell? ⟨L, oL, none⟩ = some (.string s) → Calls Tryz.prog 413 #[.slice (some ⟨L, oL, none⟩) 1 cL, .int .i64 0] W (VBel (.string s) W)) := Lib.hid fun W h => line_any L oL cL s W h
  clear hl
  simp only [picL]
  go_enter Tryz.func18, Tryz.ntmps18
  go_upto_region 1 with (fail)
  obtain ⟨w0, hw0⟩ : ∃ w0, w.alloc (.cells #[.iface 142 (.slice (some ⟨L, oL, none⟩) 1 cL), .int .i64 0, .int .i64 0, .int .i64 n, .int .i64 1, .int .i64 0, .int .i64 0, .int .i64 n, .int .i64 1, .int .i64 0, .int .i64 0, .int .i64 n, .int .i64 1, .int .i64 0, .int .i64 0, .int .i64 n, .int .i64 1, .int .i64 0, .int .i64 0, .int .i32 0, .int .i32 0, .int .u8 0, .int .i8 0, .int .i64 0] 89) = w0 := ⟨_, rfl⟩
  obtain ⟨PC, hPCe⟩ : ∃ PC, w.heap.size = PC := ⟨_, rfl⟩
  have hPc : Bk1 w0 PC (picL L oL cL n) 89 := by rw [← hw0, ← hPCe]; exact heap_alloc_new w _
  have hbw : Below w.heap.size w w0 := by rw [← hw0]; exact (Below.refl _ w).alloc (Nat.le_refl _) _
  have hL0 : w0.cell? ⟨L, oL, none⟩ = some (.string s) := (hbw.cell (p := ⟨L, oL, none⟩) hLl).trans hL
  have HPC := Lib.hid hPc
  have HBW := Lib.hid hbw
  have HL0 := Lib.hid hL0
  have p1 := hPc.cell (j := 1) rfl
  have p2 := hPc.cell (j := 2) rfl
  have p3 := hPc.cell (j := 3) rfl
  have p4 := hPc.cell (j := 4) rfl
  have p5 := hPc.cell (j := 5) rfl
  have p6 := hPc.cell (j := 6) rfl
  have p7 := hPc.cell (j := 7) rfl
  have p8 := hPc.cell (j := 8) rfl
  have lPC := hPc.lt
  rw [hw0, hPCe]
  clear hw0 hL hbw hL0 hPc
  go_cut [5, 6] (fun a b W => ∃ A B, a = .pointer (some ⟨A, 0, none⟩) ∧ b = .pointer (some ⟨B, 0, none⟩) ∧ Bk1 W A (rectL n) 71 ∧ Bk1 W B (rectL n) 71 ∧ A ≠ B ∧ w0.heap.size ≤ A ∧ w0.heap.size ≤ B ∧ Below w0.heap.size w0 W)
  case first =>
    go_region
    all_goals go_wp2
    all_goals go_meet
    all_goals first | exact ⟨w0.heap.size, w0.heap.size + 1, rfl, rfl, heap_alloc2_old w0 _ _, heap_alloc2_new w0 _ _, by omega, by omega, by omega, Below.drew (((Below.refl _ w0).alloc (Nat.le_refl _) _).alloc (by simp) _)⟩ | exact ⟨w0.heap.size + 1, w0.heap.size, rfl, rfl, heap_alloc2_new w0 _ _, heap_alloc2_old w0 _ _, by omega, by omega, by omega, Below.drew (((Below.refl _ w0).alloc (Nat.le_refl _) _).alloc (by simp) _)⟩
  case rest =>
  obtain ⟨A, B, rfl, rfl, hA, hB, hAB, hA0, hB0, hb1⟩ := hcut
  have lL0 : L < w0.heap.size := by omega
  have hPC1 := HPC.out.below hb1
  have lL1 : L < wc.heap.size := by have := hb1.size; omega
  have hL1 : wc.cell? ⟨L, oL, none⟩ = some (.string s) := (hb1.cell (p := ⟨L, oL, none⟩) lL0).trans HL0.out
  have HBW1 := Lib.hid (HBW.out.trans (hb1.mono HBW.out.size))
  clear p1 p2 p3 p4 p5 p6 p7 p8 hb1
  have a2 : wc.cell? ⟨A, 2, none⟩ = some (.int .i64 n) := hA.cell (j := 2) rfl
  have lA := hA.lt
  have lB := hB.lt
  have lPC1 := hPC1.lt
  go_upto_region 3 with (first | (go_at_call 12; ((with_reducible refine (HNW.out _).mono ?_); rintro e1' wn ⟨PB, D, rfl, hbuf, hbn, hPB, hD⟩)))
  have hAn := hA.below hbn
  have hBn := hB.below hbn
  have hPCn := hPC1.below hbn
  have hLn : wn.cell? ⟨L, oL, none⟩ = some (.string s) := (hbn.cell (p := ⟨L, oL, none⟩) lL1).trans hL1
  have HBWn := Lib.hid (HBW1.out.trans (hbn.mono HBW1.out.size))
  clear hA hB hPC1 hL1 hbn a2
  have a2 : wn.cell? ⟨A, 2, none⟩ = some (.int .i64 n) := hAn.cell (j := 2) rfl
  go_upto_region 4 with (fail)
  obtain ⟨wz, hwz⟩ : ∃ wz, wn.alloc (.cells #[.int .i64 0, .int .i64 0, .int .i64 n, .int .i64 1] 71) = wz := ⟨_, rfl⟩
  obtain ⟨Z, hZe⟩ : ∃ Z, wn.heap.size = Z := ⟨_, rfl⟩
  have hbz : Below wn.heap.size wn wz := by rw [← hwz]; exact (Below.refl _ wn).alloc (Nat.le_refl _) _
  have hZ : Bk1 wz Z (rectL n) 71 := by rw [← hwz, ← hZe]; exact heap_alloc_new wn _
  have lAn := hAn.lt
  have lBn := hBn.lt
  have lPn := hPCn.lt
  have lbP := hbuf.hd.lt
  have lbD := hbuf.row.lt
  have lLn : L < wn.heap.size := by omega
  have hAz := hAn.below hbz
  have hBz := hBn.below hbz
  have hPCz := hPCn.below hbz
  have hbufz := hbuf.below hbz
  have hLz : wz.cell? ⟨L, oL, none⟩ = some (.string s) := (hbz.cell (p := ⟨L, oL, none⟩) lLn).trans hLn
  have HBWz := Lib.hid (HBWn.out.trans (hbz.mono HBWn.out.size))
  have HFZ := Lib.hid (HFI.out PB D wz hbufz)
  rw [hwz, hZe]
  clear hwz hAn hBn hPCn hLn hbz a2
  have z0 := hZ.cell (j := 0) rfl
  have z1 := hZ.cell (j := 1) rfl
  have z2 := hZ.cell (j := 2) rfl
  have z3 := hZ.cell (j := 3) rfl
  have s0 := hPCz.cell (j := 19) rfl
  have s1 := hPCz.cell (j := 20) rfl
  have s2 := hPCz.cell (j := 21) rfl
  have lZ := hZ.lt
  have lAz := hAz.lt
  have lBz := hBz.lt
  have lPz := hPCz.lt
  go_upto_region 5 with (first | (go_at_call 50; ((with_reducible refine HFZ.out.mono ?_); rintro e1' wf ⟨rfl, hbuff, hgf⟩)))
  have hAf := hAz.grown hgf (by simp; omega)
  have hBf := hBz.grown hgf (by simp; omega)
  have hPCf := hPCz.grown hgf (by simp; omega)
  have hZf := hZ.grown hgf (by simp; omega)
  have hDL : D ≠ L := by omega
  have hLf : wf.cell? ⟨L, oL, none⟩ = some (.string s) := (World.cell?_of_block (a := ⟨L, oL, none⟩) (hgf.block L (by omega) (by simp; omega))).trans hLz
  have HBWf := Lib.hid (below_new HBWz.out hgf (by omega))
  clear hAz hBz hPCz hZ hLz z0 z1 z2 z3 s0 s1 s2 hgf hbufz hbuf
  have b1 := hBf.cell (j := 1) rfl
  have b3 := hBf.cell (j := 3) rfl
  have c22 := hPCf.cell (j := 22) rfl
  have h01 : (0 : Int) < 1 := by omega
  go_upto_region 9 with (fail)
  have a0 := hAf.cell (j := 0) rfl
  have b0 := hBf.cell (j := 0) rfl
  have b2 := hBf.cell (j := 2) rfl
  have c0 := hPCf.cell (j := 0) rfl
  have c19 := hPCf.cell (j := 19) rfl
  have c20 := hPCf.cell (j := 20) rfl
  have c21 := hPCf.cell (j := 21) rfl
  have c23 := hPCf.cell (j := 23) rfl
  have lAf := hAf.lt
  have lBf := hBf.lt
  have lPf := hPCf.lt
  have lLf : L < wf.heap.size := by omega
  have HBUFF := Lib.hid hbuff
  have HK : Hid (∀ w6 : World, Below wf.drew.heap.size wf.drew w6 → w6.cell? ⟨A, 0, none⟩ = some (.int .i64 0) ∧ w6.cell? ⟨B, 0, none⟩ = some (.int .i64 0) ∧ w6.cell? ⟨B, 2, none⟩ = some (.int .i64 n) ∧ w6.cell? ⟨PC, 0, none⟩ = some (.iface 142 (.slice (some ⟨L, oL, none⟩) 1 cL)) ∧ w6.cell? ⟨PC, 19, none⟩ = some (.int .i32 0) ∧ w6.cell? ⟨PC, 20, none⟩ = some (.int .i32 0) ∧ w6.cell? ⟨PC, 21, none⟩ = some (.int .u8 0) ∧ w6.cell? ⟨PC, 23, none⟩ = some (.int .i64 0)) := Lib.hid fun w6 hb =>
    ⟨(hb.cell (p := ⟨A, 0, none⟩) lAf).trans a0, (hb.cell (p := ⟨B, 0, none⟩) lBf).trans b0, (hb.cell (p := ⟨B, 2, none⟩) lBf).trans b2, (hb.cell (p := ⟨PC, 0, none⟩) lPf).trans c0, (hb.cell (p := ⟨PC, 19, none⟩) lPf).trans c19, (hb.cell (p := ⟨PC, 20, none⟩) lPf).trans c20, (hb.cell (p := ⟨PC, 21, none⟩) lPf).trans c21, (hb.cell (p := ⟨PC, 23, none⟩) lPf).trans c23⟩
  have HJ : Hid (∀ w6 w7 : World, Below wf.drew.heap.size wf.drew w6 → w6.grownBy w7 (some D) → w7.cell? ⟨A, 0, none⟩ = some (.int .i64 0) ∧ w7.cell? ⟨B, 0, none⟩ = some (.int .i64 0) ∧ w7.cell? ⟨B, 2, none⟩ = some (.int .i64 n) ∧ w7.cell? ⟨PC, 0, none⟩ = some (.iface 142 (.slice (some ⟨L, oL, none⟩) 1 cL)) ∧ w7.cell? ⟨PC, 19, none⟩ = some (.int .i32 0) ∧ w7.cell? ⟨PC, 20, none⟩ = some (.int .i32 0) ∧ w7.cell? ⟨PC, 21, none⟩ = some (.int .u8 0) ∧ w7.cell? ⟨PC, 23, none⟩ = some (.int .i64 0)) := Lib.hid fun w6 w7 hb hg => by
    have hA7 : Bk1 w7 A (rectL n) 71 := (Bk1.below (W := wf.drew) hAf hb).grown hg (by simp; omega)
    have hB7 : Bk1 w7 B (rectL n) 71 := (Bk1.below (W := wf.drew) hBf hb).grown hg (by simp; omega)
    have hP7 : Bk1 w7 PC (picL L oL cL n) 89 := (Bk1.below (W := wf.drew) hPCf hb).grown hg (by simp; omega)
    exact ⟨hA7.cell (j := 0) rfl, hB7.cell (j := 0) rfl, hB7.cell (j := 2) rfl, hP7.cell (j := 0) rfl, hP7.cell (j := 19) rfl, hP7.cell (j := 20) rfl, hP7.cell (j := 21) rfl, hP7.cell (j := 23) rfl⟩
  have hLd : wf.drew.cell? ⟨L, oL, none⟩ = some (.string s) := hLf
  have HLf := Lib.hid hLd
  clear hbuff hLf hLd b1 b3 c22 h01
  have EW : Hid (IntKind.i64.wrap 0 = 0) := Lib.hid (by decide)
  have hmeth : ∀ W, (method 607 142 (.slice (some ⟨L, oL, none⟩) 1 cL) "fresco/paint.line").run Tryz.prog W = .ok (413, .slice (some ⟨L, oL, none⟩) 1 cL) W := fun W => by kernel_rfl
  go_region_held3 (fun W => W.cell? ⟨A, 0, none⟩ = some (.int .i64 0) ∧ W.cell? ⟨B, 0, none⟩ = some (.int .i64 0) ∧ W.cell? ⟨B, 2, none⟩ = some (.int .i64 n) ∧ W.cell? ⟨PC, 0, none⟩ = some (.iface 142 (.slice (some ⟨L, oL, none⟩) 1 cL)) ∧ W.cell? ⟨PC, 19, none⟩ = some (.int .i32 0) ∧ W.cell? ⟨PC, 20, none⟩ = some (.int .i32 0) ∧ W.cell? ⟨PC, 21, none⟩ = some (.int .u8 0) ∧ W.cell? ⟨PC, 23, none⟩ = some (.int .i64 0))
    (first | exact ⟨a0, b0, b2, c0, c19, c20, c21, c23⟩ | exact ⟨k0, k1, k2, k3, k4, k5, k6, k7⟩ | exact ⟨j0, j1, j2, j3, j4, j5, j6, j7⟩)
    (first | (go_at_call 413; ((with_reducible refine (HLI.out _ HLf.out).mono ?_); rintro e1' w6 ⟨rfl, hb6⟩; obtain ⟨k0, k1, k2, k3, k4, k5, k6, k7⟩ := HK.out w6 hb6)) | (go_at_call 51; rw [EW.out, EW.out]; ((with_reducible refine (HPU.out PB D _ (HBUFF.out.drew.below hb6)).mono ?_); rintro e1' w7 ⟨rfl, hb7, hg7⟩; obtain ⟨j0, j1, j2, j3, j4, j5, j6, j7⟩ := HJ.out w6 w7 hb6 hg7)))
  have hfld : ∀ (S : Nat) (W : World), (Instr.field 26 (.agg #[.int .i64 n, .int .i64 1, .slice (some ⟨S, 0, none⟩) n n, .int .i64 0, .int .i64 0, .bool false]) 2).run Tryz.prog W = .ok (.slice (some ⟨S, 0, none⟩) n n) W := fun S W => by kernel_rfl
  have hb6w : Below w.heap.size w w6 := HBWf.out.trans ((Below.drew (Below.refl _ wf)).trans hb6 |>.mono HBWf.out.size)
  have hb7w : Below w.heap.size w w7 := below_new hb6w hg7 (by omega)
  go_wp2_with (first | (go_at_call 15; ((with_reducible refine (HSC.out PB D _ _ hb7).mono ?_); rintro e1' w8 ⟨S, rfl, hS, hb8, hS8⟩)))
  go_ret
  exact ⟨S, rfl, hS, hb7w.trans (hb8.mono hb7w.size), Nat.le_trans hb7w.size hS8, rfl⟩
end Go.Proofs.YtpnjlfnejjjncaaGreatDoor
