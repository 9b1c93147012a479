/-
  The walk of measure.New at a row of two texts.
-/
import Derived.Test.YthhomflonpjbmaaGreatDoorQt24
import Derived.Test.YthhomflonpjbmaaGreatDoorQt17
import Derived.Deep.AppendLies
namespace Go.Proofs.YthhomflonpjbmaaGreatDoor
open Go.RowKit Go.Maps
theorem elI : ElOK 38 3 1 8 (.int .i64 0) := ⟨Tryz.underlying38, by kernel_rfl, rfl, by decide, by decide⟩
theorem cells_append {w : World} {g o : Nat} {A B : List Value} (hA : ∀ (j : Nat) (u : Value), A[j]? = some u → w.cell? ⟨g, o + j, none⟩ = some u) (hB : ∀ (j : Nat) (u : Value), B[j]? = some u → w.cell? ⟨g, o + A.length + j, none⟩ = some u) :
    ∀ (j : Nat) (u : Value), (A ++ B)[j]? = some u → w.cell? ⟨g, o + j, none⟩ = some u := by
  intro j u h
  rcases Nat.lt_or_ge j A.length with hj | hj
  · rw [List.getElem?_append_left hj] at h; exact hA j u h
  · rw [List.getElem?_append_right hj] at h
    have := hB _ u h
    rw [show o + A.length + (j - A.length) = o + j by omega] at this; exact this
/-- At block g all cells but these are as they were. -/
def SameBut (g : Nat) (S : List Nat) (w w' : World) : Prop := ∀ q, S.contains q = false → w'.cell? ⟨g, q, none⟩ = w.cell? ⟨g, q, none⟩
theorem SameBut.refl (g : Nat) (S : List Nat) (w : World) : SameBut g S w w := fun _ _ => rfl
theorem SameBut.alloc {g : Nat} {S : List Nat} {w a : World} (h : SameBut g S w a) (hg : g < a.heap.size) (o : Obj) : SameBut g S w (a.alloc o) := fun q hq => (World.cell?_alloc_lt a o ⟨g, q, none⟩ hg).trans (h q hq)
theorem SameBut.set {g : Nat} {S : List Nat} {w a : World} (h : SameBut g S w a) {p : Nat} (hp : S.contains p = true) (v : Value) : SameBut g S w (a.setCell ⟨g, p, none⟩ v) := fun q hq => (setCell_far a v (by rintro rfl; rw [hp] at hq; cases hq)).trans (h q hq)
theorem SameBut.other {g g' : Nat} {S : List Nat} {w a : World} (h : SameBut g S w a) (hg : g' ≠ g) (p : Nat) (v : Value) : SameBut g S w (a.setCell ⟨g', p, none⟩ v) := fun q hq => by
  rw [← h q hq]
  apply World.cell?_setCell_other
  intro e; injection e with e1; exact hg e1
/-- There is such a cell. -/
def HasCell (g q : Nat) (w : World) : Prop := ∃ u, w.cell? ⟨g, q, none⟩ = some u
theorem HasCell.alloc {g q : Nat} {w : World} (h : HasCell g q w) (o : Obj) : HasCell g q (w.alloc o) := by
  obtain ⟨u, hu⟩ := h
  exact ⟨u, (World.cell?_alloc_lt w o ⟨g, q, none⟩ (World.block_lt_of_cell? w _ hu)).trans hu⟩
theorem HasCell.set {g q : Nat} {w : World} (h : HasCell g q w) (p : Nat) (v : Value) : HasCell g q (w.setCell ⟨g, p, none⟩ v) := by
  obtain ⟨u, hu⟩ := h
  by_cases e : p = q
  · subst e; exact ⟨v, setCell_here w v hu⟩
  · exact ⟨u, (setCell_far w v e).trans hu⟩
set_option maxRecDepth 100000 in
set_option maxHeartbeats 1500000 in
theorem new_three (w : World) (g kb kc c : Nat) (t0 t1 t2 : ByteArray) (h : Three w g kb kc t0 t1 t2) (hg : g < w.heap.size) (hkb : kb < w.heap.size) (h0 : (t0.size : Int) ≤ 65536) (h1 : (t1.size : Int) ≤ 65536) (h2 : (t2.size : Int) ≤ 65536) :
    Calls Tryz.prog 8 #[.agg #[.slice (some ⟨g, 0, none⟩) 3 c]] w (fun e W => ∃ pm g' bk bm cc kN kc' k1 k2, e = .returned (.tuple #[.pointer (some ⟨pm, 0, none⟩), .int .i64 0]) ∧ NewAt w pm g' bk bm 3 cc W ∧
      NodeIn W g' 0 2 (.slice (some ⟨kN, 0, none⟩) 2 kc') 1 0 0 0 0 0 0 t0 ∧ NodeIn W g' 34 1 k1 0 0 0 0 0 0 0 t1 ∧ NodeIn W g' 68 1 k2 0 0 0 0 0 0 0 t2 ∧ W.cell? ⟨kN, 0, none⟩ = some (.int .i64 1) ∧ W.cell? ⟨kN, 1, none⟩ = some (.int .i64 2) ∧ kN ≠ bm) := by
  have HCK := Lib.hid fun W (hb : Below w.heap.size w W) => check_three W g kb kc c t0 t1 t2 (h.below hb hg hkb) (Nat.lt_of_lt_of_le hg hb.size) (Nat.lt_of_lt_of_le hkb hb.size) h0 h1 h2
  have HT := Lib.hid h
  clear h h0 h1 h2
  go_enter Tryz.func8, Tryz.ntmps8
  go_upto_region 4 with (go_at_call 19; ((with_reducible refine (HCK.out _ (by (repeat (first | exact Below.refl _ _ | assumption | refine below_drewN ?_ _ | refine Below.drew ?_ | (refine Below.alloc ?_ ?bs _; (case bs => first | omega | (simp; done) | (simp; omega))) | (refine Below.setCell ?_ ?bs _; (case bs => first | omega | (simp; done) | (simp; omega))))))).mono ?_); rintro e1' w2 ⟨rfl, hb2⟩; have hz2 := hb2.size; have hbx : w2.cell? ⟨w.heap.size, 0, none⟩ = some (.slice (some ⟨g, 0, none⟩) 3 c) := (hb2.cell (p := ⟨w.heap.size, 0, none⟩) (by simp)).trans (cell_newB _ _ _ _ _ rfl); have hlw : w.heap.size < w2.heap.size := (by simp at hz2; omega); clear hz2; have hB2 : Below w.heap.size w w2 := Below.trans (by (repeat (first | exact Below.refl _ _ | assumption | refine below_drewN ?_ _ | refine Below.drew ?_ | (refine Below.alloc ?_ ?bs _; (case bs => first | omega | (simp; done) | (simp; omega))) | (refine Below.setCell ?_ ?bs _; (case bs => first | omega | (simp; done) | (simp; omega)))))) (hb2.mono (by simp)); clear hb2))
  have HB2 := Lib.hid hB2
  have hl2 := hB2.size
  clear hB2
  have HNW : Hid (∀ j u, (nodeL 2 (.slice (some ⟨kb, 0, none⟩) 2 kc) 1 0 0 0 0 0 0 t0 ++ (nodeL 1 (.slice none 0 0) 0 0 0 0 0 0 0 t1 ++ nodeL 1 (.slice none 0 0) 0 0 0 0 0 0 0 t2))[j]? = some u → (w2.alloc (.cells #[] 46)).cell? ⟨g, 0 + j, none⟩ = some u) := by
    have T := (HT.out.below HB2.out hg hkb).below (Below.alloc (Below.refl _ _) (Nat.le_refl _) (.cells #[] 46)) (Nat.lt_of_lt_of_le hg hl2) (Nat.lt_of_lt_of_le hkb hl2)
    exact Lib.hid (cells_append T.n0.cells (cells_append (o := 34) T.n1.cells T.n2.cells))
  go_wp2_with ((with_reducible apply wpList_append_nodes (B := w2.heap.size) (m := 3) (news := nodeL 2 (.slice (some ⟨kb, 0, none⟩) 2 kc) 1 0 0 0 0 0 0 t0 ++ (nodeL 1 (.slice none 0 0) 0 0 0 0 0 0 0 t1 ++ nodeL 1 (.slice none 0 0) 0 0 0 0 0 0 0 t2)) (g := g) (o := 0)); exact rfl; exact rfl; exact rfl; exact HNW.out; (intro u hu; rcases List.mem_append.1 hu with hu | hu; exact nodeL_one rfl u hu; rcases List.mem_append.1 hu with hu | hu; exact nodeL_one rfl u hu; exact nodeL_one rfl u hu); exact World.ownsRow_made w2 #[] 0 (Nat.le_refl _) (Nat.zero_le _) rfl; simp; decide; decide; intro v' w5 hrow5 hgr5 hpl5 K hK; obtain ⟨gN, cN, cur, rfl, hgN, hblk, hle, hcm, hcs, htk⟩ := (hrow5.2.resolve_left (fun h => by have := h.2; omega)); have HR5 := Lib.hid hrow5; have HG5 := Lib.hid hgr5; clear hrow5 hgr5 hpl5 hcs htk hcm)
  have hT5 : Three w5 gN kb kc t0 t1 t2 := by
    have hc : ∀ j u, (nodeL 2 (.slice (some ⟨kb, 0, none⟩) 2 kc) 1 0 0 0 0 0 0 t0 ++ (nodeL 1 (.slice none 0 0) 0 0 0 0 0 0 0 t1 ++ nodeL 1 (.slice none 0 0) 0 0 0 0 0 0 0 t2))[j]? = some u → w5.cell? ⟨gN, 0 + j, none⟩ = some u := fun j u hj => by
      have := HR5.out.cells (g := gN) rfl j u hj
      rw [addr_add] at this; exact this
    have T := HT.out.below HB2.out hg hkb
    have hkk : ∀ q u, w2.cell? ⟨kb, q, none⟩ = some u → w5.cell? ⟨kb, q, none⟩ = some u := fun q u hu => HG5.out.cell ((World.cell?_alloc_lt w2 _ ⟨kb, q, none⟩ (by show kb < _; omega)).trans hu) (by intro e; have := Option.some.inj e; simp at this; omega)
    refine ⟨NodeAt.of_cells fun j u hj => hc j u ?_, NodeAt.of_cells fun j u hj => ?_, NodeAt.of_cells fun j u hj => ?_, hkk _ _ T.k0, hkk _ _ T.k1⟩
    · have hj' := (List.getElem?_eq_some_iff.1 hj).1
      rw [List.getElem?_append_left hj']; exact hj
    · have := hc (34 + j) u (by
        have hj' := (List.getElem?_eq_some_iff.1 hj).1
        rw [List.getElem?_append_right (by rw [nodeL_length]; omega), nodeL_length, show 34 + j - 34 = j by omega, List.getElem?_append_left hj']; exact hj)
      rw [Nat.zero_add] at this; exact this
    · have := hc (68 + j) u (by
        rw [List.getElem?_append_right (by rw [nodeL_length]; omega), nodeL_length, List.getElem?_append_right (by rw [nodeL_length]; omega), nodeL_length, show 68 + j - 34 - 34 = j by omega]; exact hj)
      rw [Nat.zero_add] at this; exact this
  have hl5 : gN < w5.heap.size := World.block_lt_of_cell? w5 ⟨gN, 0, none⟩ hT5.n0.kd
  have hfz : ∀ q, w5.frozen? ⟨gN, q, none⟩ = false := fun q => by simp [World.frozen?, hblk]
  have HB5 : Hid (Below w.heap.size w w5) := Lib.hid ((HB2.out.alloc hl2 _).grown HG5.out (by simp; omega) (fun k e => by have e' : w2.heap.size = k := Option.some.inj e.symm |>.symm; omega))
  have hwg : w.heap.size ≤ gN := by omega
  have hkg : kb < gN := by omega
  have HT5 := Lib.hid hT5
  clear hT5 HR5 HG5 HT HB2 hblk hbx HNW
  have a3 : w5.cell? ⟨gN, 3, none⟩ = some (.slice (some ⟨kb, 0, none⟩) 2 kc) := HT5.out.n0.kids
  have a28 : w5.cell? ⟨gN, 28, none⟩ = some (.slice none 0 0) := HT5.out.n0.cols
  have a37 : w5.cell? ⟨gN, 37, none⟩ = some (.slice none 0 0) := HT5.out.n1.kids
  have a62 : w5.cell? ⟨gN, 62, none⟩ = some (.slice none 0 0) := HT5.out.n1.cols
  have a71 : w5.cell? ⟨gN, 71, none⟩ = some (.slice none 0 0) := HT5.out.n2.kids
  have a96 : w5.cell? ⟨gN, 96, none⟩ = some (.slice none 0 0) := HT5.out.n2.cols
  have HKK : Hid (∀ j u, ([.int .i64 1, .int .i64 2] : List Value)[j]? = some u → (w5.alloc (.cells #[] 3)).cell? ⟨kb, 0 + j, none⟩ = some u) := Lib.hid fun j u hj => by
    rw [World.cell?_alloc_lt _ _ ⟨kb, 0 + j, none⟩ (by show kb < _; omega)]
    match j, hj with
    | 0, hj => obtain rfl := Option.some.inj hj; exact HT5.out.k0
    | 1, hj => obtain rfl := Option.some.inj hj; exact HT5.out.k1
    | j + 2, hj => simp at hj
  refine wp_loop_rounds 4 ?_
  rw [rounds_succ]
  go_wp2_with ((with_reducible apply wpList_append_cells elI (B := w5.heap.size) (n := 0) (xs := []) (m := 2) (news := [.int .i64 1, .int .i64 2]) (g := kb) (o := 0)); exact rfl; exact rfl; exact rfl; exact HKK.out; (intro u hu; simp at hu; rcases hu with rfl | rfl <;> rfl); exact World.ownsRow_made w5 #[] 0 (Nat.le_refl _) (Nat.zero_le _) rfl; simp; decide; decide; intro v6 w6 hrow6 hgr6 hpl6 K6 hK6; obtain ⟨kN, cK, cur6, rfl, hkN, hblk6, hle6, hcm6, hcs6, htk6⟩ := (hrow6.2.resolve_left (fun h => by have := h.2; omega)); have b3 : w6.cell? ⟨gN, 3, none⟩ = some (.slice (some ⟨kb, 0, none⟩) 2 kc) := hgr6.cell ((World.cell?_alloc_lt _ _ ⟨gN, 3, none⟩ hl5).trans a3) (by intro e; have := Option.some.inj e; simp at this; omega); have b28 : w6.cell? ⟨gN, 28, none⟩ = some (.slice none 0 0) := hgr6.cell ((World.cell?_alloc_lt _ _ ⟨gN, 28, none⟩ hl5).trans a28) (by intro e; have := Option.some.inj e; simp at this; omega); have b37 : w6.cell? ⟨gN, 37, none⟩ = some (.slice none 0 0) := hgr6.cell ((World.cell?_alloc_lt _ _ ⟨gN, 37, none⟩ hl5).trans a37) (by intro e; have := Option.some.inj e; simp at this; omega); have b62 : w6.cell? ⟨gN, 62, none⟩ = some (.slice none 0 0) := hgr6.cell ((World.cell?_alloc_lt _ _ ⟨gN, 62, none⟩ hl5).trans a62) (by intro e; have := Option.some.inj e; simp at this; omega); have b71 : w6.cell? ⟨gN, 71, none⟩ = some (.slice none 0 0) := hgr6.cell ((World.cell?_alloc_lt _ _ ⟨gN, 71, none⟩ hl5).trans a71) (by intro e; have := Option.some.inj e; simp at this; omega); have b96 : w6.cell? ⟨gN, 96, none⟩ = some (.slice none 0 0) := hgr6.cell ((World.cell?_alloc_lt _ _ ⟨gN, 96, none⟩ hl5).trans a96) (by intro e; have := Option.some.inj e; simp at this; omega); have hq6 : Hid (∀ q, w6.cell? ⟨gN, q, none⟩ = w5.cell? ⟨gN, q, none⟩) := Lib.hid (fun q => (hgr6.cell_far ⟨gN, q, none⟩ (by simp; omega) (by intro e; have := Option.some.inj e; simp at this; omega)).trans (World.cell?_alloc_lt _ _ ⟨gN, q, none⟩ hl5)); have hf6 : ∀ q, w6.frozen? ⟨gN, q, none⟩ = false := (fun q => (hgr6.frozen_far ⟨gN, q, none⟩ (by simp; omega) (by intro e; have := Option.some.inj e; simp at this; omega)).trans ((World.frozen?_of_block (a := ⟨gN, q, none⟩) (Below.heap_alloc _ _ _ hl5)).trans (hfz q))); have hl6 : gN < w6.heap.size := (World.block_lt_of_cell? w6 ⟨gN, 3, none⟩ b3); have hkl6 : kN < w6.heap.size := (World.ownsRow.lt hrow6 kN rfl).2; have HR6 := Lib.hid hrow6; have HG6 := Lib.hid hgr6; clear hrow6 hgr6 hpl6 hcs6 htk6 hcm6 hblk6)
  have lx1 : gN < w6.heap.size + 1 := by omega
  have ly1 : ¬ gN = w6.heap.size + 1 := by omega
  have lx2 : gN < w6.heap.size + 2 := by omega
  have ly2 : ¬ gN = w6.heap.size + 2 := by omega
  have lx3 : gN < w6.heap.size + 3 := by omega
  have ly3 : ¬ gN = w6.heap.size + 3 := by omega
  have lx4 : gN < w6.heap.size + 4 := by omega
  have ly4 : ¬ gN = w6.heap.size + 4 := by omega
  have lx5 : gN < w6.heap.size + 5 := by omega
  have ly5 : ¬ gN = w6.heap.size + 5 := by omega
  have ly0 : ¬ gN = w6.heap.size := by omega
  have lz2 : gN < w6.heap.size + 1 + 1 := by omega
  have lz3 : gN < w6.heap.size + 1 + 1 + 1 := by omega
  have lz4 : gN < w6.heap.size + 1 + 1 + 1 + 1 := by omega
  rw [rounds_succ]
  go_wp2
  rw [rounds_succ]
  go_wp2
  rw [rounds_succ]
  go_upto_region 11 with (fail)
  have hne : gN ≠ kN := by omega
  have hl6' := hl6
  generalize hW8 : World.alloc (World.alloc (World.alloc (World.alloc (World.alloc _ _) _) _) _) _ = w8
  have sb : SameBut gN [3, 28, 37, 62, 71, 96] w6 w8 := by
    rw [← hW8]
    (repeat (first | with_reducible exact SameBut.refl _ _ _ | (with_reducible refine SameBut.alloc ?_ ?_ _; rotate_left; (try simp) <;> omega) | (with_reducible refine SameBut.set ?_ ?_ _; rotate_left; decide) | (with_reducible refine SameBut.other ?_ ?_ _ _; rotate_left; exact hne)))
  have sk : SameBut gN [28, 37, 62, 71, 96] (w6.setCell ⟨gN, 3, none⟩ (.slice (some ⟨kN, 0, none⟩) 2 cK)) w8 := by
    rw [← hW8]
    (repeat (first | with_reducible exact SameBut.refl _ _ _ | (with_reducible refine SameBut.alloc ?_ ?_ _; rotate_left; (try simp) <;> omega) | (with_reducible refine SameBut.set ?_ ?_ _; rotate_left; decide) | (with_reducible refine SameBut.other ?_ ?_ _ _; rotate_left; exact hne)))
  have s2 : SameBut kN [] w6 w8 := by
    rw [← hW8]
    (repeat (first | with_reducible exact SameBut.refl _ _ _ | (with_reducible refine SameBut.alloc ?_ ?_ _; rotate_left; (try simp) <;> omega) | (with_reducible refine SameBut.set ?_ ?_ _; rotate_left; decide) | (with_reducible refine SameBut.other ?_ ?_ _ _; rotate_left; exact hne)))
  have h37 : HasCell gN 37 w8 := by
    rw [← hW8]
    repeat (first | with_reducible refine HasCell.alloc ?_ _ | with_reducible refine HasCell.set ?_ _ _)
    exact ⟨_, b37⟩
  have h71 : HasCell gN 71 w8 := by
    rw [← hW8]
    repeat (first | with_reducible refine HasCell.alloc ?_ _ | with_reducible refine HasCell.set ?_ _ _)
    exact ⟨_, b71⟩
  have B8 : Below w.heap.size w w8 := by
    have hb5 := HB5.out
    have hs5 := hb5.size
    have hb6 : Below w.heap.size w w6 := (hb5.alloc hs5 _).grown HG6.out (by simp; omega) (fun k e => by have e' : w5.heap.size = k := Option.some.inj e.symm |>.symm; omega)
    have hs6 := hb6.size
    rw [← hW8]
    repeat (first | (with_reducible refine Below.alloc ?_ ?_ _; rotate_left; (try simp) <;> omega) | (with_reducible refine Below.setCell ?_ ?_ _; rotate_left; (show w.heap.size ≤ gN; omega)))
    exact hb6
  clear hW8
  obtain ⟨k1, hk1⟩ := h37
  obtain ⟨k2, hk2⟩ := h71
  have hk0 : w8.cell? ⟨gN, 3, none⟩ = some (.slice (some ⟨kN, 0, none⟩) 2 cK) := (sk 3 rfl).trans (setCell_here w6 _ b3)
  have n80 : NodeIn w8 gN 0 2 (.slice (some ⟨kN, 0, none⟩) 2 cK) 1 0 0 0 0 0 0 t0 := ⟨(sb 0 rfl).trans ((hq6.out 0).trans HT5.out.n0.kd), hk0, (sb 4 rfl).trans ((hq6.out 4).trans HT5.out.n0.w0), (sb 5 rfl).trans ((hq6.out 5).trans HT5.out.n0.w1), (sb 6 rfl).trans ((hq6.out 6).trans HT5.out.n0.w2), (sb 7 rfl).trans ((hq6.out 7).trans HT5.out.n0.w3), (sb 8 rfl).trans ((hq6.out 8).trans HT5.out.n0.w4), (sb 9 rfl).trans ((hq6.out 9).trans HT5.out.n0.h0), (sb 10 rfl).trans ((hq6.out 10).trans HT5.out.n0.h1), (sb 11 rfl).trans ((hq6.out 11).trans HT5.out.n0.h2), (sb 12 rfl).trans ((hq6.out 12).trans HT5.out.n0.h3), (sb 13 rfl).trans ((hq6.out 13).trans HT5.out.n0.h4), (sb 14 rfl).trans ((hq6.out 14).trans HT5.out.n0.gap), (sb 15 rfl).trans ((hq6.out 15).trans HT5.out.n0.p0), (sb 16 rfl).trans ((hq6.out 16).trans HT5.out.n0.p1), (sb 17 rfl).trans ((hq6.out 17).trans HT5.out.n0.p2), (sb 18 rfl).trans ((hq6.out 18).trans HT5.out.n0.p3), (sb 19 rfl).trans ((hq6.out 19).trans HT5.out.n0.bd), (sb 22 rfl).trans ((hq6.out 22).trans HT5.out.n0.tx), (sb 23 rfl).trans ((hq6.out 23).trans HT5.out.n0.md)⟩
  have n81 : NodeIn w8 gN 34 1 k1 0 0 0 0 0 0 0 t1 := ⟨(sb 34 rfl).trans ((hq6.out 34).trans HT5.out.n1.kd), hk1, (sb 38 rfl).trans ((hq6.out 38).trans HT5.out.n1.w0), (sb 39 rfl).trans ((hq6.out 39).trans HT5.out.n1.w1), (sb 40 rfl).trans ((hq6.out 40).trans HT5.out.n1.w2), (sb 41 rfl).trans ((hq6.out 41).trans HT5.out.n1.w3), (sb 42 rfl).trans ((hq6.out 42).trans HT5.out.n1.w4), (sb 43 rfl).trans ((hq6.out 43).trans HT5.out.n1.h0), (sb 44 rfl).trans ((hq6.out 44).trans HT5.out.n1.h1), (sb 45 rfl).trans ((hq6.out 45).trans HT5.out.n1.h2), (sb 46 rfl).trans ((hq6.out 46).trans HT5.out.n1.h3), (sb 47 rfl).trans ((hq6.out 47).trans HT5.out.n1.h4), (sb 48 rfl).trans ((hq6.out 48).trans HT5.out.n1.gap), (sb 49 rfl).trans ((hq6.out 49).trans HT5.out.n1.p0), (sb 50 rfl).trans ((hq6.out 50).trans HT5.out.n1.p1), (sb 51 rfl).trans ((hq6.out 51).trans HT5.out.n1.p2), (sb 52 rfl).trans ((hq6.out 52).trans HT5.out.n1.p3), (sb 53 rfl).trans ((hq6.out 53).trans HT5.out.n1.bd), (sb 56 rfl).trans ((hq6.out 56).trans HT5.out.n1.tx), (sb 57 rfl).trans ((hq6.out 57).trans HT5.out.n1.md)⟩
  have n82 : NodeIn w8 gN 68 1 k2 0 0 0 0 0 0 0 t2 := ⟨(sb 68 rfl).trans ((hq6.out 68).trans HT5.out.n2.kd), hk2, (sb 72 rfl).trans ((hq6.out 72).trans HT5.out.n2.w0), (sb 73 rfl).trans ((hq6.out 73).trans HT5.out.n2.w1), (sb 74 rfl).trans ((hq6.out 74).trans HT5.out.n2.w2), (sb 75 rfl).trans ((hq6.out 75).trans HT5.out.n2.w3), (sb 76 rfl).trans ((hq6.out 76).trans HT5.out.n2.w4), (sb 77 rfl).trans ((hq6.out 77).trans HT5.out.n2.h0), (sb 78 rfl).trans ((hq6.out 78).trans HT5.out.n2.h1), (sb 79 rfl).trans ((hq6.out 79).trans HT5.out.n2.h2), (sb 80 rfl).trans ((hq6.out 80).trans HT5.out.n2.h3), (sb 81 rfl).trans ((hq6.out 81).trans HT5.out.n2.h4), (sb 82 rfl).trans ((hq6.out 82).trans HT5.out.n2.gap), (sb 83 rfl).trans ((hq6.out 83).trans HT5.out.n2.p0), (sb 84 rfl).trans ((hq6.out 84).trans HT5.out.n2.p1), (sb 85 rfl).trans ((hq6.out 85).trans HT5.out.n2.p2), (sb 86 rfl).trans ((hq6.out 86).trans HT5.out.n2.p3), (sb 87 rfl).trans ((hq6.out 87).trans HT5.out.n2.bd), (sb 90 rfl).trans ((hq6.out 90).trans HT5.out.n2.tx), (sb 91 rfl).trans ((hq6.out 91).trans HT5.out.n2.md)⟩
  have hc0 : w8.cell? ⟨kN, 0, none⟩ = some (.int .i64 1) := (s2 0 rfl).trans (by have := HR6.out.cells (g := kN) rfl 0 _ rfl; rw [addr_add] at this; exact this)
  have hc1 : w8.cell? ⟨kN, 1, none⟩ = some (.int .i64 2) := (s2 1 rfl).trans (by have := HR6.out.cells (g := kN) rfl 1 _ rfl; rw [addr_add] at this; exact this)
  have HN0 := Lib.hid n80
  have HN1 := Lib.hid n81
  have HN2 := Lib.hid n82
  have HC0 := Lib.hid hc0
  have HC1 := Lib.hid hc1
  have HB8 := Lib.hid B8
  have l8 := n80.lt
  have lk8 : kN < w8.heap.size := World.block_lt_of_cell? w8 ⟨kN, 0, none⟩ hc0
  clear n80 n81 n82 hc0 hc1 B8 hk0 hk1 hk2 sb sk s2 b3 b28 b37 b62 b71 b96 a3 a28 a37 a62 a71 a96 hf6 hfz hl6 hl6' hkl6 lx1 lx2 lx3 lx4 lx5 ly0 ly1 ly2 ly3 ly4 ly5 lz2 lz3 lz4 HR6 HG6 hq6 HT5 HB5 hl5 hle hle6 HKK
  have hmm := @run_makeMap Tryz.prog
  go_wp2_with (go_at_call 20; ((with_reducible refine (kinds_any _).mono ?_); rintro e1' w9 ⟨bk, rfl, hk1, hk2, hb9, q3, q4, q5, q6, q7, q8⟩))
  go_ret2
  have hz8 := HB8.out.size
  have hz9 := hb9.size
  have hb10 : Below w8.heap.size w8 ((w9.alloc (.map #[] 0)).alloc (.cells #[.slice (some ⟨gN, 0, none⟩) 3 cN, .slice (some ⟨bk, 0, none⟩) 12 12, .map (some w9.heap.size)] 61)) := by (repeat (first | exact Below.refl _ _ | assumption | refine below_drewN ?_ _ | refine Below.drew ?_ | (refine Below.alloc ?_ ?bs _; (case bs => first | omega | (simp; done) | (simp; omega))) | (refine Below.setCell ?_ ?bs _; (case bs => first | omega | (simp; done) | (simp; omega)))))
  have g9 : Below w9.heap.size w9 ((w9.alloc (.map #[] 0)).alloc (.cells #[.slice (some ⟨gN, 0, none⟩) 3 cN, .slice (some ⟨bk, 0, none⟩) 12 12, .map (some w9.heap.size)] 61)) := by (repeat (first | exact Below.refl _ _ | assumption | refine below_drewN ?_ _ | refine Below.drew ?_ | (refine Below.alloc ?_ ?bs _; (case bs => first | omega | (simp; done) | (simp; omega))) | (refine Below.setCell ?_ ?bs _; (case bs => first | omega | (simp; done) | (simp; omega)))))
  have kk : ∀ q u, w9.cell? ⟨bk, q, none⟩ = some u → ((w9.alloc (.map #[] 0)).alloc (.cells #[.slice (some ⟨gN, 0, none⟩) 3 cN, .slice (some ⟨bk, 0, none⟩) 12 12, .map (some w9.heap.size)] 61)).cell? ⟨bk, q, none⟩ = some u := fun q u hu => (g9.cell (p := ⟨bk, q, none⟩) hk2).trans hu
  refine ⟨w9.heap.size + 1, gN, bk, w9.heap.size, cN, kN, cK, _, _, rfl, ⟨HB8.out.trans (hb10.mono hz8), by omega, by omega, by omega, by omega, fun f => ⟨cell_newB _ _ _ _ _ (by simp), cell_newB _ _ _ _ _ (by simp), cell_newB _ _ _ _ _ (by simp), kk _ _ q3, kk _ _ q4, kk _ _ q5, kk _ _ q6, kk _ _ q7, kk _ _ q8, by omega, by omega, by omega, ?_, ?_⟩⟩, HN0.out.below hb10 l8, HN1.out.below hb10 l8, HN2.out.below hb10 l8, (hb10.cell (p := ⟨kN, 0, none⟩) lk8).trans HC0.out, (hb10.cell (p := ⟨kN, 1, none⟩) lk8).trans HC1.out, by omega⟩
  · simp; omega
  · exact ⟨.map [], World.ownsMap.alloc (World.ownsMap_made w9 _ _ _) _, known_empty f⟩
end Go.Proofs.YthhomflonpjbmaaGreatDoor
