/-
  rect's functions at a rectangle that begins at 0, 0 (the closed ones by the abstract machine).
-/
import Derived.Test.YtpnjlfnejjjncaaGreatDoorCa05
import Derived.Test.YtpnjlfnejjjncaaGreatDoorCa18
import Derived.Deep.RegionHeld3
set_option linter.unusedVariables false
set_option linter.unusedSimpArgs false
namespace Go.Proofs.YtpnjlfnejjjncaaGreatDoor
open Go.RowKit
/-- No value is known by its name alone. -/
instance env0 : Go.Eng.Env := ⟨fun _ => .nilIface, fun _ => ⟨rfl, rfl⟩, fun _ _ h => by cases h⟩

theorem tab_at {kn : Go.Eng.Kn} (hkn : Go.Eng.KnOK Tryz.prog kn) {f : FuncId} {l : List (List Value × Value)} {N : Nat} (h : Go.Eng.tabOk Tryz.prog kn N f l = true) {args : List Value} {v : Value} (e : (args, v) ∈ l) (W : World) :
    Calls Tryz.prog f ⟨args⟩ W (VBel v W) := by
  unfold Go.Eng.tabOk at h
  simp only [Bool.and_eq_true] at h
  have := List.all_eq_true.1 h.2 _ e
  simp only [Bool.and_eq_true] at this
  refine ((Go.Eng.entry_ok hkn Go.Eng.mixed this.1.1.1 this.1.1.2 h.1 (by simpa using this.1.2) this.2).2.2.2.2 W).mono fun en W1 ⟨h1, h2, h3, h4⟩ => ?_
  subst h1
  exact ⟨rfl, ⟨h4.1, h4.2.2, h4.2.1, h2, h3⟩⟩
abbrev rectV (n : Nat) : Value := .agg #[.int .i64 0, .int .i64 0, .int .i64 n, .int .i64 1]
def endsT : List (List Value × Value) := (List.range 60).map fun i => ([rectV (i + 1)], .tuple #[rectV (i + 1), .bool true])
set_option maxRecDepth 100000 in
theorem endsT_ok : Go.Eng.tabOk Tryz.prog Go.Eng.kn0 20000 22 endsT = true := by kernel_rfl
theorem ends_any (n : Nat) (h : 1 ≤ n ∧ n ≤ 60) (W : World) : Calls Tryz.prog 22 #[rectV n] W (VBel (.tuple #[rectV n, .bool true]) W) :=
  tab_at Go.Eng.kn0_ok endsT_ok (List.mem_map.2 ⟨n - 1, List.mem_range.2 (by omega), by rw [show n - 1 + 1 = n by omega]⟩) W
def meetT : List (List Value × Value) := (List.range 60).map fun i => ([rectV (i + 1), rectV (i + 1)], rectV (i + 1))
set_option maxRecDepth 100000 in
theorem meetT_ok : Go.Eng.tabOk Tryz.prog Go.Eng.kn0 20000 10 meetT = true := by kernel_rfl
theorem meet_any (n : Nat) (h : 1 ≤ n ∧ n ≤ 60) (W : World) : Calls Tryz.prog 10 #[rectV n, rectV n] W (VBel (rectV n) W) :=
  tab_at Go.Eng.kn0_ok meetT_ok (List.mem_map.2 ⟨n - 1, List.mem_range.2 (by omega), by rw [show n - 1 + 1 = n by omega]⟩) W
abbrev sty0 : Value := .agg #[.int .i32 0, .int .i32 0, .int .u8 0]
abbrev cellV (t : ByteArray) : Value := .agg #[.string t, .int .i8 1, .int .i32 0, .int .i32 0, .int .u8 0]
set_option maxRecDepth 100000 in
theorem overT_ok : Go.Eng.tabOk Tryz.prog Go.Eng.kn0 20000 37 [([sty0, .slice none 0 0], sty0)] = true := by kernel_rfl
theorem over_zero (W : World) : Calls Tryz.prog 37 #[sty0, .slice none 0 0] W (VBel sty0 W) := tab_at Go.Eng.kn0_ok overT_ok (by simp) W
set_option maxRecDepth 100000 in
theorem blankT_ok : Go.Eng.tabOk Tryz.prog Go.Eng.kn0 20000 19 [([sty0], cellV ⟨#[32]⟩)] = true := by kernel_rfl
theorem blank_zero (W : World) : Calls Tryz.prog 19 #[sty0] W (VBel (cellV ⟨#[32]⟩) W) := tab_at Go.Eng.kn0_ok blankT_ok (by simp) W
end Go.Proofs.YtpnjlfnejjjncaaGreatDoor
/-
  cells: what a buffer of one row is in memory; the walks of Has and set.
-/
namespace Go.Proofs.YtpnjlfnejjjncaaGreatDoor
open Go.RowKit

/-- A block that holds just these cells. -/
def Bk1 (W : World) (b : Nat) (l : List Value) (e : TypeId) : Prop := W.heap[b]? = some (.cells l.toArray e (0, 0))
section
variable {W W' : World} {b : Nat} {l : List Value} {e : TypeId}
theorem Bk1.lt (h : Bk1 W b l e) : b < W.heap.size := (Array.getElem?_eq_some_iff.1 h).1
theorem Bk1.cell (h : Bk1 W b l e) {j : Nat} {v : Value} (hj : l[j]? = some v) : W.cell? ⟨b, j, none⟩ = some v := by
  rw [cell_of_row W b j _ e _ h]; simpa using hj
theorem Bk1.froz (h : Bk1 W b l e) (j : Nat) : W.frozen? ⟨b, j, none⟩ = false := frozen_of_row W b j _ e h
theorem Bk1.set (h : Bk1 W b l e) (j : Nat) (v : Value) : Bk1 (W.setCell ⟨b, j, none⟩ v) b (l.set j v) e := by
  have := heap_setCell_same W b j _ e v h
  unfold Bk1
  rw [this]; simp
theorem Bk1.other (h : Bk1 W b l e) {b' : Nat} (hne : b ≠ b') (j : Nat) (v : Value) : Bk1 (W.setCell ⟨b', j, none⟩ v) b l e := by
  unfold Bk1
  rw [heap_setCell_other W _ b v (by simpa using hne)]; exact h
theorem Bk1.grown {row : Option Nat} (h : Bk1 W b l e) (hg : W.grownBy W' row) (hne : some b ≠ row) : Bk1 W' b l e := by
  unfold Bk1
  rw [hg.block b h.lt hne]; exact h
theorem Bk1.below (h : Bk1 W b l e) (hb : Below W.heap.size W W') : Bk1 W' b l e := by
  unfold Bk1
  rw [hb.block b h.lt]; exact h
end
/-- The cells of a row of texts, one column each, of the plain style. -/
def cel (t : ByteArray) : List Value := [.string t, .int .i8 1, .int .i32 0, .int .i32 0, .int .u8 0]
def rowL (ts : List ByteArray) : List Value := ts.flatMap cel
theorem rowL_len (ts : List ByteArray) : (rowL ts).length = 5 * ts.length := by
  induction ts with
  | nil => rfl
  | cons t ts ih => simp only [rowL, List.flatMap_cons, List.length_append, List.length_cons] at ih ⊢; simp [cel] at ih ⊢; omega
theorem rowL_get : ∀ (ts : List ByteArray) (i j : Nat) (t : ByteArray), ts[i]? = some t → j < 5 → (rowL ts)[i * 5 + j]? = (cel t)[j]?
  | [], i, j, t, h, _ => by simp at h
  | s :: ts, i, j, t, h, hj => by
    have hc : (cel s).length = 5 := rfl
    show (cel s ++ rowL ts)[i * 5 + j]? = (cel t)[j]?
    cases i with
    | zero =>
      simp at h
      subst h
      rw [List.getElem?_append_left (by rw [hc]; omega)]; simp
    | succ i =>
      rw [List.getElem?_append_right (by rw [hc]; omega), hc, show (i + 1) * 5 + j - 5 = i * 5 + j by omega]
      exact rowL_get ts i j t (by simpa using h) hj
theorem rowL_set : ∀ (ts : List ByteArray) (i : Nat) (t : ByteArray), i < ts.length → rowL (ts.set i t) = (((((rowL ts).set (i * 5) (.string t)).set (i * 5 + 1) (.int .i8 1)).set (i * 5 + 2) (.int .i32 0)).set (i * 5 + 3) (.int .i32 0)).set (i * 5 + 4) (.int .u8 0)
  | [], i, t, h => by simp at h
  | s :: ts, i, t, h => by
    have hc : (cel s).length = 5 := rfl
    cases i with
    | zero => rfl
    | succ i =>
      have ih := rowL_set ts i t (by simpa using h)
      show cel s ++ rowL (ts.set i t) = _
      rw [ih]
      show _ = (((((cel s ++ rowL ts).set ((i + 1) * 5) _).set ((i + 1) * 5 + 1) _).set ((i + 1) * 5 + 2) _).set ((i + 1) * 5 + 3) _).set ((i + 1) * 5 + 4) _
      rw [List.set_append_right _ _ (by rw [hc]; omega), List.set_append_right _ _ (by rw [hc]; omega), List.set_append_right _ _ (by rw [hc]; omega), List.set_append_right _ _ (by rw [hc]; omega), List.set_append_right _ _ (by rw [hc]; omega), hc]
      rw [show (i + 1) * 5 - 5 = i * 5 by omega, show (i + 1) * 5 + 1 - 5 = i * 5 + 1 by omega, show (i + 1) * 5 + 2 - 5 = i * 5 + 2 by omega, show (i + 1) * 5 + 3 - 5 = i * 5 + 3 by omega, show (i + 1) * 5 + 4 - 5 = i * 5 + 4 by omega]
def bufL (n D : Nat) : List Value := [.int .i64 n, .int .i64 1, .slice (some ⟨D, 0, none⟩) n n]
/-- A buffer of one row. -/
structure Buf (w : World) (PB D n : Nat) (ts : List ByteArray) : Prop where
  hd : Bk1 w PB (bufL n D) 119
  row : Bk1 w D (rowL ts) 62
  len : ts.length = n
  ne : PB ≠ D
theorem Buf.below {w w' : World} {PB D n : Nat} {ts : List ByteArray} (h : Buf w PB D n ts) (hb : Below w.heap.size w w') : Buf w' PB D n ts := ⟨h.hd.below hb, h.row.below hb, h.len, h.ne⟩

set_option maxRecDepth 100000 in
theorem has_any (n x : Nat) (h : 1 ≤ n ∧ n ≤ 60) (hx : x < n) (w : World) : Calls Tryz.prog 228 #[rectV n, .int .i64 x, .int .i64 0] w (VBel (.bool true) w) := by
  have HE : Hid (∀ W, Calls Tryz.prog 22 #[rectV n] W (VBel (.tuple #[rectV n, .bool true]) W)) := Lib.hid fun W => ends_any n h W
  have h1 : (x : Int) < n := by omega
  go_enter Tryz.func228, Tryz.ntmps228
  go_wp2_with (first | (go_at_call 22; ((with_reducible refine (HE.out _).mono ?_); rintro e1' w5 ⟨rfl, hb5⟩)))
  go_ret
  exact ⟨rfl, ((Below.refl _ w).alloc (Nat.le_refl _) _).trans ((hb5.mono (by simp)).alloc (by have := hb5.size; simp at this ⊢; omega) _)⟩
end Go.Proofs.YtpnjlfnejjjncaaGreatDoor
/-
  The walk of (*cells.Buffer).set, at a cell one column wide.
-/
namespace Go.Proofs.YtpnjlfnejjjncaaGreatDoor
open Go.RowKit

theorem grown1_set (W : World) (b j : Nat) (v : Value) : W.grownBy (W.setCell ⟨b, j, none⟩ v) (some b) :=
  ⟨rfl, rfl, rfl, by simp, fun k _ hk => heap_setCell_other W ⟨b, j, none⟩ k v (fun e => hk (by simp [e]))⟩
theorem grown1_trans {w w1 w2 : World} {row : Option Nat} (h : w.grownBy w1 row) (k : w1.grownBy w2 row) : w.grownBy w2 row :=
  ⟨k.os.trans h.os, k.tape.trans h.tape, k.output.trans h.output, Nat.le_trans h.size k.size, fun i hi hn => (k.block i (Nat.lt_of_lt_of_le hi h.size) hn).trans (h.block i hi hn)⟩
theorem grown1_drew {w w1 : World} {row : Option Nat} (h : w.grownBy w1 row) : w.grownBy w1.drew row := ⟨h.os, h.tape, h.output, h.size, h.block⟩
def SetPost (PB D n : Nat) (ts : List ByteArray) (w : World) (e : Ending) (w' : World) : Prop := e = .returned (.tuple #[]) ∧ Buf w' PB D n ts ∧ w.grownBy w' (some D)
set_option maxRecDepth 100000 in
set_option maxHeartbeats 2000000 in
theorem set_any (PB D n i : Nat) (t : ByteArray) (ts : List ByteArray) (w : World) (hB : Buf w PB D n ts) (hi : i < n) (hn : n ≤ 60) :
    Calls Tryz.prog 227 #[.pointer (some ⟨PB, 0, none⟩), .int .i64 i, cellV t] w (SetPost PB D n (ts.set i t) w) := by
  have HB := Lib.hid hB
  obtain ⟨s, hs⟩ : ∃ s, ts[i]? = some s := ⟨_, List.getElem?_eq_getElem (by rw [hB.len]; exact hi)⟩
  have p0 := hB.hd.cell (j := 0) rfl
  have p2 := hB.hd.cell (j := 2) rfl
  have c0 : w.cell? ⟨D, i * 5, none⟩ = some (.string s) := hB.row.cell (rowL_get ts i 0 s hs (by omega))
  have c1 : w.cell? ⟨D, i * 5 + 1, none⟩ = some (.int .i8 1) := hB.row.cell (rowL_get ts i 1 s hs (by omega))
  have c2 : w.cell? ⟨D, i * 5 + 2, none⟩ = some (.int .i32 0) := hB.row.cell (rowL_get ts i 2 s hs (by omega))
  have c3 : w.cell? ⟨D, i * 5 + 3, none⟩ = some (.int .i32 0) := hB.row.cell (rowL_get ts i 3 s hs (by omega))
  have c4 : w.cell? ⟨D, i * 5 + 4, none⟩ = some (.int .u8 0) := hB.row.cell (rowL_get ts i 4 s hs (by omega))
  have f0 := hB.row.froz (i * 5)
  have f1 := hB.row.froz (i * 5 + 1)
  have f2 := hB.row.froz (i * 5 + 2)
  have f3 := hB.row.froz (i * 5 + 3)
  have f4 := hB.row.froz (i * 5 + 4)
  have l1 := hB.row.lt
  have l2 := hB.hd.lt
  clear hB
  go_enter Tryz.func227, Tryz.ntmps227
  go_wp2
  go_region
  all_goals
    go_wp2
    go_end0
    have hB := HB.out
    have r := ((((hB.row.set (i * 5) (.string t)).set (i * 5 + 1) (.int .i8 1)).set (i * 5 + 2) (.int .i32 0)).set (i * 5 + 3) (.int .i32 0)).set (i * 5 + 4) (.int .u8 0)
    rw [← rowL_set ts i t (by rw [hB.len]; exact hi)] at r
    have g := grown1_trans (grown1_trans (grown1_trans (grown1_trans (grown1_set w D (i * 5) (.string t)) (grown1_set _ D (i * 5 + 1) (.int .i8 1))) (grown1_set _ D (i * 5 + 2) (.int .i32 0))) (grown1_set _ D (i * 5 + 3) (.int .i32 0))) (grown1_set _ D (i * 5 + 4) (.int .u8 0))
    have ga := World.grownBy_alloc ((((((w.setCell ⟨D, i * 5, none⟩ (.string t)).setCell ⟨D, i * 5 + 1, none⟩ (.int .i8 1)).setCell ⟨D, i * 5 + 2, none⟩ (.int .i32 0)).setCell ⟨D, i * 5 + 3, none⟩ (.int .i32 0)).setCell ⟨D, i * 5 + 4, none⟩ (.int .u8 0))) (.cells #[.string t, .int .i8 1, .int .i32 0, .int .i32 0, .int .u8 0] 62)
    refine ⟨rfl, ⟨?_, ?_, by rw [List.length_set]; exact hB.len, hB.ne⟩, ?_⟩
    · exact (hB.hd.grown g (by simp [hB.ne])).grown (grown1_drew (ga none)) (by simp)
    · exact r.grown (grown1_drew (ga none)) (by simp)
    · exact grown1_trans g (grown1_drew (ga (some D)))
end Go.Proofs.YtpnjlfnejjjncaaGreatDoor
/-
  The walk of (*cells.Buffer).lay, at a cell one column wide that is let in.
-/
namespace Go.Proofs.YtpnjlfnejjjncaaGreatDoor
open Go.RowKit

theorem grown1_below {w w1 : World} {row : Option Nat} (h : Below w.heap.size w w1) : w.grownBy w1 row :=
  ⟨h.os, h.tape, h.output, h.size, fun i hi _ => h.block i hi⟩
set_option maxRecDepth 100000 in
set_option maxHeartbeats 2000000 in
theorem lay_any (PB D n i : Nat) (t : ByteArray) (ts : List ByteArray) (w : World) (hB : Buf w PB D n ts) (hi : i < n) (hn : n ≤ 60) :
    Calls Tryz.prog 162 #[.pointer (some ⟨PB, 0, none⟩), .int .i64 i, .int .i64 0, cellV t, rectV n] w (SetPost PB D n (ts.set i t) w) := by
  have HH : Hid (∀ W, Calls Tryz.prog 228 #[rectV n, .int .i64 i, .int .i64 0] W (VBel (.bool true) W)) := Lib.hid fun W => has_any n i (by omega) hi W
  have HS : Hid (∀ W, Buf W PB D n ts → Calls Tryz.prog 227 #[.pointer (some ⟨PB, 0, none⟩), .int .i64 i, cellV t] W (SetPost PB D n (ts.set i t) W)) := Lib.hid fun W h => set_any PB D n i t ts W h hi hn
  have HB := Lib.hid hB
  have p0 := hB.hd.cell (j := 0) rfl
  have l2 := hB.hd.lt
  clear hB
  go_enter Tryz.func162, Tryz.ntmps162
  go_wp2_with (first | (go_at_call 228; ((with_reducible refine (HH.out _).mono ?_); rintro e1' w5 ⟨rfl, hb5⟩)))
  have hb0 : Below w.heap.size w w5 := (((Below.refl _ w).alloc (Nat.le_refl _) _).alloc (by simp) _).trans (hb5.mono (by simp; omega))
  have hB5 : Buf w5.drew PB D n ts := HB.out.below (Below.drew hb0)
  have q0 : w5.cell? ⟨w.heap.size, 0, none⟩ = some (.string t) := (hb5.cell (p := ⟨w.heap.size, 0, none⟩) (by simp; omega)).trans (by go_simp)
  have q1 : w5.cell? ⟨w.heap.size, 1, none⟩ = some (.int .i8 1) := (hb5.cell (p := ⟨w.heap.size, 1, none⟩) (by simp; omega)).trans (by go_simp)
  have q2 : w5.cell? ⟨w.heap.size, 2, none⟩ = some (.int .i32 0) := (hb5.cell (p := ⟨w.heap.size, 2, none⟩) (by simp; omega)).trans (by go_simp)
  have q3 : w5.cell? ⟨w.heap.size, 3, none⟩ = some (.int .i32 0) := (hb5.cell (p := ⟨w.heap.size, 3, none⟩) (by simp; omega)).trans (by go_simp)
  have q4 : w5.cell? ⟨w.heap.size, 4, none⟩ = some (.int .u8 0) := (hb5.cell (p := ⟨w.heap.size, 4, none⟩) (by simp; omega)).trans (by go_simp)
  have qp : w5.cell? ⟨PB, 0, none⟩ = some (.int .i64 n) := hB5.hd.cell (j := 0) rfl
  have hBD : w.heap.size ≠ D := by have := HB.out.row.lt; omega
  have hBl : w.heap.size < w5.drew.heap.size := by have := hb5.size; simp at this ⊢; omega
  obtain ⟨B, hb⟩ : ∃ B, w.heap.size = B := ⟨_, rfl⟩
  rw [hb] at q0 q1 q2 q3 q4 hBD hBl
  have HBK : Hid (∀ (w6 : World) (j : Nat) (v : Value), w5.drew.grownBy w6 (some D) → w5.cell? ⟨B, j, none⟩ = some v → w6.cell? ⟨B, j, none⟩ = some v) := Lib.hid fun w6 j v hg hv => (World.cell?_of_block (a := ⟨B, j, none⟩) (hg.block B hBl (by simp [hBD]))).trans hv
  rw [hb]
  have HB0 := Lib.hid hb0
  have EW : Hid (IntKind.i64.wrap (IntKind.i64.wrap 0 + (i : Int)) = i) := Lib.hid (by simp [IntKind.wrap, IntKind.min, IntKind.max, IntKind.signed, IntKind.bits]; omega)
  clear hb5 hb0 p0 l2 hb
  go_region_held3 (fun W => W.cell? ⟨B, 0, none⟩ = some (.string t) ∧ W.cell? ⟨B, 1, none⟩ = some (.int .i8 1) ∧ W.cell? ⟨B, 2, none⟩ = some (.int .i32 0) ∧ W.cell? ⟨B, 3, none⟩ = some (.int .i32 0) ∧ W.cell? ⟨B, 4, none⟩ = some (.int .u8 0) ∧ W.cell? ⟨PB, 0, none⟩ = some (.int .i64 n))
    (first | exact ⟨q0, q1, q2, q3, q4, qp⟩ | exact ⟨k0, k1, k2, k3, k4, kp⟩)
    (first | (go_at_call 227; rw [EW.out]; ((with_reducible refine (HS.out _ hB5).mono ?_); rintro e1' w6 ⟨rfl, hB6, hg6⟩; have k0 := HBK.out w6 0 _ hg6 q0; have k1 := HBK.out w6 1 _ hg6 q1; have k2 := HBK.out w6 2 _ hg6 q2; have k3 := HBK.out w6 3 _ hg6 q3; have k4 := HBK.out w6 4 _ hg6 q4; have kp := hB6.hd.cell (j := 0) rfl)))
  all_goals
    go_wp2
    refine bodyPost_ret (results_none rfl _ _ _) rfl ?_
    exact ⟨rfl, hB6, grown1_trans (grown1_drew (grown1_below HB0.out)) hg6⟩
end Go.Proofs.YtpnjlfnejjjncaaGreatDoor
/-
  The walk of (*cells.Buffer).window, at a rectangle that is the whole buffer.
-/
namespace Go.Proofs.YtpnjlfnejjjncaaGreatDoor
open Go.RowKit

theorem Buf.drew {w : World} {PB D n : Nat} {ts : List ByteArray} (h : Buf w PB D n ts) : Buf w.drew PB D n ts := ⟨h.hd, h.row, h.len, h.ne⟩
set_option maxRecDepth 100000 in
set_option maxHeartbeats 2000000 in
theorem window_any (PB D n : Nat) (ts : List ByteArray) (w : World) (hB : Buf w PB D n ts) (hn : 1 ≤ n ∧ n ≤ 60) :
    Calls Tryz.prog 160 #[.pointer (some ⟨PB, 0, none⟩), rectV n] w (VBel (rectV n) w) := by
  have HM : Hid (∀ W, Calls Tryz.prog 10 #[rectV n, rectV n] W (VBel (rectV n) W)) := Lib.hid fun W => meet_any n hn W
  have HB := Lib.hid hB
  have p0 := hB.hd.cell (j := 0) rfl
  have p1 := hB.hd.cell (j := 1) rfl
  have l2 := hB.hd.lt
  clear hB
  go_enter Tryz.func160, Tryz.ntmps160
  go_wp2
  obtain ⟨B, hb⟩ : ∃ B, w.heap.size = B := ⟨_, rfl⟩
  obtain ⟨w3, hw3⟩ : ∃ w3, (w.alloc (.cells #[.int .i64 0, .int .i64 0, .int .i64 n, .int .i64 1] 71)).alloc (.cells #[.int .i64 0, .int .i64 0, .int .i64 0, .int .i64 0] 71) = w3 := ⟨_, rfl⟩
  rw [hw3, hb]
  have hK : Bk1 w3 B [.int .i64 0, .int .i64 0, .int .i64 n, .int .i64 1] 71 := by rw [← hw3, ← hb]; exact heap_alloc2_old _ _ _
  have b0 := hK.cell (j := 0) rfl
  have b1 := hK.cell (j := 1) rfl
  have b2 := hK.cell (j := 2) rfl
  have b3 := hK.cell (j := 3) rfl
  have hb0 : Below w.heap.size w w3 := by rw [← hw3]; exact ((Below.refl _ w).alloc (Nat.le_refl _) _).alloc (by simp) _
  have q0 : w3.cell? ⟨PB, 0, none⟩ = some (.int .i64 n) := (hb0.cell (p := ⟨PB, 0, none⟩) l2).trans p0
  have q1 : w3.cell? ⟨PB, 1, none⟩ = some (.int .i64 1) := (hb0.cell (p := ⟨PB, 1, none⟩) l2).trans p1
  have hR : Bk1 w3 (B + 1) [.int .i64 0, .int .i64 0, .int .i64 0, .int .i64 0] 71 := by rw [← hw3, ← hb]; exact heap_alloc2_new _ _ _
  clear hw3 p0 p1
  go_region_with (first | (go_at_call 10; ((with_reducible refine (HM.out _).mono ?_); rintro e1' w6 ⟨rfl, hb6⟩; have hR6 : Bk1 w6 (B + 1) _ 71 := Bk1.below (W := w3.drew) hR hb6; have z0 := hR6.cell (j := 0) rfl; have z1 := hR6.cell (j := 1) rfl; have z2 := hR6.cell (j := 2) rfl; have z3 := hR6.cell (j := 3) rfl; have g0 := hR6.froz 0; have g1 := hR6.froz 1; have g2 := hR6.froz 2; have g3 := hR6.froz 3)))
  go_wp2
  all_goals
    have hS := (((hR6.set 0 (.int .i64 0)).set 1 (.int .i64 0)).set 2 (.int .i64 n)).set 3 (.int .i64 1)
    have hbb : Below w.heap.size w w6 := (Below.drew hb0).trans (hb6.mono (Below.drew hb0).size)
    apply bodyPost_ret (results_cell_row (cs := #[.int .i64 0, .int .i64 0, .int .i64 n, .int .i64 1]) rfl _ _ (B + 1) _ _ _ rfl hS Tryz.underlying71 rfl (by kernel_rfl)) rfl
    have hB1 : w.heap.size ≤ B + 1 := by omega
    exact ⟨rfl, (((hbb.setCell (p := ⟨B + 1, 0, none⟩) hB1 _).setCell (p := ⟨B + 1, 1, none⟩) hB1 _).setCell (p := ⟨B + 1, 2, none⟩) hB1 _).setCell (p := ⟨B + 1, 3, none⟩) hB1 _⟩
end Go.Proofs.YtpnjlfnejjjncaaGreatDoor
