/-
  The walk of measure.frame at a text or a row.
-/
import Derived.Test.YthhomflonpjbmaaGreatDoorQt17
import Derived.Test.YthhomflonpjbmaaGreatDoorQt18
import Derived.Deep.DeepCutAuto
import Derived.Deep.RegionHeld3
namespace Go.Proofs.YthhomflonpjbmaaGreatDoor
open Go.RowKit
set_option maxRecDepth 100000 in
theorem frame_text (w : World) (g o : Nat) (kd : Int) (hk : kd = 1 ∨ kd = 2) (kids : Value) (gap p0 p1 p2 p3 bd md : Int) (t : ByteArray) (h : NodeIn w g o kd kids gap p0 p1 p2 p3 bd md t)
    (hp0 : 0 ≤ p0 ∧ p0 ≤ 4096) (hp1 : 0 ≤ p1 ∧ p1 ≤ 4096) (hp2 : 0 ≤ p2 ∧ p2 ≤ 4096) (hp3 : 0 ≤ p3 ∧ p3 ≤ 4096) (hbd : 0 ≤ bd ∧ bd ≤ 4) :
    Calls Tryz.prog 24 #[.pointer (some ⟨g, o, none⟩)] w (VBel (.tuple #[.int .i64 (p1 + p3 + if bd = 0 then 0 else 2), .int .i64 (p0 + p2 + if bd = 0 then 0 else 2)]) w) := by
  have a1 := h.kd
  have a16 := h.p0
  have a17 := h.p1
  have a18 := h.p2
  have a19 := h.p3
  have a20 := h.bd
  clear h
  have e1 : (kd == 11) = false := by rcases hk with rfl | rfl <;> rfl
  clear hk
  by_cases hb : bd = 0
  · subst hb
    go_enter Tryz.func24, Tryz.ntmps24
    go_upto_region 6 with (fail)
    go_quiet (fail)
    go_wp2
    go_ret2
    exact ⟨by simp, by (repeat (first | exact Below.refl _ _ | assumption | refine below_drewN ?_ _ | refine Below.drew ?_ | (refine Below.alloc ?_ ?bs _; (case bs => first | omega | (simp; done) | (simp; omega))) | (refine Below.setCell ?_ ?bs _; (case bs => first | omega | (simp; done) | (simp; omega)))))⟩
  · have e2 : (bd == 0) = false := by simp [hb]
    simp only [if_neg hb]
    go_enter Tryz.func24, Tryz.ntmps24
    go_upto_region 6 with (fail)
    go_quiet (fail)
    go_wp2
    go_ret2
    exact ⟨rfl, by (repeat (first | exact Below.refl _ _ | assumption | refine below_drewN ?_ _ | refine Below.drew ?_ | (refine Below.alloc ?_ ?bs _; (case bs => first | omega | (simp; done) | (simp; omega))) | (refine Below.setCell ?_ ?bs _; (case bs => first | omega | (simp; done) | (simp; omega)))))⟩
end Go.Proofs.YthhomflonpjbmaaGreatDoor
/-
  The walks of measure.kinds' three functions for a text node.
-/
namespace Go.Proofs.YthhomflonpjbmaaGreatDoor
open Go.RowKit
theorem and_cell2 {W w' : World} {a b : Addr} {u v : Value} (hc : W.cell? a = some u) (hd : W.cell? b = some v) (ha : a.block < W.heap.size) (hb : b.block < W.heap.size) (h : SW W w') : w'.cell? a = some u ∧ w'.cell? b = some v ∧ SW W w' := ⟨(h.cell (p := a) ha).trans hc, (h.cell (p := b) hb).trans hd, h⟩
set_option maxRecDepth 100000 in
theorem text_least (w : World) (g o : Nat) (kd : Int) (kids : Value) (gap p0 p1 p2 p3 bd md : Int) (t : ByteArray) (h : NodeIn w g o kd kids gap p0 p1 p2 p3 bd md t) (hg : g < w.heap.size) (mv : Value) (n : Int) (ht : t.size ≤ 10000000) :
    Calls Tryz.prog 48 #[mv, .pointer (some ⟨g, o, none⟩), .int .i64 n] w (VBel (.int .i64 (leastS md (flowS t.data.toList))) w) := by
  have a1 := h.tx
  have a2 := h.md
  have HL := Lib.hid fun W => least_any t md ht W
  generalize leastS md (flowS t.data.toList) = r at HL ⊢
  clear h ht
  go_enter Tryz.func48, Tryz.ntmps48
  have S0 : SW w w := Below.refl _ _
  go_upto_region 1 with (fail)
  go_region_held3 (fun w' => w'.cell? ⟨g, o + 22, none⟩ = some (.string t) ∧ w'.cell? ⟨g, o + 23, none⟩ = some (.int .i8 md) ∧ SW w w')
    ((refine and_cell2 a1 a2 hg hg ?_; (try refine Below.drew ?_); (first | assumption | (refine Below.drew ?_; assumption))))
    (first | (go_at_call 14; ((with_reducible refine (HL.out _).mono ?_); rintro e1' w2 ⟨rfl, hb2⟩; have hS2 : SW w w2 := SW.below (by (repeat (first | exact Below.refl _ _ | assumption | refine below_drewN ?_ _ | refine Below.drew ?_ | (refine Below.alloc ?_ ?bs _; (case bs => first | omega | (simp; done) | (simp; omega))) | (refine Below.setCell ?_ ?bs _; (case bs => first | omega | (simp; done) | (simp; omega)))))) hb2; have hd1 : w2.cell? ⟨g, o + 22, none⟩ = some (.string t) := (and_cell2 a1 a2 hg hg hS2).1; have hd2 : w2.cell? ⟨g, o + 23, none⟩ = some (.int .i8 md) := (and_cell2 a1 a2 hg hg hS2).2.1)))
  all_goals
    go_wp2
    go_ret
    exact ⟨rfl, by (repeat (first | exact Below.refl _ _ | assumption | refine below_drewN ?_ _ | refine Below.drew ?_ | (refine Below.alloc ?_ ?bs _; (case bs => first | omega | (simp; done) | (simp; omega))) | (refine Below.setCell ?_ ?bs _; (case bs => first | omega | (simp; done) | (simp; omega)))))⟩
set_option maxRecDepth 100000 in
theorem text_most (w : World) (g o : Nat) (kd : Int) (kids : Value) (gap p0 p1 p2 p3 bd md : Int) (t : ByteArray) (h : NodeIn w g o kd kids gap p0 p1 p2 p3 bd md t) (hg : g < w.heap.size) (mv : Value) (n : Int) (ht : t.size ≤ 10000000) :
    Calls Tryz.prog 49 #[mv, .pointer (some ⟨g, o, none⟩), .int .i64 n] w (VBel (.int .i64 (leastS 2 (flowS t.data.toList))) w) := by
  have a1 := h.tx
  have HL := Lib.hid fun W => most_any t ht W
  generalize leastS 2 (flowS t.data.toList) = r at HL ⊢
  clear h ht
  go_enter Tryz.func49, Tryz.ntmps49
  go_wp2_with (go_at_call 15; ((with_reducible refine (HL.out _).mono ?_); rintro e1' w2 ⟨rfl, hb2⟩))
  go_ret
  exact ⟨rfl, hb2⟩
/-- How high a text is at an inner width. -/
def tallS (md : Int) (iw : Nat) (t : ByteArray) : Nat := if iw = 0 then 0 else linesN md iw (rowsS (flowS t.data.toList))
theorem count_all (s : ByteArray) (w0 : Nat) (mode : Int) (hm : mode = 0 ∨ mode = 1 ∨ mode = 2) (h2 : w0 ≤ 1000000) (hs : s.size ≤ 1000000) (w : World) :
    Calls Tryz.prog 13 #[.string s, .int .i64 w0, .int .i8 mode] w (VBel (.int .i64 (tallS mode w0 s)) w) := by
  unfold tallS
  by_cases h : w0 = 0
  · subst h
    rw [if_pos rfl]
    exact (count_zero s 0 mode (by omega) w).mono fun e w' he => ⟨he.1, by rw [he.2]; exact Below.refl _ _⟩
  · rw [if_neg h]
    exact count_any s w0 mode hm (by omega) h2 hs w
set_option maxRecDepth 100000 in
theorem text_tall (w : World) (g o : Nat) (kd : Int) (kids : Value) (gap p0 p1 p2 p3 bd md : Int) (t : ByteArray) (h : NodeIn w g o kd kids gap p0 p1 p2 p3 bd md t) (hg : g < w.heap.size) (mv : Value) (n : Int) (iw : Nat) (hm : md = 0 ∨ md = 1 ∨ md = 2) (hi : iw ≤ 1000000) (ht : t.size ≤ 1000000) :
    Calls Tryz.prog 50 #[mv, .pointer (some ⟨g, o, none⟩), .int .i64 n, .int .i64 iw] w (VBel (.int .i64 (tallS md iw t)) w) := by
  have a1 := h.tx
  have a2 := h.md
  have HL := Lib.hid fun W => count_all t iw md hm hi ht W
  generalize tallS md iw t = r at HL ⊢
  clear h ht hm hi
  go_enter Tryz.func50, Tryz.ntmps50
  have S0 : SW w w := Below.refl _ _
  go_upto_region 1 with (fail)
  go_region_held3 (fun w' => w'.cell? ⟨g, o + 22, none⟩ = some (.string t) ∧ w'.cell? ⟨g, o + 23, none⟩ = some (.int .i8 md) ∧ SW w w')
    ((refine and_cell2 a1 a2 hg hg ?_; (try refine Below.drew ?_); (first | assumption | (refine Below.drew ?_; assumption))))
    (first | (go_at_call 13; ((with_reducible refine (HL.out _).mono ?_); rintro e1' w2 ⟨rfl, hb2⟩; have hS2 : SW w w2 := SW.below (by (repeat (first | exact Below.refl _ _ | assumption | refine below_drewN ?_ _ | refine Below.drew ?_ | (refine Below.alloc ?_ ?bs _; (case bs => first | omega | (simp; done) | (simp; omega))) | (refine Below.setCell ?_ ?bs _; (case bs => first | omega | (simp; done) | (simp; omega)))))) hb2; have hd1 : w2.cell? ⟨g, o + 22, none⟩ = some (.string t) := (and_cell2 a1 a2 hg hg hS2).1; have hd2 : w2.cell? ⟨g, o + 23, none⟩ = some (.int .i8 md) := (and_cell2 a1 a2 hg hg hS2).2.1)))
  all_goals
    go_wp2
    go_ret
    exact ⟨rfl, by (repeat (first | exact Below.refl _ _ | assumption | refine below_drewN ?_ _ | refine Below.drew ?_ | (refine Below.alloc ?_ ?bs _; (case bs => first | omega | (simp; done) | (simp; omega))) | (refine Below.setCell ?_ ?bs _; (case bs => first | omega | (simp; done) | (simp; omega)))))⟩
end Go.Proofs.YthhomflonpjbmaaGreatDoor
/-
  Plain: a text is not higher with more width.
-/
namespace Go.Proofs.YthhomflonpjbmaaGreatDoor
theorem putS_blank (r : Int) (h0 : 0 ≤ r) {l : List Nat} (h : putS r ++ l = [32]) : r = 32 := by
  unfold putS at h
  obtain ⟨q, hq⟩ : ∃ q, (if r < 0 ∨ (55296 ≤ r ∧ r ≤ 57343) ∨ 1114111 < r then 65533 else r.toNat) = q := ⟨_, rfl⟩
  simp only [hq] at h
  have hq32 : q = 32 := by
    split at h
    · simp at h; exact h.1
    · split at h
      · simp at h
      · split at h <;> simp at h
  rw [hq32] at hq
  split at hq
  · cases hq
  · omega
theorem kindS_blank : kindS ((32 : Nat) : Int) = 9 := by kernel_rfl
theorem ofS_blank : ofS ((32 : Nat) : Int) = 1 := by kernel_rfl
theorem lengthS_blank (rs : List Nat) : (lengthS (32 :: rs)).2 = 1 := by
  cases rs with
  | nil => simp only [lengthS, kindS_blank, ofS_blank]; decide
  | cons x xs => simp only [lengthS, kindS_blank, ofS_blank]; simp
theorem clusters_blank (l : List Nat) : ∀ c ∈ clustersS l, blankC c = true → c.2 = 1 := by
  generalize hn : l.length = n
  induction n using Nat.strongRecOn generalizing l with
  | ind n ih =>
  intro c hc hb
  cases l with
  | nil => unfold clustersS at hc; simp at hc
  | cons r rs =>
    have hs := lengthS_size r rs
    unfold clustersS at hc
    rcases List.mem_cons.1 hc with rfl | hc
    · have e : textS ((r :: rs).take (lengthS (r :: rs)).1) = [32] := by simpa [blankC] using hb
      obtain ⟨k, hk⟩ : ∃ k, (lengthS (r :: rs)).1 = k + 1 := ⟨(lengthS (r :: rs)).1 - 1, by omega⟩
      rw [hk, List.take_succ_cons] at e
      have e2 : putS (Int.ofNat r) ++ textS (rs.take k) = [32] := by simpa [textS] using e
      have e3 := putS_blank _ (by simp) e2
      obtain rfl : r = 32 := by have e4 : ((r : Nat) : Int) = 32 := e3; omega
      exact lengthS_blank rs
    · exact ih _ (by subst hn; simp only [List.length_drop, List.length_cons] at *; omega) _ rfl c hc hb
theorem flow_blank (s : List UInt8) : ∀ c ∈ flowS s, blankC c = true → c.2 = 1 := fun c hc hb => clusters_blank _ c ((List.mem_filter.1 hc).1) hb
theorem rows_blank (l : List Cl) (h : ∀ c ∈ l, blankC c = true → c.2 = 1) : ∀ r ∈ rowsS l, ∀ c ∈ r, blankC c = true → c.2 = 1 := by
  by_cases hl : l = []
  · subst hl; intro r hr; simp [rowsS] at hr
  · rw [rowsS_eq l hl]; intro r hr c hc hb; exact h c (rowsN_mem l r hr c hc) hb
theorem sum_le_sum {α : Type} (f g : α → Nat) : ∀ (l : List α), (∀ r ∈ l, f r ≤ g r) → (l.map f).sum ≤ (l.map g).sum
  | [], _ => by simp
  | x :: l, h => by
    have := sum_le_sum f g l (fun r hr => h r (by simp [hr]))
    have := h x (by simp)
    simp only [List.map_cons, List.sum_cons]; omega
/-- Not higher with more width. -/
theorem tallS_mono {md : Int} {a b : Nat} (t : ByteArray) (hm : md ≠ 2) (h1 : 1 ≤ a) (hab : a ≤ b) : tallS md b t ≤ tallS md a t := by
  unfold tallS
  rw [if_neg (by omega), if_neg (by omega)]
  unfold linesN
  refine sum_le_sum _ _ _ fun r hr => ?_
  unfold lineR
  rw [if_neg hm, if_neg hm]
  exact cntR_mono (decide (md = 0)) hab (by omega) r (rows_blank _ (flow_blank _) r hr) 0
end Go.Proofs.YthhomflonpjbmaaGreatDoor
/-
  Plain: the numbers of two little texts.
-/
namespace Go.Proofs.YthhomflonpjbmaaGreatDoor
def abT : ByteArray := ⟨#[97, 98, 32, 99, 100, 101]⟩
def xT : ByteArray := ⟨#[120]⟩
theorem ab_flow : flowS abT.data.toList = [([97], 1), ([98], 1), ([32], 1), ([99], 1), ([100], 1), ([101], 1)] := by kernel_rfl
theorem x_flow : flowS xT.data.toList = [([120], 1)] := by kernel_rfl
theorem ab_least : leastS 0 (flowS abT.data.toList) = 3 := by rw [ab_flow]; decide
theorem ab_most : leastS 2 (flowS abT.data.toList) = 6 := by rw [ab_flow]; decide
theorem x_least : leastS 0 (flowS xT.data.toList) = 1 := by rw [x_flow]; decide
theorem x_most : leastS 2 (flowS xT.data.toList) = 1 := by rw [x_flow]; decide
theorem ab_tall6 : tallS 0 6 abT = 1 := by unfold tallS; rw [ab_flow]; simp [rowsS, linesN, lineR, cntR, wideS]
theorem ab_tall3 : tallS 0 3 abT = 2 := by unfold tallS; rw [ab_flow]; simp [rowsS, linesN, lineR, cntR, wideS, fitS, advS, lastB, blankC]
theorem x_tall1 : tallS 0 1 xT = 1 := by unfold tallS; rw [x_flow]; simp [rowsS, linesN, lineR, cntR, wideS]
end Go.Proofs.YthhomflonpjbmaaGreatDoor
