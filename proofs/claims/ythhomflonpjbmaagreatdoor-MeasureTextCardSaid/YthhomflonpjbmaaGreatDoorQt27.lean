/-
  The walk of the law MeasureText where the text may not be.
-/
import Derived.Test.YthhomflonpjbmaaGreatDoorQt26
import Derived.Deep.MidRow
import Derived.Deep.WholeRow
namespace Go.Proofs.YthhomflonpjbmaaGreatDoor
open Go.RowKit Go.Maps
abbrev nodeV (t : ByteArray) (md : Int) : Array Value := #[.int .i8 1, .string ⟨#[]⟩, .string ⟨#[]⟩, .slice none 0 0, .int .i8 0, .int .i64 0, .int .i64 0, .int .i64 0, .int .i64 0, .int .i8 0, .int .i64 0, .int .i64 0, .int .i64 0, .int .i64 0, .int .i64 0, .int .i64 0, .int .i64 0, .int .i64 0, .int .i64 0, .int .i8 0, .int .i8 0, .int .i8 0, .string t, .int .i8 md, .int .i32 0, .int .i32 0, .int .u8 0, .int .u8 0, .slice none 0 0, .int .i64 0, .int .i64 0, .int .i64 0, .int .i64 0, .int .u8 0]
/-- THE WALK's STEP over the store of a node into the block that was made last. -/
theorem wpList_store_node {ops : Array Oper} {rest : List Oper} {a : Act} {Q : Exit → Act → World → Prop} {W : World} {dst : Option Tmp} {ty : TypeId} {x y : Operand} {pos : String} {after : Array Edge} {c c' : Array Value} {b : Nat}
    (hx : a.eval x = .pointer (some ⟨b, 0, none⟩)) (hb : b = W.heap.size) (hy : a.eval y = .agg c') (hc : c.size = 34) (hc' : c'.size = 34) (h1 : c'.all (·.oneCell') = true)
    (h : ∀ K : Act → World → Prop, (∀ a w, wpList Tryz.prog ops Q rest a w → K a w) → K (a.put dst undef) (W.alloc (.cells c' 46))) :
    wpList Tryz.prog ops Q ({ dst := dst, op := .store 46 x y, type := ty, pos := pos, after := after, guard := none } :: rest) a (W.alloc (.cells c 46)) := by
  refine wpList_plain rfl fun K hK => ?_
  subst hb
  unfold Oper.wp execOp
  have hi : (Tryz.prog.info? 46).map (·.size) = some c'.size := by rw [hc']; kernel_rfl
  simp only [hx, hy, run_storeAt_new W 46 c c' hi (hc.trans hc'.symm) h1, Result.andThen, Sem.run_bind, Sem.run_pure]
  exact hK _ _ (h _ (fun _ _ h => h))
/-- THE WALK's STEP over the load of a node. -/
theorem wpList_load_node {ops : Array Oper} {rest : List Oper} {a : Act} {Q : Exit → Act → World → Prop} {W : World} {dst : Option Tmp} {ty : TypeId} {x : Operand} {pos : String} {after : Array Edge} {b : Nat} {cs : List Value} {v : Array Value}
    (hx : a.eval x = .pointer (some ⟨b, 0, none⟩)) (hv : cs.toArray = v) (hl : cs.length = 34) (hc : ∀ (j : Nat) (u : Value), cs[j]? = some u → W.cell? ⟨b, 0 + j, none⟩ = some u)
    (h : ∀ K : Act → World → Prop, (∀ a w, wpList Tryz.prog ops Q rest a w → K a w) → K (a.put dst (.agg v)) W) :
    wpList Tryz.prog ops Q ({ dst := dst, op := .load 46 x, type := ty, pos := pos, after := after, guard := none } :: rest) a W := by
  subst hv
  exact wpList_load_mid rfl 46 x rfl b 0 hx cs _ hc Tryz.underlying46 rfl (by rw [hl]; kernel_rfl) (h _ (fun _ _ h => h))
theorem node_made (w : World) (t : ByteArray) (md : Int) (b : Nat) (hb : b = w.heap.size) : NodeAt (w.alloc (.cells (nodeV t md) 46)) b 0 1 (.slice none 0 0) 0 0 0 0 0 0 md t := by
  have hc : ∀ q, (w.alloc (.cells (nodeV t md) 46)).cell? ⟨b, q, none⟩ = (nodeV t md)[q]? := fun q => cell_newB _ _ _ _ _ hb
  constructor <;> (rw [hc]; rfl)
set_option maxRecDepth 100000 in
set_option maxHeartbeats 4000000 in
theorem law_bad (t : ByteArray) (md x more a0 a1 a2 a3 code : Int) (w : World) (hcode : (code == 0) = false)
    (HN : ∀ W g, NodeAt W g 0 1 (.slice none 0 0) 0 0 0 0 0 0 md t → g < W.heap.size → Calls Tryz.prog 8 #[.agg #[.slice (some ⟨g, 0, none⟩) 1 1]] W (VBel (.tuple #[.pointer none, .int .i64 code]) W)) :
    Calls Tryz.prog 4 #[.string t, .int .i8 md, .int .i64 x, .int .i64 more, .agg #[.int .i64 a0, .int .i64 a1, .int .i64 a2, .int .i64 a3]] w (VBel (.bool true) w) := by
  have hb0 : Below w.heap.size w (((w.alloc (.cells #[.int .i64 a0, .int .i64 a1, .int .i64 a2, .int .i64 a3] 37)).alloc (.cells (nodeV t md) 46)).alloc (.cells (nodeV t md) 46)) := by (repeat (first | exact Below.refl _ _ | assumption | refine below_drewN ?_ _ | refine Below.drew ?_ | (refine Below.alloc ?_ ?bs _; (case bs => first | omega | (simp; done) | (simp; omega))) | (refine Below.setCell ?_ ?bs _; (case bs => first | omega | (simp; done) | (simp; omega)))))
  have HB0 := Lib.hid hb0
  have HXN := Lib.hid (node_made (w.alloc (.cells #[.int .i64 a0, .int .i64 a1, .int .i64 a2, .int .i64 a3] 37)) t md (w.heap.size + 1) (by simp))
  have HNN := Lib.hid (HN (((w.alloc (.cells #[.int .i64 a0, .int .i64 a1, .int .i64 a2, .int .i64 a3] 37)).alloc (.cells (nodeV t md) 46)).alloc (.cells (nodeV t md) 46)) (w.heap.size + 1 + 1) (node_made _ t md _ (by simp)) (by simp))
  clear HN hb0
  go_enter Tryz.func4, Tryz.ntmps4
  go_upto_region 1 with (fail)
  refine wp_region_lit ?_
  iterate 4 (refine wpList_plain rfl fun K1 hK1 => ?_; unfold Oper.wp execOp; go_simp; refine hK1 _ _ ?_; clear hK1)
  refine wpList_store_node (c' := nodeV t md) (b := w.heap.size + 1) rfl (by simp) rfl rfl rfl (all_oneCell_toArray (nodeL_one (kd := 1) (kids := .slice none 0 0) (gap := 0) (p0 := 0) (p1 := 0) (p2 := 0) (p3 := 0) (bd := 0) (md := md) (t := t) rfl)) (fun K hK => hK _ _ ?_)
  go_upto_region 2 with (fail)
  refine wp_region_lit ?_
  refine wpList_load_node (b := w.heap.size + 1) (cs := nodeL 1 (.slice none 0 0) 0 0 0 0 0 0 md t) (v := nodeV t md) rfl rfl rfl HXN.out.cells (fun K hK => hK _ _ ?_)
  dsimp only [nodeV]
  go_wp2_with (first | (go_at_call 8; ((with_reducible refine HNN.out.mono ?_); rintro e1' w2 ⟨rfl, hb2⟩; have HB2 := Lib.hid (HB0.out.trans (hb2.mono HB0.out.size)); clear hb2)) | (go_at_call 9; ((with_reducible refine (alive_any _).mono ?_); rintro e1' w3 ⟨rfl, hb3⟩)))
  go_ret
  exact ⟨rfl, HB2.out.trans (hb3.mono HB2.out.size)⟩
end Go.Proofs.YthhomflonpjbmaaGreatDoor
/-
  The walk of the law MeasureText where the text is measured.
-/
namespace Go.Proofs.YthhomflonpjbmaaGreatDoor
open Go.RowKit Go.Maps
abbrev d0 (md : Int) (t : ByteArray) : TD := ⟨md, 0, 0, 0, 0, 0, t⟩
/-- What is held in the law: the paddings' block, the node's, the first measure. -/
structure LawSt (W : World) (b9 b11 : Nat) (md : Int) (t : ByteArray) (c0 c1 c2 c3 : Int) (lo : Nat) (q : TP) (K : Nat) (w : World) : Prop where
  k0 : w.cell? ⟨b9, 0, none⟩ = some (.int .i64 c0)
  k1 : w.cell? ⟨b9, 1, none⟩ = some (.int .i64 c1)
  k2 : w.cell? ⟨b9, 2, none⟩ = some (.int .i64 c2)
  k3 : w.cell? ⟨b9, 3, none⟩ = some (.int .i64 c3)
  n : NodeAt w b11 0 1 (.slice none 0 0) 0 0 0 0 0 0 md t
  f9 : ∀ i, w.frozen? ⟨b9, i, none⟩ = false
  f11 : ∀ i, w.frozen? ⟨b11, i, none⟩ = false
  T : TInv q (d0 md t) K w
  hB : Below W.heap.size W w
  w9 : W.heap.size ≤ b9
  w11 : W.heap.size ≤ b11
  ne : b9 < b11
  lt : b11 < lo
  ll : lo ≤ w.heap.size
  lp : lo ≤ q.pm
  lg : lo ≤ q.g
  lk : lo ≤ q.bk
  lm : lo ≤ q.bm
theorem LawSt.turn {W : World} {b9 b11 : Nat} {md : Int} {t : ByteArray} {c0 c1 c2 c3 : Int} {lo : Nat} {q : TP} {K K' b : Nat} {w w' : World} (h : LawSt W b9 b11 md t c0 c1 c2 c3 lo q K w) (hg : w.grownBy w' (some b)) (hb : lo ≤ b) (hT : TInv q (d0 md t) K' w') : LawSt W b9 b11 md t c0 c1 c2 c3 lo q K' w' := by
  have e9 : some b9 ≠ some b := by have := h.ne; have := h.lt; simp; omega
  have e11 : some b11 ≠ some b := by have := h.lt; simp; omega
  have h9 : b9 < w.heap.size := by have := h.ne; have := h.lt; have := h.ll; omega
  have h11 : b11 < w.heap.size := by have := h.lt; have := h.ll; omega
  have hWw : W.heap.size ≤ w.heap.size := h.hB.size
  have c : ∀ i, w'.cell? ⟨b11, i, none⟩ = w.cell? ⟨b11, i, none⟩ := fun i => hg.cell_far ⟨b11, i, none⟩ h11 e11
  refine ⟨hg.cell h.k0 e9, hg.cell h.k1 e9, hg.cell h.k2 e9, hg.cell h.k3 e9, ?_, fun i => (hg.frozen_far ⟨b9, i, none⟩ h9 e9).trans (h.f9 i), fun i => (hg.frozen_far ⟨b11, i, none⟩ h11 e11).trans (h.f11 i), hT, h.hB.trans (below_grownBy hg (by have := h.w11; have := h.lt; omega) hWw), h.w9, h.w11, h.ne, h.lt, Nat.le_trans h.ll hg.size, h.lp, h.lg, h.lk, h.lm⟩
  obtain ⟨a1, a2, a3, a4, a5, a6, a7, a8, a9, a10, a11, a12, a13, a14, a15, a16, a17, a18, a19, a20, a21, a22, a23, a24, a25, a26, a27, a28, a29, a30, a31, a32, a33, a34⟩ := h.n
  constructor <;> (rw [c]; assumption)
theorem LawSt.post {W : World} {b9 b11 : Nat} {md : Int} {t : ByteArray} {c0 c1 c2 c3 : Int} {lo : Nat} {q : TP} {K K' : Nat} {w w' : World} (h : LawSt W b9 b11 md t c0 c1 c2 c3 lo q K w) (hg : w.grownBy w' (some q.bm)) (hT : TInv q (d0 md t) K' w') : LawSt W b9 b11 md t c0 c1 c2 c3 lo q K' w' := h.turn hg h.lm hT
theorem LawSt.bel {W : World} {b9 b11 : Nat} {md : Int} {t : ByteArray} {c0 c1 c2 c3 : Int} {lo : Nat} {q : TP} {K : Nat} {w w' : World} (h : LawSt W b9 b11 md t c0 c1 c2 c3 lo q K w) (hb : Below w.heap.size w w') : LawSt W b9 b11 md t c0 c1 c2 c3 lo q K w' := h.post (grownBy_below hb _) (h.T.below hb)
/-- What is asked of the plain numbers. -/
structure Num (t : ByteArray) (md x more a H L M : Int) : Prop where
  ok : md = 0 ∨ md = 1 ∨ md = 2
  hs : t.size ≤ 65536
  hx : -9223372036854775808 ≤ x ∧ x ≤ 9223372036854775807
  ha : min (max x 0) 4096 = a
  hH : H = tallS md a.toNat t
  hL : L = leastS md (flowS t.data.toList)
  hM : M = leastS 2 (flowS t.data.toList)
theorem Num.d {t : ByteArray} {md x more a H L M : Int} (h : Num t md x more a H L M) : (d0 md t).ok :=
  have z : (0 : Int) ≤ 0 ∧ (0 : Int) ≤ 4096 := by omega
  have y : (0 : Int) ≤ 0 ∧ (0 : Int) ≤ 4 := by omega
  ⟨h.ok, z, z, z, z, y, h.hs⟩
theorem Num.count {t : ByteArray} {md x more a H L M : Int} (h : Num t md x more a H L M) (w : World) : Calls Tryz.prog 13 #[.string t, .int .i64 a, .int .i8 md] w (VBel (.int .i64 H) w) := by
  have := count_all t a.toNat md h.ok (by have := h.ha; omega) (by have := h.hs; omega) w
  rw [Int.toNat_of_nonneg (by have := h.ha; omega), ← h.hH] at this
  exact this
theorem Num.tall {t : ByteArray} {md x more a H L M : Int} (h : Num t md x more a H L M) (q : TP) (K : Nat) (hK : K < 900000) (w : World) (T : TInv q (d0 md t) K w) : Calls Tryz.prog 10 #[.pointer (some ⟨q.pm, 0, none⟩), .int .i64 0, .int .i64 x] w (TPost (min H 4096) q (d0 md t) (K + 1) w) := by
  have := t_tall q (d0 md t) h.d K hK w T x a h.hx h.ha
  have e : min 4096 ((tallS md (max 0 (a - (d0 md t).fx)).toNat t : Int) + (d0 md t).fy) = min H 4096 := by
    have e1 : (d0 md t).fx = 0 := rfl
    have e2 : (d0 md t).fy = 0 := rfl
    have e3 : max 0 (a - 0) = a := by have := h.ha; omega
    rw [e1, e2, e3, ← h.hH]; omega
  rw [e] at this; exact this
theorem Num.tallB {t : ByteArray} {md x more a H L M : Int} (h : Num t md x more a H L M) (h1 : 1 ≤ a) (h2 : md ≠ 2) (b : Int) (hb : a ≤ b ∧ b ≤ 5000) : ∃ v, (decide (min H 4096 < v) = false) ∧ ∀ (q : TP) (K : Nat) (_ : K < 900000) (w : World) (_ : TInv q (d0 md t) K w), Calls Tryz.prog 10 #[.pointer (some ⟨q.pm, 0, none⟩), .int .i64 0, .int .i64 b] w (TPost v q (d0 md t) (K + 1) w) := by
  refine ⟨_, ?_, fun q K hK w T => t_tall q (d0 md t) h.d K hK w T b (min (max b 0) 4096) (by omega) rfl⟩
  have e1 : (d0 md t).fx = 0 := rfl
  have e2 : (d0 md t).fy = 0 := rfl
  have e3 : max 0 (min (max b 0) 4096 - 0) = min b 4096 := by omega
  have hl : tallS md (min b 4096).toNat t ≤ tallS md a.toNat t := tallS_mono t h2 (by omega) (by have := h.ha; omega)
  have := h.hH
  rw [e1, e2, e3]
  simp; omega
theorem Num.least {t : ByteArray} {md x more a H L M : Int} (h : Num t md x more a H L M) (q : TP) (K : Nat) (hK : K < 900000) (w : World) (T : TInv q (d0 md t) K w) : Calls Tryz.prog 11 #[.pointer (some ⟨q.pm, 0, none⟩), .int .i64 0] w (TPost (min 4096 L) q (d0 md t) (K + 1) w) := by
  have := t_least q (d0 md t) h.d K hK w T
  rw [show (d0 md t).fx = 0 from rfl, Int.add_zero, ← h.hL] at this; exact this
theorem Num.most {t : ByteArray} {md x more a H L M : Int} (h : Num t md x more a H L M) (q : TP) (K : Nat) (hK : K < 900000) (w : World) (T : TInv q (d0 md t) K w) : Calls Tryz.prog 12 #[.pointer (some ⟨q.pm, 0, none⟩), .int .i64 0] w (TPost (min 4096 M) q (d0 md t) (K + 1) w) := by
  have := t_most q (d0 md t) h.d K hK w T
  rw [show (d0 md t).fx = 0 from rfl, Int.add_zero, ← h.hM] at this; exact this
theorem Num.wleast {t : ByteArray} {md x more a H L M : Int} (h : Num t md x more a H L M) (w : World) : Calls Tryz.prog 14 #[.string t, .int .i8 md] w (VBel (.int .i64 L) w) := by
  have := least_any t md (by have := h.hs; omega) w
  rw [← h.hL] at this; exact this
theorem Num.wmost {t : ByteArray} {md x more a H L M : Int} (h : Num t md x more a H L M) (w : World) : Calls Tryz.prog 15 #[.string t] w (VBel (.int .i64 M) w) := by
  have := most_any t (by have := h.hs; omega) w
  rw [← h.hM] at this; exact this
theorem tmod50 (c : Int) : -49 ≤ c.tmod 50 ∧ c.tmod 50 ≤ 49 := by
  rcases Int.le_total 0 c with h | h
  · have h1 := Int.tmod_nonneg 50 h
    have h2 := Int.tmod_lt_of_pos c (show (0 : Int) < 50 by decide)
    omega
  · have h1 := Int.tmod_nonneg 50 (show (0 : Int) ≤ -c by omega)
    have h2 := Int.tmod_lt_of_pos (-c) (show (0 : Int) < 50 by decide)
    rw [Int.neg_tmod] at h1 h2
    omega
theorem setCell_off {g g' q p : Nat} (w : World) (v : Value) (h : g' ≠ g) : (w.setCell ⟨g', p, none⟩ v).cell? ⟨g, q, none⟩ = w.cell? ⟨g, q, none⟩ := by
  apply World.cell?_setCell_other
  intro e; injection e with e1; exact h e1
theorem LawSt.set0 {W : World} {b9 b11 : Nat} {md : Int} {t : ByteArray} {c0 c1 c2 c3 : Int} {lo : Nat} {q : TP} {K : Nat} {w : World} (h : LawSt W b9 b11 md t c0 c1 c2 c3 lo q K w) (v : Int) : LawSt W b9 b11 md t v c1 c2 c3 lo q K (w.setCell ⟨b9, 0, none⟩ (.int .i64 v)) := by
  have hne : b9 ≠ b11 := Nat.ne_of_lt h.ne
  have hlt := h.lt
  have hne2 := h.ne
  have hB : Below W.heap.size W (w.setCell ⟨b9, 0, none⟩ (.int .i64 v)) := by
    refine Below.setCell h.hB ?_ _
    exact h.w9
  refine ⟨setCell_here w _ h.k0, (setCell_far w _ (by decide)).trans h.k1, (setCell_far w _ (by decide)).trans h.k2, (setCell_far w _ (by decide)).trans h.k3, ?_, fun i => by rw [World.frozen?_setCell]; exact h.f9 i, fun i => by rw [World.frozen?_setCell]; exact h.f11 i, h.T.other (grownBy_set w b9 0 _) (by have := h.lp; omega) (by have := h.lg; omega) (by have := h.lk; omega) (by have := h.lm; omega), hB, h.w9, h.w11, h.ne, h.lt, by simp [World.setCell]; exact h.ll, h.lp, h.lg, h.lk, h.lm⟩
  obtain ⟨a1, a2, a3, a4, a5, a6, a7, a8, a9, a10, a11, a12, a13, a14, a15, a16, a17, a18, a19, a20, a21, a22, a23, a24, a25, a26, a27, a28, a29, a30, a31, a32, a33, a34⟩ := h.n
  constructor <;> (rw [setCell_off w _ hne]; assumption)
theorem LawSt.set1 {W : World} {b9 b11 : Nat} {md : Int} {t : ByteArray} {c0 c1 c2 c3 : Int} {lo : Nat} {q : TP} {K : Nat} {w : World} (h : LawSt W b9 b11 md t c0 c1 c2 c3 lo q K w) (v : Int) : LawSt W b9 b11 md t c0 v c2 c3 lo q K (w.setCell ⟨b9, 1, none⟩ (.int .i64 v)) := by
  have hne : b9 ≠ b11 := Nat.ne_of_lt h.ne
  have hlt := h.lt
  have hne2 := h.ne
  have hB : Below W.heap.size W (w.setCell ⟨b9, 1, none⟩ (.int .i64 v)) := by
    refine Below.setCell h.hB ?_ _
    exact h.w9
  refine ⟨(setCell_far w _ (by decide)).trans h.k0, setCell_here w _ h.k1, (setCell_far w _ (by decide)).trans h.k2, (setCell_far w _ (by decide)).trans h.k3, ?_, fun i => by rw [World.frozen?_setCell]; exact h.f9 i, fun i => by rw [World.frozen?_setCell]; exact h.f11 i, h.T.other (grownBy_set w b9 1 _) (by have := h.lp; omega) (by have := h.lg; omega) (by have := h.lk; omega) (by have := h.lm; omega), hB, h.w9, h.w11, h.ne, h.lt, by simp [World.setCell]; exact h.ll, h.lp, h.lg, h.lk, h.lm⟩
  obtain ⟨a1, a2, a3, a4, a5, a6, a7, a8, a9, a10, a11, a12, a13, a14, a15, a16, a17, a18, a19, a20, a21, a22, a23, a24, a25, a26, a27, a28, a29, a30, a31, a32, a33, a34⟩ := h.n
  constructor <;> (rw [setCell_off w _ hne]; assumption)
theorem LawSt.set2 {W : World} {b9 b11 : Nat} {md : Int} {t : ByteArray} {c0 c1 c2 c3 : Int} {lo : Nat} {q : TP} {K : Nat} {w : World} (h : LawSt W b9 b11 md t c0 c1 c2 c3 lo q K w) (v : Int) : LawSt W b9 b11 md t c0 c1 v c3 lo q K (w.setCell ⟨b9, 2, none⟩ (.int .i64 v)) := by
  have hne : b9 ≠ b11 := Nat.ne_of_lt h.ne
  have hlt := h.lt
  have hne2 := h.ne
  have hB : Below W.heap.size W (w.setCell ⟨b9, 2, none⟩ (.int .i64 v)) := by
    refine Below.setCell h.hB ?_ _
    exact h.w9
  refine ⟨(setCell_far w _ (by decide)).trans h.k0, (setCell_far w _ (by decide)).trans h.k1, setCell_here w _ h.k2, (setCell_far w _ (by decide)).trans h.k3, ?_, fun i => by rw [World.frozen?_setCell]; exact h.f9 i, fun i => by rw [World.frozen?_setCell]; exact h.f11 i, h.T.other (grownBy_set w b9 2 _) (by have := h.lp; omega) (by have := h.lg; omega) (by have := h.lk; omega) (by have := h.lm; omega), hB, h.w9, h.w11, h.ne, h.lt, by simp [World.setCell]; exact h.ll, h.lp, h.lg, h.lk, h.lm⟩
  obtain ⟨a1, a2, a3, a4, a5, a6, a7, a8, a9, a10, a11, a12, a13, a14, a15, a16, a17, a18, a19, a20, a21, a22, a23, a24, a25, a26, a27, a28, a29, a30, a31, a32, a33, a34⟩ := h.n
  constructor <;> (rw [setCell_off w _ hne]; assumption)
theorem LawSt.set3 {W : World} {b9 b11 : Nat} {md : Int} {t : ByteArray} {c0 c1 c2 c3 : Int} {lo : Nat} {q : TP} {K : Nat} {w : World} (h : LawSt W b9 b11 md t c0 c1 c2 c3 lo q K w) (v : Int) : LawSt W b9 b11 md t c0 c1 c2 v lo q K (w.setCell ⟨b9, 3, none⟩ (.int .i64 v)) := by
  have hne : b9 ≠ b11 := Nat.ne_of_lt h.ne
  have hlt := h.lt
  have hne2 := h.ne
  have hB : Below W.heap.size W (w.setCell ⟨b9, 3, none⟩ (.int .i64 v)) := by
    refine Below.setCell h.hB ?_ _
    exact h.w9
  refine ⟨(setCell_far w _ (by decide)).trans h.k0, (setCell_far w _ (by decide)).trans h.k1, (setCell_far w _ (by decide)).trans h.k2, setCell_here w _ h.k3, ?_, fun i => by rw [World.frozen?_setCell]; exact h.f9 i, fun i => by rw [World.frozen?_setCell]; exact h.f11 i, h.T.other (grownBy_set w b9 3 _) (by have := h.lp; omega) (by have := h.lg; omega) (by have := h.lk; omega) (by have := h.lm; omega), hB, h.w9, h.w11, h.ne, h.lt, by simp [World.setCell]; exact h.ll, h.lp, h.lg, h.lk, h.lm⟩
  obtain ⟨a1, a2, a3, a4, a5, a6, a7, a8, a9, a10, a11, a12, a13, a14, a15, a16, a17, a18, a19, a20, a21, a22, a23, a24, a25, a26, a27, a28, a29, a30, a31, a32, a33, a34⟩ := h.n
  constructor <;> (rw [setCell_off w _ hne]; assumption)
/-- The first n paddings are small. -/
def PadSt (W : World) (md : Int) (t : ByteArray) (q : TP) (n : Nat) (w : World) : Prop :=
  ∃ c0 c1 c2 c3 K, K ≤ 20 ∧ LawSt W W.heap.size (W.heap.size + 1) md t c0 c1 c2 c3 (W.heap.size + 3) q K w ∧ (1 ≤ n → 0 ≤ c0 ∧ c0 ≤ 49) ∧ (2 ≤ n → 0 ≤ c1 ∧ c1 ≤ 49) ∧ (3 ≤ n → 0 ≤ c2 ∧ c2 ≤ 49) ∧ (4 ≤ n → 0 ≤ c3 ∧ c3 ≤ 49)
theorem TInv.set {q : TP} {d : TD} {K b p : Nat} {w : World} {v : Value} (h : TInv q d K w) (lo : Nat) (hb : b < lo) (h1 : lo ≤ q.pm) (h2 : lo ≤ q.g) (h3 : lo ≤ q.bk) (h4 : lo ≤ q.bm) : TInv q d K (w.setCell ⟨b, p, none⟩ v) :=
  h.other (grownBy_set w b p v) (by omega) (by omega) (by omega) (by omega)
abbrev d1 (md : Int) (t : ByteArray) (c0 c1 c2 c3 : Int) : TD := ⟨md, c0, c1, c2, c3, 2, t⟩
theorem Num.okP {t : ByteArray} {md x more a H L M : Int} (h : Num t md x more a H L M) {c0 c1 c2 c3 : Int} (h0 : 0 ≤ c0 ∧ c0 ≤ 49) (h1 : 0 ≤ c1 ∧ c1 ≤ 49) (h2 : 0 ≤ c2 ∧ c2 ≤ 49) (h3 : 0 ≤ c3 ∧ c3 ≤ 49) : (d1 md t c0 c1 c2 c3).ok :=
  have y : (0 : Int) ≤ 2 ∧ (2 : Int) ≤ 4 := by omega
  ⟨h.ok, ⟨h0.1, Int.le_trans h0.2 (by decide)⟩, ⟨h1.1, Int.le_trans h1.2 (by decide)⟩, ⟨h2.1, Int.le_trans h2.2 (by decide)⟩, ⟨h3.1, Int.le_trans h3.2 (by decide)⟩, y, h.hs⟩
/-- What is held in the law behind the second measure. -/
structure LawS2 (W : World) (b9 : Nat) (md : Int) (t : ByteArray) (c0 c1 c2 c3 : Int) (lo lo1 : Nat) (q q1 : TP) (K K1 : Nat) (w : World) : Prop where
  k0 : w.cell? ⟨b9, 0, none⟩ = some (.int .i64 c0)
  k1 : w.cell? ⟨b9, 1, none⟩ = some (.int .i64 c1)
  k2 : w.cell? ⟨b9, 2, none⟩ = some (.int .i64 c2)
  k3 : w.cell? ⟨b9, 3, none⟩ = some (.int .i64 c3)
  T : TInv q (d0 md t) K w
  T1 : TInv q1 (d1 md t c0 c1 c2 c3) K1 w
  hB : Below W.heap.size W w
  w9 : W.heap.size ≤ b9
  l9 : b9 < lo
  lp : lo ≤ q.pm
  lg : lo ≤ q.g
  lk : lo ≤ q.bk
  lm : lo ≤ q.bm
  up : q.pm < lo1
  ug : q.g < lo1
  uk : q.bk < lo1
  um : q.bm < lo1
  vp : lo1 ≤ q1.pm
  vg : lo1 ≤ q1.g
  vk : lo1 ≤ q1.bk
  vm : lo1 ≤ q1.bm
theorem LawS2.turnM {W : World} {b9 : Nat} {md : Int} {t : ByteArray} {c0 c1 c2 c3 : Int} {lo lo1 : Nat} {q q1 : TP} {K K' K1 : Nat} {w w' : World} (h : LawS2 W b9 md t c0 c1 c2 c3 lo lo1 q q1 K K1 w) (hg : w.grownBy w' (some q.bm)) (hT : TInv q (d0 md t) K' w') : LawS2 W b9 md t c0 c1 c2 c3 lo lo1 q q1 K' K1 w' := by
  have := h.l9; have := h.lm; have := h.um; have := h.vp; have := h.vg; have := h.vk; have := h.vm; have := h.w9
  have e9 : some b9 ≠ some q.bm := by simp; omega
  exact ⟨hg.cell h.k0 e9, hg.cell h.k1 e9, hg.cell h.k2 e9, hg.cell h.k3 e9, hT, h.T1.other hg (by omega) (by omega) (by omega) (by omega), h.hB.trans (below_grownBy hg (by omega) h.hB.size), h.w9, h.l9, h.lp, h.lg, h.lk, h.lm, h.up, h.ug, h.uk, h.um, h.vp, h.vg, h.vk, h.vm⟩
theorem LawS2.turnF {W : World} {b9 : Nat} {md : Int} {t : ByteArray} {c0 c1 c2 c3 : Int} {lo lo1 : Nat} {q q1 : TP} {K K1 K1' : Nat} {w w' : World} (h : LawS2 W b9 md t c0 c1 c2 c3 lo lo1 q q1 K K1 w) (hg : w.grownBy w' (some q1.bm)) (hT : TInv q1 (d1 md t c0 c1 c2 c3) K1' w') : LawS2 W b9 md t c0 c1 c2 c3 lo lo1 q q1 K K1' w' := by
  have := h.l9; have := h.lm; have := h.um; have := h.up; have := h.ug; have := h.uk; have := h.vm; have := h.w9
  have e9 : some b9 ≠ some q1.bm := by simp; omega
  exact ⟨hg.cell h.k0 e9, hg.cell h.k1 e9, hg.cell h.k2 e9, hg.cell h.k3 e9, h.T.other hg (by omega) (by omega) (by omega) (by omega), hT, h.hB.trans (below_grownBy hg (by omega) h.hB.size), h.w9, h.l9, h.lp, h.lg, h.lk, h.lm, h.up, h.ug, h.uk, h.um, h.vp, h.vg, h.vk, h.vm⟩
theorem Num.fleast {t : ByteArray} {md x more a H L M : Int} (h : Num t md x more a H L M) {c0 c1 c2 c3 fx : Int} (ok : (d1 md t c0 c1 c2 c3).ok) (hfx : c1 + c3 + 2 = fx) (q : TP) (K : Nat) (hK : K < 900000) (w : World) (T : TInv q (d1 md t c0 c1 c2 c3) K w) : Calls Tryz.prog 11 #[.pointer (some ⟨q.pm, 0, none⟩), .int .i64 0] w (TPost (min 4096 (min 4096 L + fx)) q (d1 md t c0 c1 c2 c3) (K + 1) w) := by
  have := t_least q (d1 md t c0 c1 c2 c3) ok K hK w T
  have e : min 4096 ((leastS md (flowS t.data.toList) : Int) + (d1 md t c0 c1 c2 c3).fx) = min 4096 (min 4096 L + fx) := by
    have e1 : (d1 md t c0 c1 c2 c3).fx = fx := by rw [← hfx]; simp [TD.fx]
    have := ok.fx
    rw [e1] at this
    rw [e1, ← h.hL]; omega
  rw [e] at this; exact this
theorem Num.fmost {t : ByteArray} {md x more a H L M : Int} (h : Num t md x more a H L M) {c0 c1 c2 c3 fx : Int} (ok : (d1 md t c0 c1 c2 c3).ok) (hfx : c1 + c3 + 2 = fx) (q : TP) (K : Nat) (hK : K < 900000) (w : World) (T : TInv q (d1 md t c0 c1 c2 c3) K w) : Calls Tryz.prog 12 #[.pointer (some ⟨q.pm, 0, none⟩), .int .i64 0] w (TPost (min 4096 (min 4096 M + fx)) q (d1 md t c0 c1 c2 c3) (K + 1) w) := by
  have := t_most q (d1 md t c0 c1 c2 c3) ok K hK w T
  have e : min 4096 ((leastS 2 (flowS t.data.toList) : Int) + (d1 md t c0 c1 c2 c3).fx) = min 4096 (min 4096 M + fx) := by
    have e1 : (d1 md t c0 c1 c2 c3).fx = fx := by rw [← hfx]; simp [TD.fx]
    have := ok.fx
    rw [e1] at this
    rw [e1, ← h.hM]; omega
  rw [e] at this; exact this
theorem Num.ftall {t : ByteArray} {md x more a H L M : Int} (h : Num t md x more a H L M) {c0 c1 c2 c3 fx fy : Int} (ok : (d1 md t c0 c1 c2 c3).ok) (hfx : c1 + c3 + 2 = fx) (hfy : c0 + c2 + 2 = fy) (hq : ¬ 4096 < a + fx) (q : TP) (K : Nat) (hK : K < 900000) (w : World) (T : TInv q (d1 md t c0 c1 c2 c3) K w) : Calls Tryz.prog 10 #[.pointer (some ⟨q.pm, 0, none⟩), .int .i64 0, .int .i64 (a + fx)] w (TPost (min 4096 (min H 4096 + fy)) q (d1 md t c0 c1 c2 c3) (K + 1) w) := by
  have e1 : (d1 md t c0 c1 c2 c3).fx = fx := by rw [← hfx]; simp [TD.fx]
  have e2 : (d1 md t c0 c1 c2 c3).fy = fy := by rw [← hfy]; simp [TD.fy]
  have h3 := ok.fx
  have h4 := ok.fy
  have h5 := h.ha
  rw [e1] at h3
  rw [e2] at h4
  have := t_tall q (d1 md t c0 c1 c2 c3) ok K hK w T (a + fx) (a + fx) (by omega) (by omega)
  have e : min 4096 ((tallS md (max 0 (a + fx - (d1 md t c0 c1 c2 c3).fx)).toNat t : Int) + (d1 md t c0 c1 c2 c3).fy) = min 4096 (min H 4096 + fy) := by
    rw [e1, e2, show max 0 (a + fx - fx) = a by omega, ← h.hH]; omega
  rw [e] at this; exact this
abbrev nodeP (t : ByteArray) (md c0 c1 c2 c3 : Int) : Array Value := #[.int .i8 1, .string ⟨#[]⟩, .string ⟨#[]⟩, .slice none 0 0, .int .i8 0, .int .i64 0, .int .i64 0, .int .i64 0, .int .i64 0, .int .i8 0, .int .i64 0, .int .i64 0, .int .i64 0, .int .i64 0, .int .i64 0, .int .i64 c0, .int .i64 c1, .int .i64 c2, .int .i64 c3, .int .i8 2, .int .i8 0, .int .i8 0, .string t, .int .i8 md, .int .i32 0, .int .i32 0, .int .u8 0, .int .u8 0, .slice none 0 0, .int .i64 0, .int .i64 0, .int .i64 0, .int .i64 0, .int .u8 0]
theorem nodeP_made (w : World) (t : ByteArray) (md c0 c1 c2 c3 : Int) : NodeAt (w.alloc (.cells (nodeP t md c0 c1 c2 c3) 46)) w.heap.size 0 1 (.slice none 0 0) 0 c0 c1 c2 c3 2 md t := by
  have hc : ∀ q, (w.alloc (.cells (nodeP t md c0 c1 c2 c3) 46)).cell? ⟨w.heap.size, q, none⟩ = (nodeP t md c0 c1 c2 c3)[q]? := fun q => cell_newB _ _ _ _ _ rfl
  constructor <;> (rw [hc]; rfl)
end Go.Proofs.YthhomflonpjbmaaGreatDoor
/-
  The walk of the law MeasureText where the text is measured: the law's own.
-/
namespace Go.Proofs.YthhomflonpjbmaaGreatDoor
open Go.RowKit Go.Maps
set_option maxRecDepth 100000 in
set_option maxHeartbeats 8000000 in
theorem law_ok (t : ByteArray) (md x more a0 a1 a2 a3 a H L M : Int) (N : Num t md x more a H L M) (w : World) :
    Calls Tryz.prog 4 #[.string t, .int .i8 md, .int .i64 x, .int .i64 more, .agg #[.int .i64 a0, .int .i64 a1, .int .i64 a2, .int .i64 a3]] w (VBel (.bool true) w) := by
  have hb0 : Below w.heap.size w (((w.alloc (.cells #[.int .i64 a0, .int .i64 a1, .int .i64 a2, .int .i64 a3] 37)).alloc (.cells (nodeV t md) 46)).alloc (.cells (nodeV t md) 46)) := by (repeat (first | exact Below.refl _ _ | assumption | refine below_drewN ?_ _ | refine Below.drew ?_ | (refine Below.alloc ?_ ?bs _; (case bs => first | omega | (simp; done) | (simp; omega))) | (refine Below.setCell ?_ ?bs _; (case bs => first | omega | (simp; done) | (simp; omega)))))
  have HB0 := Lib.hid hb0
  have HXN := Lib.hid (node_made (w.alloc (.cells #[.int .i64 a0, .int .i64 a1, .int .i64 a2, .int .i64 a3] 37)) t md (w.heap.size + 1) (by simp))
  have HNN := Lib.hid (new_td (((w.alloc (.cells #[.int .i64 a0, .int .i64 a1, .int .i64 a2, .int .i64 a3] 37)).alloc (.cells (nodeV t md) 46)).alloc (.cells (nodeV t md) 46)) (w.heap.size + 1 + 1) 0 1 (d0 md t) N.d (node_made _ t md _ (by simp)) (by simp))
  have HN := Lib.hid N
  have ha := N.ha
  clear N hb0
  go_enter Tryz.func4, Tryz.ntmps4
  go_upto_region 1 with (fail)
  refine wp_region_lit ?_
  iterate 4 (refine wpList_plain rfl fun K1 hK1 => ?_; unfold Oper.wp execOp; go_simp; refine hK1 _ _ ?_; clear hK1)
  refine wpList_store_node (c' := nodeV t md) (b := w.heap.size + 1) rfl (by simp) rfl rfl rfl (all_oneCell_toArray (nodeL_one (kd := 1) (kids := .slice none 0 0) (gap := 0) (p0 := 0) (p1 := 0) (p2 := 0) (p3 := 0) (bd := 0) (md := md) (t := t) rfl)) (fun K hK => hK _ _ ?_)
  go_upto_region 2 with (fail)
  refine wp_region_lit ?_
  refine wpList_load_node (b := w.heap.size + 1) (cs := nodeL 1 (.slice none 0 0) 0 0 0 0 0 0 md t) (v := nodeV t md) rfl rfl rfl HXN.out.cells (fun K hK => hK _ _ ?_)
  dsimp only [nodeV]
  go_upto_region 3 with (go_at_call 8; ((with_reducible refine HNN.out.mono ?_); rintro e1' w3 ⟨q, rfl, hT3, hb3, hp3, hg3, hk3, hm3⟩))
  have H3 : Hid (LawSt w w.heap.size (w.heap.size + 1) md t a0 a1 a2 a3 (w.heap.size + 3) q 0 w3) := Lib.hid (by
    have e : ∀ i, w3.cell? ⟨w.heap.size, i, none⟩ = (#[.int .i64 a0, .int .i64 a1, .int .i64 a2, .int .i64 a3] : Array Value)[i]? := fun i => (hb3.cell (p := ⟨w.heap.size, i, none⟩) (by simp <;> omega)).trans ((World.cell?_alloc_lt _ _ ⟨w.heap.size, i, none⟩ (by simp <;> omega)).trans ((World.cell?_alloc_lt _ _ ⟨w.heap.size, i, none⟩ (by simp)).trans (cell_newB _ _ _ _ _ rfl)))
    refine ⟨e 0, e 1, e 2, e 3, (HXN.out.below (Below.alloc (Below.refl _ _) (Nat.le_refl _) _) (by simp)).below hb3 (by simp <;> omega), fun i => ?_, fun i => ?_, hT3, HB0.out.trans (hb3.mono HB0.out.size), Nat.le_refl _, by omega, by omega, by omega, ?_, ?_, ?_, ?_, ?_⟩
    · exact (hb3.frozen (p := ⟨w.heap.size, i, none⟩) (by simp <;> omega)).trans ((frozen_old _ _ _ _ (by simp <;> omega)).trans ((frozen_old _ _ _ _ (by simp)).trans (frozen_newB _ _ _ _ _ rfl)))
    · exact (hb3.frozen (p := ⟨w.heap.size + 1, i, none⟩) (by simp <;> omega)).trans ((frozen_old _ _ _ _ (by simp)).trans (frozen_newB _ _ _ _ _ (by simp)))
    · have := hb3.size; simp at this; omega
    · simp at hp3; omega
    · simp at hg3; omega
    · simp at hk3; omega
    · simp at hm3; omega)
  clear hT3 hb3 hp3 hg3 hk3 hm3 HNN HB0 HXN
  go_upto_if 75 with (first | (go_at_call 13; ((with_reducible refine (HN.out.count _).mono ?_); rintro e1' w4 ⟨rfl, hb4⟩; have H4 := Lib.hid (H3.out.bel hb4); clear hb4)) | (go_at_call 10; ((with_reducible refine (HN.out.tall q 0 (by omega) _ H4.out.T).mono ?_); rintro e1' w5 ⟨rfl, hg5, hT5⟩; have H5 := Lib.hid (H4.out.post hg5 hT5); clear hg5 hT5)) | (go_at_call 11; ((with_reducible refine (HN.out.least q (0 + 1) (by omega) _ H5.out.T).mono ?_); rintro e1' w6 ⟨rfl, hg6, hT6⟩; have H6 := Lib.hid (H5.out.post hg6 hT6); clear hg6 hT6)) | (go_at_call 14; ((with_reducible refine (HN.out.wleast _).mono ?_); rintro e1' w7 ⟨rfl, hb7⟩; have H7 := Lib.hid (H6.out.bel hb7); clear hb7)) | (go_at_call 12; ((with_reducible refine (HN.out.most q (0 + 1 + 1) (by omega) _ H7.out.T).mono ?_); rintro e1' w8 ⟨rfl, hg8, hT8⟩; have H8 := Lib.hid (H7.out.post hg8 hT8); clear hg8 hT8)) | (go_at_call 15; ((with_reducible refine (HN.out.wmost _).mono ?_); rintro e1' w9 ⟨rfl, hb9⟩; have H9 := Lib.hid (H8.out.bel hb9); clear hb9)) | (go_at_call 9; ((with_reducible refine (alive_any _).mono ?_); rintro e1' w10 ⟨rfl, hb10⟩; have H10 := Lib.hid (H9.out.bel hb10); clear hb10)))
  have hab : 0 ≤ a ∧ a ≤ 4096 := by omega
  go_cut [16] (fun s16 w' => (∃ b : Int, s16 = .int .i64 b ∧ a ≤ b ∧ b ≤ 5000) ∧ w' = w10)
  case first =>
    by_cases hmore : 0 < more
    · have hr : 0 ≤ more.tmod 100 ∧ more.tmod 100 < 100 := ⟨Int.tmod_nonneg _ (by omega), Int.tmod_lt_of_pos _ (by omega)⟩
      obtain ⟨r, hrr⟩ : ∃ r, more.tmod 100 = r := ⟨_, rfl⟩
      rw [hrr] at hr
      have hw : IntKind.i64.wrap (a + r) = a + r := by rw [IntKind.wrap_i64]; omega
      have hw2 : IntKind.i64.wrap r = r := by rw [IntKind.wrap_i64]; omega
      go_wp2_with fail
      go_meet
      exact ⟨⟨a + r, rfl, by omega, by omega⟩, rfl⟩
    · go_wp2_with fail
      go_meet
      exact ⟨⟨a, rfl, by omega, by omega⟩, rfl⟩
  case rest =>
  obtain ⟨⟨b, rfl, hb1, hb2⟩, rfl⟩ := hcut
  go_upto_region 12 with (fail)
  go_cut [92] (fun s w' => s = .bool false ∧ ∃ K, K ≤ 20 ∧ LawSt w w.heap.size (w.heap.size + 1) md t a0 a1 a2 a3 (w.heap.size + 3) q K w')
  case first =>
    by_cases h1 : 1 ≤ a
    · by_cases h2 : md = 2
      · have HQ := Lib.hid H10.out
        subst h2
        go_wp2_with fail
        go_meet
        exact ⟨rfl, _, by omega, HQ.out⟩
      · obtain ⟨v, hv, hc⟩ := HN.out.tallB h1 h2 b ⟨hb1, hb2⟩
        have HC := Lib.hid hc
        clear hc
        go_wp2_with (go_at_call 10; ((with_reducible refine (HC.out q (0 + 1 + 1 + 1) (by omega) _ H10.out.T).mono ?_); rintro e1' w11 ⟨rfl, hg11, hT11⟩; have H11 := Lib.hid (H10.out.post hg11 hT11); clear hg11 hT11))
        go_meet
        exact ⟨rfl, _, by omega, H11.out⟩
    · go_wp2_with fail
      go_meet
      exact ⟨rfl, _, by omega, H10.out⟩
  case rest =>
  obtain ⟨rfl, K, hK, hS⟩ := hcut
  have hP : PadSt w md t q 0 wc := ⟨_, _, _, _, K, hK, hS, fun h => by omega, fun h => by omega, fun h => by omega, fun h => by omega⟩
  have HP := Lib.hid hP
  clear hP hS hK H3 H10
  go_wp2
  go_loopw [17] (fun i wr => (i = .int .i64 0 ∧ PadSt w md t q 0 wr) ∨ (i = .int .i64 1 ∧ PadSt w md t q 1 wr) ∨ (i = .int .i64 2 ∧ PadSt w md t q 2 wr) ∨ (i = .int .i64 3 ∧ PadSt w md t q 3 wr) ∨ (i = .int .i64 4 ∧ PadSt w md t q 4 wr)) (fun i _ => 4 - (intOf i).toNat)
  case atStart => exact .inl ⟨rfl, HP.out⟩
  case round =>
    clear HP
    rcases hrel with ⟨rfl, hC⟩ | ⟨rfl, hC⟩ | ⟨rfl, hC⟩ | ⟨rfl, hC⟩ | ⟨rfl, hC⟩
    · skip
      obtain ⟨c0, c1, c2, c3, K, hK, hS, g0, g1, g2, g3⟩ := hC
      have kk := hS.k0
      have ff := hS.f9
      have ll : w.heap.size < wr.heap.size := by have := hS.ll; omega
      have HS := Lib.hid hS
      have HG0 := Lib.hid g0
      have HG1 := Lib.hid g1
      have HG2 := Lib.hid g2
      have HG3 := Lib.hid g3
      clear hS g0 g1 g2 g3
      have hrb := tmod50 c0
      obtain ⟨r, hr⟩ : ∃ r, c0.tmod 50 = r := ⟨_, rfl⟩
      rw [hr] at hrb
      have hw1 : IntKind.i64.wrap (-r) = -r := by rw [IntKind.wrap_i64]; omega
      have hw2 : IntKind.i64.wrap r = r := by rw [IntKind.wrap_i64]; omega
      by_cases hneg : r < 0
      · go_wp2
        go_roundw
        case rel => exact .inr <| .inl ⟨rfl, _, _, _, _, K, hK, HS.out.set0 (-r), fun h => by first | omega | exact HG0.out (by omega), fun h => by first | omega | exact HG1.out (by omega), fun h => by first | omega | exact HG2.out (by omega), fun h => by first | omega | exact HG3.out (by omega)⟩
        case measure => simp [intOf]
      · go_wp2
        go_roundw
        case rel => exact .inr <| .inl ⟨rfl, _, _, _, _, K, hK, HS.out.set0 r, fun h => by first | omega | exact HG0.out (by omega), fun h => by first | omega | exact HG1.out (by omega), fun h => by first | omega | exact HG2.out (by omega), fun h => by first | omega | exact HG3.out (by omega)⟩
        case measure => simp [intOf]
    · skip
      obtain ⟨c0, c1, c2, c3, K, hK, hS, g0, g1, g2, g3⟩ := hC
      have kk := hS.k1
      have ff := hS.f9
      have ll : w.heap.size < wr.heap.size := by have := hS.ll; omega
      have HS := Lib.hid hS
      have HG0 := Lib.hid g0
      have HG1 := Lib.hid g1
      have HG2 := Lib.hid g2
      have HG3 := Lib.hid g3
      clear hS g0 g1 g2 g3
      have hrb := tmod50 c1
      obtain ⟨r, hr⟩ : ∃ r, c1.tmod 50 = r := ⟨_, rfl⟩
      rw [hr] at hrb
      have hw1 : IntKind.i64.wrap (-r) = -r := by rw [IntKind.wrap_i64]; omega
      have hw2 : IntKind.i64.wrap r = r := by rw [IntKind.wrap_i64]; omega
      by_cases hneg : r < 0
      · go_wp2
        go_roundw
        case rel => exact .inr <| .inr <| .inl ⟨rfl, _, _, _, _, K, hK, HS.out.set1 (-r), fun h => by first | omega | exact HG0.out (by omega), fun h => by first | omega | exact HG1.out (by omega), fun h => by first | omega | exact HG2.out (by omega), fun h => by first | omega | exact HG3.out (by omega)⟩
        case measure => simp [intOf]
      · go_wp2
        go_roundw
        case rel => exact .inr <| .inr <| .inl ⟨rfl, _, _, _, _, K, hK, HS.out.set1 r, fun h => by first | omega | exact HG0.out (by omega), fun h => by first | omega | exact HG1.out (by omega), fun h => by first | omega | exact HG2.out (by omega), fun h => by first | omega | exact HG3.out (by omega)⟩
        case measure => simp [intOf]
    · skip
      obtain ⟨c0, c1, c2, c3, K, hK, hS, g0, g1, g2, g3⟩ := hC
      have kk := hS.k2
      have ff := hS.f9
      have ll : w.heap.size < wr.heap.size := by have := hS.ll; omega
      have HS := Lib.hid hS
      have HG0 := Lib.hid g0
      have HG1 := Lib.hid g1
      have HG2 := Lib.hid g2
      have HG3 := Lib.hid g3
      clear hS g0 g1 g2 g3
      have hrb := tmod50 c2
      obtain ⟨r, hr⟩ : ∃ r, c2.tmod 50 = r := ⟨_, rfl⟩
      rw [hr] at hrb
      have hw1 : IntKind.i64.wrap (-r) = -r := by rw [IntKind.wrap_i64]; omega
      have hw2 : IntKind.i64.wrap r = r := by rw [IntKind.wrap_i64]; omega
      by_cases hneg : r < 0
      · go_wp2
        go_roundw
        case rel => exact .inr <| .inr <| .inr <| .inl ⟨rfl, _, _, _, _, K, hK, HS.out.set2 (-r), fun h => by first | omega | exact HG0.out (by omega), fun h => by first | omega | exact HG1.out (by omega), fun h => by first | omega | exact HG2.out (by omega), fun h => by first | omega | exact HG3.out (by omega)⟩
        case measure => simp [intOf]
      · go_wp2
        go_roundw
        case rel => exact .inr <| .inr <| .inr <| .inl ⟨rfl, _, _, _, _, K, hK, HS.out.set2 r, fun h => by first | omega | exact HG0.out (by omega), fun h => by first | omega | exact HG1.out (by omega), fun h => by first | omega | exact HG2.out (by omega), fun h => by first | omega | exact HG3.out (by omega)⟩
        case measure => simp [intOf]
    · skip
      obtain ⟨c0, c1, c2, c3, K, hK, hS, g0, g1, g2, g3⟩ := hC
      have kk := hS.k3
      have ff := hS.f9
      have ll : w.heap.size < wr.heap.size := by have := hS.ll; omega
      have HS := Lib.hid hS
      have HG0 := Lib.hid g0
      have HG1 := Lib.hid g1
      have HG2 := Lib.hid g2
      have HG3 := Lib.hid g3
      clear hS g0 g1 g2 g3
      have hrb := tmod50 c3
      obtain ⟨r, hr⟩ : ∃ r, c3.tmod 50 = r := ⟨_, rfl⟩
      rw [hr] at hrb
      have hw1 : IntKind.i64.wrap (-r) = -r := by rw [IntKind.wrap_i64]; omega
      have hw2 : IntKind.i64.wrap r = r := by rw [IntKind.wrap_i64]; omega
      by_cases hneg : r < 0
      · go_wp2
        go_roundw
        case rel => exact .inr <| .inr <| .inr <| .inr ⟨rfl, _, _, _, _, K, hK, HS.out.set3 (-r), fun h => by first | omega | exact HG0.out (by omega), fun h => by first | omega | exact HG1.out (by omega), fun h => by first | omega | exact HG2.out (by omega), fun h => by first | omega | exact HG3.out (by omega)⟩
        case measure => simp [intOf]
      · go_wp2
        go_roundw
        case rel => exact .inr <| .inr <| .inr <| .inr ⟨rfl, _, _, _, _, K, hK, HS.out.set3 r, fun h => by first | omega | exact HG0.out (by omega), fun h => by first | omega | exact HG1.out (by omega), fun h => by first | omega | exact HG2.out (by omega), fun h => by first | omega | exact HG3.out (by omega)⟩
        case measure => simp [intOf]
    · obtain ⟨c0, c1, c2, c3, K, hK, hS, g0, g1, g2, g3⟩ := hC
      have g0 := g0 (by omega)
      have g1 := g1 (by omega)
      have g2 := g2 (by omega)
      have g3 := g3 (by omega)
      have ok1 := HN.out.okP g0 g1 g2 g3
      have k0 := hS.k0
      have k1 := hS.k1
      have k2 := hS.k2
      have k3 := hS.k3
      have p0 : wr.cell? ⟨w.heap.size + 1, 15, none⟩ = some (.int .i64 0) := hS.n.p0
      have p1 : wr.cell? ⟨w.heap.size + 1, 16, none⟩ = some (.int .i64 0) := hS.n.p1
      have p2 : wr.cell? ⟨w.heap.size + 1, 17, none⟩ = some (.int .i64 0) := hS.n.p2
      have p3 : wr.cell? ⟨w.heap.size + 1, 18, none⟩ = some (.int .i64 0) := hS.n.p3
      have p4 : wr.cell? ⟨w.heap.size + 1, 19, none⟩ = some (.int .i8 0) := hS.n.bd
      have f11 := hS.f11
      have ll : w.heap.size + 3 ≤ wr.heap.size := hS.ll
      have l1 : w.heap.size < wr.heap.size := by omega
      have l2 : w.heap.size + 1 < wr.heap.size := by omega
      have HS := Lib.hid hS
      clear hS
      go_upto_region 23 with (fail)
      generalize hW : World.setCell (World.setCell (World.setCell (World.setCell (World.setCell wr _ _) _ _) _ _) _ _) _ _ = w30
      have HW := Lib.hid hW
      clear hW
      have sb : SameBut (w.heap.size + 1) [15, 16, 17, 18, 19] wr w30 := by rw [← HW.out]; exact (((((SameBut.refl _ _ _).set rfl _).set rfl _).set rfl _).set rfl _).set rfl _
      have e15 : w30.cell? ⟨w.heap.size + 1, 15, none⟩ = some (.int .i64 c0) := by rw [← HW.out]; exact (setCell_far _ _ (by decide)).trans ((setCell_far _ _ (by decide)).trans ((setCell_far _ _ (by decide)).trans ((setCell_far _ _ (by decide)).trans (setCell_here _ _ p0))))
      have e16 : w30.cell? ⟨w.heap.size + 1, 16, none⟩ = some (.int .i64 c1) := by rw [← HW.out]; exact (setCell_far _ _ (by decide)).trans ((setCell_far _ _ (by decide)).trans ((setCell_far _ _ (by decide)).trans (setCell_here _ _ ((setCell_far _ _ (by decide)).trans p1))))
      have e17 : w30.cell? ⟨w.heap.size + 1, 17, none⟩ = some (.int .i64 c2) := by rw [← HW.out]; exact (setCell_far _ _ (by decide)).trans ((setCell_far _ _ (by decide)).trans (setCell_here _ _ ((setCell_far _ _ (by decide)).trans ((setCell_far _ _ (by decide)).trans p2))))
      have e18 : w30.cell? ⟨w.heap.size + 1, 18, none⟩ = some (.int .i64 c3) := by rw [← HW.out]; exact (setCell_far _ _ (by decide)).trans (setCell_here _ _ ((setCell_far _ _ (by decide)).trans ((setCell_far _ _ (by decide)).trans ((setCell_far _ _ (by decide)).trans p3))))
      have e19 : w30.cell? ⟨w.heap.size + 1, 19, none⟩ = some (.int .i8 2) := by rw [← HW.out]; exact setCell_here _ _ ((setCell_far _ _ (by decide)).trans ((setCell_far _ _ (by decide)).trans ((setCell_far _ _ (by decide)).trans ((setCell_far _ _ (by decide)).trans p4))))
      have X30 : NodeAt w30 (w.heap.size + 1) 0 1 (.slice none 0 0) 0 c0 c1 c2 c3 2 md t := ⟨(sb 0 rfl).trans HS.out.n.kd, (sb 1 rfl).trans HS.out.n.id, (sb 2 rfl).trans HS.out.n.cl, (sb 3 rfl).trans HS.out.n.kids, (sb 4 rfl).trans HS.out.n.w0, (sb 5 rfl).trans HS.out.n.w1, (sb 6 rfl).trans HS.out.n.w2, (sb 7 rfl).trans HS.out.n.w3, (sb 8 rfl).trans HS.out.n.w4, (sb 9 rfl).trans HS.out.n.h0, (sb 10 rfl).trans HS.out.n.h1, (sb 11 rfl).trans HS.out.n.h2, (sb 12 rfl).trans HS.out.n.h3, (sb 13 rfl).trans HS.out.n.h4, (sb 14 rfl).trans HS.out.n.gap, e15, e16, e17, e18, e19, (sb 20 rfl).trans HS.out.n.al, (sb 21 rfl).trans HS.out.n.cr, (sb 22 rfl).trans HS.out.n.tx, (sb 23 rfl).trans HS.out.n.md, (sb 24 rfl).trans HS.out.n.fg, (sb 25 rfl).trans HS.out.n.bg, (sb 26 rfl).trans HS.out.n.ad, (sb 27 rfl).trans HS.out.n.dr, (sb 28 rfl).trans HS.out.n.cols, (sb 29 rfl).trans HS.out.n.x0, (sb 30 rfl).trans HS.out.n.x1, (sb 31 rfl).trans HS.out.n.x2, (sb 32 rfl).trans HS.out.n.x3, (sb 33 rfl).trans HS.out.n.fl⟩
      have hne : w.heap.size + 1 ≠ w.heap.size := by omega
      have kk : ∀ i, w30.cell? ⟨w.heap.size, i, none⟩ = wr.cell? ⟨w.heap.size, i, none⟩ := fun i => by rw [← HW.out, setCell_off _ _ hne, setCell_off _ _ hne, setCell_off _ _ hne, setCell_off _ _ hne, setCell_off _ _ hne]
      have T30 : TInv q (d0 md t) K w30 := by
        have h1 := HS.out.lp; have h2 := HS.out.lg; have h3 := HS.out.lk; have h4 := HS.out.lm; have hl := HS.out.lt
        rw [← HW.out]
        exact ((((HS.out.T.set _ hl h1 h2 h3 h4).set _ hl h1 h2 h3 h4).set _ hl h1 h2 h3 h4).set _ hl h1 h2 h3 h4).set _ hl h1 h2 h3 h4
      have B30 : Below w.heap.size w w30 := by
        rw [← HW.out]
        exact ((((HS.out.hB.setCell HS.out.w11 _).setCell HS.out.w11 _).setCell HS.out.w11 _).setCell HS.out.w11 _).setCell HS.out.w11 _
      have ll30 : w.heap.size + 3 ≤ w30.heap.size := by rw [← HW.out]; simpa [World.setCell] using ll
      have HX := Lib.hid X30
      have HK0 := Lib.hid ((kk 0).trans k0)
      have HK1 := Lib.hid ((kk 1).trans k1)
      have HK2 := Lib.hid ((kk 2).trans k2)
      have HK3 := Lib.hid ((kk 3).trans k3)
      have HT30 := Lib.hid T30
      have HB30 := Lib.hid B30
      have HN2 := Lib.hid (new_td (w30.alloc (.cells (nodeP t md c0 c1 c2 c3) 46)) w30.heap.size 0 1 (d1 md t c0 c1 c2 c3) ok1 (nodeP_made w30 t md c0 c1 c2 c3) (by simp))
      have HOK := Lib.hid ok1
      clear X30 k0 k1 k2 k3 p0 p1 p2 p3 p4 e15 e16 e17 e18 e19 sb kk T30 B30 f11 HW ll l1 l2 ok1
      refine wp_region_lit ?_
      refine wpList_load_node (b := w.heap.size + 1) (cs := nodeL 1 (.slice none 0 0) 0 c0 c1 c2 c3 2 md t) (v := nodeP t md c0 c1 c2 c3) rfl rfl rfl HX.out.cells (fun Kq hKq => hKq _ _ ?_)
      dsimp only [nodeP]
      go_upto_region 24 with (go_at_call 8; ((with_reducible refine HN2.out.mono ?_); rintro e1' w31 ⟨q1, rfl, hT31, hb31, hp31, hg31, hk31, hm31⟩))
      have H31 : Hid (LawS2 w w.heap.size md t c0 c1 c2 c3 (w.heap.size + 3) w30.heap.size q q1 K 0 w31) := Lib.hid (by
        have hbb : Below w30.heap.size w30 w31 := Below.trans (Below.alloc (Below.refl _ _) (Nat.le_refl _) _) (hb31.mono (by simp))
        have c : ∀ i u, w30.cell? ⟨w.heap.size, i, none⟩ = some u → w31.cell? ⟨w.heap.size, i, none⟩ = some u := fun i u hu => (hbb.cell (p := ⟨w.heap.size, i, none⟩) (show w.heap.size < w30.heap.size by omega)).trans hu
        simp at hp31 hg31 hk31 hm31
        exact ⟨c _ _ HK0.out, c _ _ HK1.out, c _ _ HK2.out, c _ _ HK3.out, HT30.out.below hbb, hT31, HB30.out.trans (hbb.mono (by omega)), Nat.le_refl _, by omega, HS.out.lp, HS.out.lg, HS.out.lk, HS.out.lm, HT30.out.m.lp, HT30.out.m.lg, HT30.out.m.lk, HT30.out.m.lm, by omega, by omega, by omega, by omega⟩)
      clear hT31 hb31 hp31 hg31 hk31 hm31 HN2 HK0 HK1 HK2 HK3 HT30 HB30 HX HS
      have k0 := H31.out.k0
      have k1 := H31.out.k1
      have k2 := H31.out.k2
      have k3 := H31.out.k3
      have hLb : 0 ≤ L ∧ L ≤ 1000000 := by have h1 := HN.out.hL; have h2 := leastS_le md t HN.out.hs; omega
      have hMb : 0 ≤ M ∧ M ≤ 1000000 := by have h1 := HN.out.hM; have h2 := leastS_le 2 t HN.out.hs; omega
      have hHb : 0 ≤ H ∧ H ≤ 1000000 := by have h1 := HN.out.hH; have h2 := tallS_le md a.toNat t HN.out.hs; omega
      obtain ⟨fx, hfx⟩ : ∃ fx, c1 + c3 + 2 = fx := ⟨_, rfl⟩
      obtain ⟨fy, hfy⟩ : ∃ fy, c0 + c2 + 2 = fy := ⟨_, rfl⟩
      have hw1 : IntKind.i64.wrap (c1 + c3) = c1 + c3 := by rw [IntKind.wrap_i64]; omega
      have hw2 : IntKind.i64.wrap fx = fx := by rw [IntKind.wrap_i64]; omega
      have hw3 : IntKind.i64.wrap (c0 + c2) = c0 + c2 := by rw [IntKind.wrap_i64]; omega
      have hw4 : IntKind.i64.wrap fy = fy := by rw [IntKind.wrap_i64]; omega
      have hw5 : IntKind.i64.wrap (min 4096 L + fx) = min 4096 L + fx := by rw [IntKind.wrap_i64]; omega
      have hw6 : IntKind.i64.wrap (min 4096 M + fx) = min 4096 M + fx := by rw [IntKind.wrap_i64]; omega
      have hw7 : IntKind.i64.wrap (min H 4096 + fy) = min H 4096 + fy := by rw [IntKind.wrap_i64]; omega
      have hw8 : IntKind.i64.wrap (a + fx) = a + fx := by rw [IntKind.wrap_i64]; omega
      have HFL := Lib.hid (HN.out.fleast HOK.out hfx q1 0 (by omega) _ H31.out.T1)
      clear g0 g1 g2 g3 hLb hMb hHb
      by_cases hq : 4096 < a + fx
      · go_wp2_with (first | (go_at_call 11; ((with_reducible refine HFL.out.mono ?_); rintro e1' w32 ⟨rfl, hg32, hT32⟩; have H32 := Lib.hid (H31.out.turnF hg32 hT32); clear hg32 hT32)) | (go_at_call 11; ((with_reducible refine (HN.out.least q K (by omega) _ H32.out.T).mono ?_); rintro e1' w33 ⟨rfl, hg33, hT33⟩; have H33 := Lib.hid (H32.out.turnM hg33 hT33); clear hg33 hT33)) | (go_at_call 12; ((with_reducible refine (HN.out.fmost HOK.out hfx q1 (0 + 1) (by omega) _ H33.out.T1).mono ?_); rintro e1' w34 ⟨rfl, hg34, hT34⟩; have H34 := Lib.hid (H33.out.turnF hg34 hT34); clear hg34 hT34)) | (go_at_call 12; ((with_reducible refine (HN.out.most q (K + 1) (by omega) _ H34.out.T).mono ?_); rintro e1' w35 ⟨rfl, hg35, hT35⟩; have H35 := Lib.hid (H34.out.turnM hg35 hT35); clear hg35 hT35)))
        go_ret
        exact ⟨rfl, H35.out.hB⟩
      · have HTA := Lib.hid fun w' T => HN.out.ftall HOK.out hfx hfy hq q1 (0 + 1 + 1) (by omega) w' T
        go_wp2_with (first | (go_at_call 11; ((with_reducible refine HFL.out.mono ?_); rintro e1' w32 ⟨rfl, hg32, hT32⟩; have H32 := Lib.hid (H31.out.turnF hg32 hT32); clear hg32 hT32)) | (go_at_call 11; ((with_reducible refine (HN.out.least q K (by omega) _ H32.out.T).mono ?_); rintro e1' w33 ⟨rfl, hg33, hT33⟩; have H33 := Lib.hid (H32.out.turnM hg33 hT33); clear hg33 hT33)) | (go_at_call 12; ((with_reducible refine (HN.out.fmost HOK.out hfx q1 (0 + 1) (by omega) _ H33.out.T1).mono ?_); rintro e1' w34 ⟨rfl, hg34, hT34⟩; have H34 := Lib.hid (H33.out.turnF hg34 hT34); clear hg34 hT34)) | (go_at_call 12; ((with_reducible refine (HN.out.most q (K + 1) (by omega) _ H34.out.T).mono ?_); rintro e1' w35 ⟨rfl, hg35, hT35⟩; have H35 := Lib.hid (H34.out.turnM hg35 hT35); clear hg35 hT35)) | (go_at_call 10; ((with_reducible refine (HTA.out _ H35.out.T1).mono ?_); rintro e1' w36 ⟨rfl, hg36, hT36⟩; have H36 := Lib.hid (H35.out.turnF hg36 hT36); clear hg36 hT36)))
        go_ret
        exact ⟨rfl, H36.out.hB⟩
end Go.Proofs.YthhomflonpjbmaaGreatDoor
