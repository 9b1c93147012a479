/-
  The walk of measure.New at a tree of one node.
-/
import Derived.Test.YthhomflonpjbmaaGreatDoorQt21
import Derived.Test.YthhomflonpjbmaaGreatDoorQt23
import Derived.Test.YthhomflonpjbmaaGreatDoorQt20
namespace Go.Proofs.YthhomflonpjbmaaGreatDoor
open Go.RowKit Go.Maps
/-- THE WALK's STEP over 'append(nodes, x..)' of m nodes on an empty slice of the call's own. -/
theorem wpList_append_nodes {ops : Array Oper} {rest : List Oper} {a : Act} {Q : Exit → Act → World → Prop} {W : World} {dst : Option Tmp} {ty : TypeId} {s x : Operand} {pos : String} {after : Array Edge} {v : Value} {news : List Value} {B g o m c : Nat}
    (hs : a.eval s = v) (hx : a.eval x = .slice (some ⟨g, o, none⟩) m c) (hl : news.length = m * 34) (hnews : ∀ j u, news[j]? = some u → W.cell? ⟨g, o + j, none⟩ = some u) (h1 : ∀ u ∈ news, u.oneCell' = true)
    (hrow : W.ownsRow B 46 34 v 0 []) (hB : B ≤ W.heap.size) (hm : 0 < m) (hm2 : m ≤ 1000000)
    (h : ∀ v' w', w'.ownsRow B 46 34 v' m news → W.grownBy w' v.ownBlock → (v'.ownBlock = v.ownBlock ∨ v'.ownBlock = some W.heap.size) → ∀ K : Act → World → Prop, (∀ a w, wpList Tryz.prog ops Q rest a w → K a w) → K (a.put dst v') w') :
    wpList Tryz.prog ops Q ({ dst := dst, op := .call { callee := .builtin .append, args := #[s, x], argTypes := #[22, 22] }, type := ty, pos := pos, after := after, guard := none } :: rest) a W := by
  obtain ⟨i0, hi, hz0, hz1, hz2⟩ := info_parts zeroNode
  refine wpList_append_place (w := W) rfl s x 22 rfl B 46 i0 _ 34 288 Tryz.underlying22 hi hz0 hz1 hz2 rfl (by decide) v 0 [] hs hrow
    ⟨g, o, none⟩ m c news hx hl ?_ h1 ?_ ?_ hB hm ?_
  · intro j u hj
    rw [show (⟨g, o, none⟩ : Addr).add j = ⟨g, o + j, none⟩ by simp [Addr.add]]
    exact hnews j u hj
  · simp [maxLen]; omega
  · omega
  · intro v' w' hown hgr hp
    exact h v' w' (by simpa using hown) hgr hp _ (fun _ _ h => h)
theorem setCell_far {g q p : Nat} (w : World) (v : Value) (h : p ≠ q) : (w.setCell ⟨g, p, none⟩ v).cell? ⟨g, q, none⟩ = w.cell? ⟨g, q, none⟩ := by
  apply World.cell?_setCell_other
  intro e
  injection e with e1 e2
  exact h e2
theorem setCell_here {a : Addr} (w : World) (v : Value) {u : Value} (h : w.cell? a = some u) : (w.setCell a v).cell? a = some v := by
  apply World.cell?_setCell_same
  exact h
/-- A measure that is new: where it lies, and that nothing else has turned. -/
def NewAt (w : World) (pm g bk bm nn cc : Nat) (W : World) : Prop := Below w.heap.size w W ∧ w.heap.size ≤ pm ∧ w.heap.size ≤ g ∧ w.heap.size ≤ bk ∧ w.heap.size ≤ bm ∧ ∀ f, MInv W pm g bk bm nn cc 0 f
set_option maxRecDepth 100000 in
set_option maxHeartbeats 4000000 in
theorem new_one (w : World) (g o c : Nat) (gap p0 p1 p2 p3 bd md : Int) (t : ByteArray) (h : NodeAt w g o 1 (.slice none 0 0) gap p0 p1 p2 p3 bd md t) (hg : g < w.heap.size)
    (hp0 : 0 ≤ p0 ∧ p0 ≤ 4096) (hp1 : 0 ≤ p1 ∧ p1 ≤ 4096) (hp2 : 0 ≤ p2 ∧ p2 ≤ 4096) (hp3 : 0 ≤ p3 ∧ p3 ≤ 4096) (hgp : 0 ≤ gap ∧ gap ≤ 4096) (hbd : 0 ≤ bd ∧ bd ≤ 4) (hmd : 0 ≤ md ∧ md ≤ 2) (ht : (t.size : Int) ≤ 65536) :
    Calls Tryz.prog 8 #[.agg #[.slice (some ⟨g, o, none⟩) 1 c]] w (fun e W => ∃ pm g' bk bm cc kids, e = .returned (.tuple #[.pointer (some ⟨pm, 0, none⟩), .int .i64 0]) ∧ NewAt w pm g' bk bm 1 cc W ∧ NodeIn W g' 0 1 kids gap p0 p1 p2 p3 bd md t) := by
  have HCK := Lib.hid fun W (hb : Below w.heap.size w W) => check_one W g o c gap p0 p1 p2 p3 bd md t (h.below hb hg) (Nat.lt_of_lt_of_le hg hb.size) hp0 hp1 hp2 hp3 hgp hbd hmd ht
  have HN := Lib.hid h
  clear h hp0 hp1 hp2 hp3 hgp hbd hmd ht
  go_enter Tryz.func8, Tryz.ntmps8
  go_upto_region 4 with (go_at_call 19; ((with_reducible refine (HCK.out _ (by (repeat (first | exact Below.refl _ _ | assumption | refine below_drewN ?_ _ | refine Below.drew ?_ | (refine Below.alloc ?_ ?bs _; (case bs => first | omega | (simp; done) | (simp; omega))) | (refine Below.setCell ?_ ?bs _; (case bs => first | omega | (simp; done) | (simp; omega))))))).mono ?_); rintro e1' w2 ⟨rfl, hb2⟩; have hz2 := hb2.size; have hbx : w2.cell? ⟨w.heap.size, 0, none⟩ = some (.slice (some ⟨g, o, none⟩) 1 c) := (hb2.cell (p := ⟨w.heap.size, 0, none⟩) (by simp)).trans (cell_newB _ _ _ _ _ rfl); have hlw : w.heap.size < w2.heap.size := (by simp at hz2; omega); clear hz2; have hB2 : Below w.heap.size w w2 := Below.trans (by (repeat (first | exact Below.refl _ _ | assumption | refine below_drewN ?_ _ | refine Below.drew ?_ | (refine Below.alloc ?_ ?bs _; (case bs => first | omega | (simp; done) | (simp; omega))) | (refine Below.setCell ?_ ?bs _; (case bs => first | omega | (simp; done) | (simp; omega)))))) (hb2.mono (by simp)); clear hb2))
  have HB2 := Lib.hid hB2
  have hl2 := hB2.size
  clear hB2
  go_wp2_with ((with_reducible apply wpList_append_nodes (B := w2.heap.size) (m := 1) (news := nodeL 1 (.slice none 0 0) gap p0 p1 p2 p3 bd md t) (g := g) (o := o)); exact rfl; exact rfl; exact rfl; exact ((HN.out.below HB2.out hg).below (Below.alloc (Below.refl _ _) (Nat.le_refl _) _) (by omega)).cells; exact nodeL_one rfl; exact World.ownsRow_made w2 #[] 0 (Nat.le_refl _) (Nat.zero_le _) rfl; simp; decide; decide; intro v' w5 hrow5 hgr5 hpl5 K hK; obtain ⟨gN, cN, cur, rfl, hgN, hblk, hle, hcm, hcs, htk⟩ := (hrow5.2.resolve_left (fun h => by have := h.2; omega)); have HR5 := Lib.hid hrow5; have HG5 := Lib.hid hgr5; clear hrow5 hgr5 hpl5 hcs htk hcm)
  have hN5 : NodeAt w5 gN 0 1 (.slice none 0 0) gap p0 p1 p2 p3 bd md t := NodeAt.of_cells fun j u hj => by
    have := HR5.out.cells (g := gN) rfl j u hj
    rw [addr_add] at this; exact this
  have hl5 : gN < w5.heap.size := World.block_lt_of_cell? w5 ⟨gN, 0, none⟩ hN5.kd
  have hfz : ∀ q, w5.frozen? ⟨gN, q, none⟩ = false := fun q => by simp [World.frozen?, hblk]
  have HB5 : Hid (Below w.heap.size w w5) := Lib.hid ((HB2.out.alloc hl2 _).grown HG5.out (by simp; omega) (fun k e => by have e' : w2.heap.size = k := Option.some.inj e.symm |>.symm; omega))
  have hwg : w.heap.size ≤ gN := by omega
  have a4 := hN5.kids
  have a29 := hN5.cols
  have HN5 := Lib.hid hN5
  clear hN5 HR5 HG5 HN HB2 hblk hbx
  refine wp_loop_rounds 2 ?_
  rw [rounds_succ]
  go_wp2
  rw [rounds_succ]
  go_upto_region 11 with (fail)
  have hk6 : ∀ q, q ≠ 3 → q ≠ 28 → ∀ s1 s2 o1 o2, ((((w5.setCell ⟨gN, 3, none⟩ s1).setCell ⟨gN, 28, none⟩ s2).alloc o1).alloc o2).cell? ⟨gN, q, none⟩ = w5.cell? ⟨gN, q, none⟩ := fun q h1 h2 s1 s2 o1 o2 => by
    rw [World.cell?_alloc_lt _ _ ⟨gN, q, none⟩ (by simp; omega), World.cell?_alloc_lt _ _ ⟨gN, q, none⟩ (by simp; omega), setCell_far _ _ (by omega), setCell_far _ _ (by omega)]
  have hk3 : ∀ s1 s2 o1 o2, ((((w5.setCell ⟨gN, 3, none⟩ s1).setCell ⟨gN, 28, none⟩ s2).alloc o1).alloc o2).cell? ⟨gN, 3, none⟩ = some s1 := fun s1 s2 o1 o2 => by
    rw [World.cell?_alloc_lt _ _ ⟨gN, 3, none⟩ (by simp; omega), World.cell?_alloc_lt _ _ ⟨gN, 3, none⟩ (by simp; omega), setCell_far _ _ (by omega)]
    exact setCell_here _ _ a4
  have N8 : ∀ s1 s2 o1 o2, NodeIn ((((w5.setCell ⟨gN, 3, none⟩ s1).setCell ⟨gN, 28, none⟩ s2).alloc o1).alloc o2) gN 0 1 s1 gap p0 p1 p2 p3 bd md t := fun s1 s2 o1 o2 => by
    obtain ⟨b1, b2, b3, b4, b5, b6, b7, b8, b9, b10, b11, b12, b13, b14, b15, b16, b17, b18, b19, b20⟩ := HN5.out.inn
    constructor <;> first | exact hk3 _ _ _ _ | (rw [hk6 _ (by decide) (by decide)]; assumption)
  have B8 : ∀ s1 s2 o1 o2, Below w.heap.size w ((((w5.setCell ⟨gN, 3, none⟩ s1).setCell ⟨gN, 28, none⟩ s2).alloc o1).alloc o2) := fun s1 s2 o1 o2 => by
    have := HB5.out
    have hs := this.size
    (repeat (first | exact Below.refl _ _ | assumption | refine below_drewN ?_ _ | refine Below.drew ?_ | (refine Below.alloc ?_ ?bs _; (case bs => first | omega | (simp; done) | (simp; omega))) | (refine Below.setCell ?_ ?bs _; (case bs => first | omega | (simp; done) | (simp; omega)))))
  have n8 := N8 (.slice (some ⟨w5.heap.size, 0, none⟩) 0 0) (.slice (some ⟨w5.heap.size + 1, 0, none⟩) 0 0) (Obj.cells #[] 3) (Obj.cells #[] 40)
  have b8 := B8 (.slice (some ⟨w5.heap.size, 0, none⟩) 0 0) (.slice (some ⟨w5.heap.size + 1, 0, none⟩) 0 0) (Obj.cells #[] 3) (Obj.cells #[] 40)
  generalize World.alloc (World.alloc (World.setCell (World.setCell w5 _ _) _ _) _) _ = w8 at n8 b8 ⊢
  have HN8 := Lib.hid n8
  have HB8 := Lib.hid b8
  clear hk6 hk3 N8 B8 n8 b8 a4 a29 HN5 HB5 hl5 hfz hle
  have hmm := @run_makeMap Tryz.prog
  go_wp2_with (go_at_call 20; ((with_reducible refine (kinds_any _).mono ?_); rintro e1' w9 ⟨bk, rfl, hk1, hk2, hb9, q3, q4, q5, q6, q7, q8⟩))
  go_ret2
  have hz8 := HB8.out.size
  have hz9 := hb9.size
  have hb10 : Below w8.heap.size w8 ((w9.alloc (.map #[] 0)).alloc (.cells #[.slice (some ⟨gN, 0, none⟩) 1 cN, .slice (some ⟨bk, 0, none⟩) 12 12, .map (some w9.heap.size)] 61)) := by (repeat (first | exact Below.refl _ _ | assumption | refine below_drewN ?_ _ | refine Below.drew ?_ | (refine Below.alloc ?_ ?bs _; (case bs => first | omega | (simp; done) | (simp; omega))) | (refine Below.setCell ?_ ?bs _; (case bs => first | omega | (simp; done) | (simp; omega)))))
  have g9 : Below w9.heap.size w9 ((w9.alloc (.map #[] 0)).alloc (.cells #[.slice (some ⟨gN, 0, none⟩) 1 cN, .slice (some ⟨bk, 0, none⟩) 12 12, .map (some w9.heap.size)] 61)) := by (repeat (first | exact Below.refl _ _ | assumption | refine below_drewN ?_ _ | refine Below.drew ?_ | (refine Below.alloc ?_ ?bs _; (case bs => first | omega | (simp; done) | (simp; omega))) | (refine Below.setCell ?_ ?bs _; (case bs => first | omega | (simp; done) | (simp; omega)))))
  have l8 := HN8.out.lt
  have kk : ∀ q u, w9.cell? ⟨bk, q, none⟩ = some u → ((w9.alloc (.map #[] 0)).alloc (.cells #[.slice (some ⟨gN, 0, none⟩) 1 cN, .slice (some ⟨bk, 0, none⟩) 12 12, .map (some w9.heap.size)] 61)).cell? ⟨bk, q, none⟩ = some u := fun q u hu => (g9.cell (p := ⟨bk, q, none⟩) hk2).trans hu
  refine ⟨w9.heap.size + 1, gN, bk, w9.heap.size, cN, _, rfl, ⟨HB8.out.trans (hb10.mono hz8), by omega, by omega, by omega, by omega, fun f => ⟨cell_newB _ _ _ _ _ (by simp), cell_newB _ _ _ _ _ (by simp), cell_newB _ _ _ _ _ (by simp), kk _ _ q3, kk _ _ q4, kk _ _ q5, kk _ _ q6, kk _ _ q7, kk _ _ q8, by omega, by omega, by omega, ?_, ?_⟩⟩, HN8.out.below hb10 l8⟩
  · simp; omega
  · exact ⟨.map [], World.ownsMap.alloc (World.ownsMap_made w9 _ _ _) _, known_empty f⟩
end Go.Proofs.YthhomflonpjbmaaGreatDoor
/-
  The walk of measure.New at a tree of one node that may not be.
-/
namespace Go.Proofs.YthhomflonpjbmaaGreatDoor
open Go.RowKit
set_option maxRecDepth 100000 in
set_option maxHeartbeats 4000000 in
theorem new_bad (w : World) (g o c : Nat) (gap p0 p1 p2 p3 bd md : Int) (t : ByteArray) (h : NodeAt w g o 1 (.slice none 0 0) gap p0 p1 p2 p3 bd md t) (hg : g < w.heap.size)
    (hp0 : 0 ≤ p0 ∧ p0 ≤ 4096) (hp1 : 0 ≤ p1 ∧ p1 ≤ 4096) (hp2 : 0 ≤ p2 ∧ p2 ≤ 4096) (hp3 : 0 ≤ p3 ∧ p3 ≤ 4096) (hgp : 0 ≤ gap ∧ gap ≤ 4096) (hbd : 0 ≤ bd ∧ bd ≤ 4) (hq1 : -128 ≤ md ∧ md ≤ 127) (hq2 : ¬ (0 ≤ md ∧ md ≤ 2)) :
    Calls Tryz.prog 8 #[.agg #[.slice (some ⟨g, o, none⟩) 1 c]] w (VBel (.tuple #[.pointer none, .int .i64 106]) w) := by
  have HCK := Lib.hid fun W (hb : Below w.heap.size w W) => check_bad W g o c gap p0 p1 p2 p3 bd md t (h.below hb hg) (Nat.lt_of_lt_of_le hg hb.size) hp0 hp1 hp2 hp3 hgp hbd hq1 hq2
  clear h hp0 hp1 hp2 hp3 hgp hbd hq1 hq2
  go_enter Tryz.func8, Tryz.ntmps8
  go_wp2_with (go_at_call 19; ((with_reducible refine (HCK.out _ (by (repeat (first | exact Below.refl _ _ | assumption | refine below_drewN ?_ _ | refine Below.drew ?_ | (refine Below.alloc ?_ ?bs _; (case bs => first | omega | (simp; done) | (simp; omega))) | (refine Below.setCell ?_ ?bs _; (case bs => first | omega | (simp; done) | (simp; omega))))))).mono ?_); rintro e1' w2 ⟨rfl, hb2⟩))
  go_ret2
  exact ⟨rfl, Below.trans (by (repeat (first | exact Below.refl _ _ | assumption | refine below_drewN ?_ _ | refine Below.drew ?_ | (refine Below.alloc ?_ ?bs _; (case bs => first | omega | (simp; done) | (simp; omega))) | (refine Below.setCell ?_ ?bs _; (case bs => first | omega | (simp; done) | (simp; omega)))))) (hb2.mono (by simp))⟩
set_option maxRecDepth 100000 in
set_option maxHeartbeats 4000000 in
theorem new_long (w : World) (g o c : Nat) (gap p0 p1 p2 p3 bd md : Int) (t : ByteArray) (h : NodeAt w g o 1 (.slice none 0 0) gap p0 p1 p2 p3 bd md t) (hg : g < w.heap.size)
    (hp0 : 0 ≤ p0 ∧ p0 ≤ 4096) (hp1 : 0 ≤ p1 ∧ p1 ≤ 4096) (hp2 : 0 ≤ p2 ∧ p2 ≤ 4096) (hp3 : 0 ≤ p3 ∧ p3 ≤ 4096) (hgp : 0 ≤ gap ∧ gap ≤ 4096) (hbd : 0 ≤ bd ∧ bd ≤ 4) (hq1 : 0 ≤ md ∧ md ≤ 2) (hq2 : (65536 : Int) < (t.size : Int)) :
    Calls Tryz.prog 8 #[.agg #[.slice (some ⟨g, o, none⟩) 1 c]] w (VBel (.tuple #[.pointer none, .int .i64 3]) w) := by
  have HCK := Lib.hid fun W (hb : Below w.heap.size w W) => check_long W g o c gap p0 p1 p2 p3 bd md t (h.below hb hg) (Nat.lt_of_lt_of_le hg hb.size) hp0 hp1 hp2 hp3 hgp hbd hq1 hq2
  clear h hp0 hp1 hp2 hp3 hgp hbd hq1 hq2
  go_enter Tryz.func8, Tryz.ntmps8
  go_wp2_with (go_at_call 19; ((with_reducible refine (HCK.out _ (by (repeat (first | exact Below.refl _ _ | assumption | refine below_drewN ?_ _ | refine Below.drew ?_ | (refine Below.alloc ?_ ?bs _; (case bs => first | omega | (simp; done) | (simp; omega))) | (refine Below.setCell ?_ ?bs _; (case bs => first | omega | (simp; done) | (simp; omega))))))).mono ?_); rintro e1' w2 ⟨rfl, hb2⟩))
  go_ret2
  exact ⟨rfl, Below.trans (by (repeat (first | exact Below.refl _ _ | assumption | refine below_drewN ?_ _ | refine Below.drew ?_ | (refine Below.alloc ?_ ?bs _; (case bs => first | omega | (simp; done) | (simp; omega))) | (refine Below.setCell ?_ ?bs _; (case bs => first | omega | (simp; done) | (simp; omega)))))) (hb2.mono (by simp))⟩
end Go.Proofs.YthhomflonpjbmaaGreatDoor
