/-
  The measure of a row of two texts: what each of its numbers is; a text's least width, most, height.
-/
import Derived.Test.YthhomflonpjbmaaGreatDoorQt19
import Derived.Test.YthhomflonpjbmaaGreatDoorQt25
import Derived.Deep.DeepCutAuto
import Derived.Deep.RegionHeld3
import Derived.Maps.Range
import Derived.Deep.RegionWith
namespace Go.Proofs.YthhomflonpjbmaaGreatDoor
open Go.RowKit Go.Maps
/-- The numbers of the row of two texts, as far as they are asked. -/
def ff (n y x : Int) : Int :=
  if y = 0 then (if n = 0 then 5 else if n = 1 then 3 else 1)
  else if y = 1 then (if n = 0 then 8 else if n = 1 then 6 else 1)
  else if n = 0 then (if x = 8 then 1 else 2) else if n = 1 then (if x = 6 then 1 else 2) else 1
/-- Where the measure lies. -/
structure Pl where
  pm : Nat
  g : Nat
  bk : Nat
  bm : Nat
  cc : Nat
  kN : Nat
  kc : Nat
  k1 : Value
  k2 : Value
structure AInv (p : Pl) (K : Nat) (W : World) : Prop where
  m : MInv W p.pm p.g p.bk p.bm 3 p.cc K ff
  n0 : NodeIn W p.g 0 2 (.slice (some ⟨p.kN, 0, none⟩) 2 p.kc) 1 0 0 0 0 0 0 ⟨#[]⟩
  n1 : NodeIn W p.g 34 1 p.k1 0 0 0 0 0 0 0 abT
  n2 : NodeIn W p.g 68 1 p.k2 0 0 0 0 0 0 0 xT
  q0 : W.cell? ⟨p.kN, 0, none⟩ = some (.int .i64 1)
  q1 : W.cell? ⟨p.kN, 1, none⟩ = some (.int .i64 2)
  nq : p.kN ≠ p.bm
theorem AInv.grown {p : Pl} {K K' : Nat} {W W' : World} (h : AInv p K W) (hg : W.grownBy W' (some p.bm)) (hM : MInv W' p.pm p.g p.bk p.bm 3 p.cc K' ff) : AInv p K' W' :=
  ⟨hM, h.n0.grown hg (by simpa using h.m.ng), h.n1.grown hg (by simpa using h.m.ng), h.n2.grown hg (by simpa using h.m.ng), hg.cell h.q0 (by simpa using h.nq), hg.cell h.q1 (by simpa using h.nq), h.nq⟩
theorem AInv.below {p : Pl} {K : Nat} {W W' : World} (h : AInv p K W) (hb : Below W.heap.size W W') : AInv p K W' := h.grown (grownBy_below hb _) (h.m.below hb)
theorem AInv.mono {p : Pl} {K K' : Nat} {W : World} (h : AInv p K W) (hK : K ≤ K') : AInv p K' W := ⟨h.m.mono hK, h.n0, h.n1, h.n2, h.q0, h.q1, h.nq⟩
/-- A call on this measure: its answer; the measure's map alone may have turned. -/
def APost (v : Int) (p : Pl) (K : Nat) (w : World) (e : Ending) (w' : World) : Prop := e = .returned (.int .i64 v) ∧ w.grownBy w' (some p.bm) ∧ AInv p K w'
theorem APost.of {v : Int} {p : Pl} {K K' : Nat} {w : World} (A : AInv p K w) {e : Ending} {w' : World} (h : MPost v w p.pm p.g p.bk p.bm 3 p.cc K' ff e w') : APost v p K' w e w' := ⟨h.1, h.2.1, A.grown h.2.1 h.2.2⟩
theorem APost.to {v : Int} {p : Pl} {K : Nat} {w : World} {e : Ending} {w' : World} (h : APost v p K w e w') : MPost v w p.pm p.g p.bk p.bm 3 p.cc K ff e w' := ⟨h.1, h.2.1, h.2.2.m⟩
theorem a_least (p : Pl) (K : Nat) (hK : K < 900000) (W : World) (A : AInv p K W) (n : Int) (hn : n = 1 ∨ n = 2) : Calls Tryz.prog 11 #[.pointer (some ⟨p.pm, 0, none⟩), .int .i64 n] W (APost (ff n 0 0) p (K + 1) W) := by
  rcases hn with rfl | rfl
  · refine (least1_at_1 W p.pm p.g p.bk p.bm 3 p.cc K K ff 1 (by omega) (by omega) p.k1 0 0 0 0 0 0 0 abT A.m (Nat.le_refl _) (by omega) A.n1 (by omega) (by omega) (by omega) (by omega) (by omega) 3 0 (by omega) (by decide) (by decide) fun W' hg hM => ?_).mono fun e w' h => APost.of A h
    have A' := A.grown hg hM
    exact (text_least W' p.g 34 1 p.k1 0 0 0 0 0 0 0 abT A'.n1 A'.m.lg _ 1 (by decide)).mono fun e w' h => mpost_of_bel hM (by rw [ab_least] at h; exact h)
  · refine (least1_at_1 W p.pm p.g p.bk p.bm 3 p.cc K K ff 2 (by omega) (by omega) p.k2 0 0 0 0 0 0 0 xT A.m (Nat.le_refl _) (by omega) A.n2 (by omega) (by omega) (by omega) (by omega) (by omega) 1 0 (by omega) (by decide) (by decide) fun W' hg hM => ?_).mono fun e w' h => APost.of A h
    have A' := A.grown hg hM
    exact (text_least W' p.g 68 1 p.k2 0 0 0 0 0 0 0 xT A'.n2 A'.m.lg _ 2 (by decide)).mono fun e w' h => mpost_of_bel hM (by rw [x_least] at h; exact h)
theorem a_most (p : Pl) (K : Nat) (hK : K < 900000) (W : World) (A : AInv p K W) (n : Int) (hn : n = 1 ∨ n = 2) : Calls Tryz.prog 12 #[.pointer (some ⟨p.pm, 0, none⟩), .int .i64 n] W (APost (ff n 1 0) p (K + 1) W) := by
  rcases hn with rfl | rfl
  · refine (most1_at_1 W p.pm p.g p.bk p.bm 3 p.cc K K ff 1 (by omega) (by omega) p.k1 0 0 0 0 0 0 0 abT A.m (Nat.le_refl _) (by omega) A.n1 (by omega) (by omega) (by omega) (by omega) (by omega) 6 0 (by omega) (by decide) (by decide) fun W' hg hM => ?_).mono fun e w' h => APost.of A h
    have A' := A.grown hg hM
    exact (text_most W' p.g 34 1 p.k1 0 0 0 0 0 0 0 abT A'.n1 A'.m.lg _ 1 (by decide)).mono fun e w' h => mpost_of_bel hM (by rw [ab_most] at h; exact h)
  · refine (most1_at_1 W p.pm p.g p.bk p.bm 3 p.cc K K ff 2 (by omega) (by omega) p.k2 0 0 0 0 0 0 0 xT A.m (Nat.le_refl _) (by omega) A.n2 (by omega) (by omega) (by omega) (by omega) (by omega) 1 0 (by omega) (by decide) (by decide) fun W' hg hM => ?_).mono fun e w' h => APost.of A h
    have A' := A.grown hg hM
    exact (text_most W' p.g 68 1 p.k2 0 0 0 0 0 0 0 xT A'.n2 A'.m.lg _ 2 (by decide)).mono fun e w' h => mpost_of_bel hM (by rw [x_most] at h; exact h)
theorem a_tall (p : Pl) (K : Nat) (hK : K < 900000) (W : World) (A : AInv p K W) (n x : Int) (hn : (n = 1 ∧ x = 6) ∨ (n = 1 ∧ x = 3) ∨ (n = 2 ∧ x = 1)) : Calls Tryz.prog 10 #[.pointer (some ⟨p.pm, 0, none⟩), .int .i64 n, .int .i64 x] W (APost (ff n 2 x) p (K + 1) W) := by
  rcases hn with ⟨rfl, rfl⟩ | ⟨rfl, rfl⟩ | ⟨rfl, rfl⟩
  · refine (tall1_at_1 W p.pm p.g p.bk p.bm 3 p.cc K K ff 1 (by omega) (by omega) p.k1 0 0 0 0 0 0 0 abT A.m (Nat.le_refl _) (by omega) A.n1 (by omega) (by omega) (by omega) (by omega) (by omega) 6 6 (by omega) (by decide) 1 0 0 (by omega) (by decide) (by decide) (by decide) fun W' hg hM => ?_).mono fun e w' h => APost.of A h
    have A' := A.grown hg hM
    exact (text_tall W' p.g 34 1 p.k1 0 0 0 0 0 0 0 abT A'.n1 A'.m.lg _ 1 6 (by omega) (by omega) (by decide)).mono fun e w' h => mpost_of_bel hM (by rw [ab_tall6] at h; exact h)
  · refine (tall1_at_1 W p.pm p.g p.bk p.bm 3 p.cc K K ff 1 (by omega) (by omega) p.k1 0 0 0 0 0 0 0 abT A.m (Nat.le_refl _) (by omega) A.n1 (by omega) (by omega) (by omega) (by omega) (by omega) 3 3 (by omega) (by decide) 2 0 0 (by omega) (by decide) (by decide) (by decide) fun W' hg hM => ?_).mono fun e w' h => APost.of A h
    have A' := A.grown hg hM
    exact (text_tall W' p.g 34 1 p.k1 0 0 0 0 0 0 0 abT A'.n1 A'.m.lg _ 1 3 (by omega) (by omega) (by decide)).mono fun e w' h => mpost_of_bel hM (by rw [ab_tall3] at h; exact h)
  · refine (tall1_at_1 W p.pm p.g p.bk p.bm 3 p.cc K K ff 2 (by omega) (by omega) p.k2 0 0 0 0 0 0 0 xT A.m (Nat.le_refl _) (by omega) A.n2 (by omega) (by omega) (by omega) (by omega) (by omega) 1 1 (by omega) (by decide) 1 0 0 (by omega) (by decide) (by decide) (by decide) fun W' hg hM => ?_).mono fun e w' h => APost.of A h
    have A' := A.grown hg hM
    exact (text_tall W' p.g 68 1 p.k2 0 0 0 0 0 0 0 xT A'.n2 A'.m.lg _ 2 1 (by omega) (by omega) (by decide)).mono fun e w' h => mpost_of_bel hM (by rw [x_tall1] at h; exact h)
end Go.Proofs.YthhomflonpjbmaaGreatDoor
/-
  The walks of wish, lw, mw, high at the row's texts.
-/
namespace Go.Proofs.YthhomflonpjbmaaGreatDoor
open Go.RowKit Go.Maps
/-- What is held: an item without bounds at this block, the measure. -/
abbrev WSt (w : World) (b : Nat) (p : Pl) (K : Nat) (W : World) : Prop :=
  W.cell? ⟨b, 0, none⟩ = some (.int .i8 0) ∧ W.cell? ⟨b, 1, none⟩ = some (.int .i64 0) ∧ W.cell? ⟨b, 2, none⟩ = some (.int .i64 0) ∧ W.cell? ⟨b, 3, none⟩ = some (.int .i64 0) ∧ W.cell? ⟨b, 4, none⟩ = some (.int .i64 0) ∧ w.grownBy W (some p.bm) ∧ AInv p K W
theorem WSt.drew {w : World} {b : Nat} {p : Pl} {K : Nat} {W : World} (h : WSt w b p K W) : WSt w b p K W.drew :=
  ⟨h.1, h.2.1, h.2.2.1, h.2.2.2.1, h.2.2.2.2.1, World.grownBy.trans h.2.2.2.2.2.1 (grownBy_drew _ _), h.2.2.2.2.2.2.below ⟨rfl, rfl, rfl, Nat.le_refl _, fun _ _ => rfl⟩⟩
theorem WSt.call {w : World} {b : Nat} {p : Pl} {K K' : Nat} {W W' : World} (h : WSt w b p K W) (hb : b ≠ p.bm) (hg : W.grownBy W' (some p.bm)) (hA : AInv p K' W') : WSt w b p K' W' :=
  ⟨hg.cell h.1 (by simpa using hb), hg.cell h.2.1 (by simpa using hb), hg.cell h.2.2.1 (by simpa using hb), hg.cell h.2.2.2.1 (by simpa using hb), hg.cell h.2.2.2.2.1 (by simpa using hb), World.grownBy.trans h.2.2.2.2.2.1 hg, hA⟩
theorem WSt.bel {w : World} {b : Nat} {p : Pl} {K : Nat} {W W' : World} (h : WSt w b p K W) (hb : b ≠ p.bm) (hg : Below W.heap.size W W') : WSt w b p K W' := h.call hb (grownBy_below hg _) (h.2.2.2.2.2.2.below hg)
set_option maxRecDepth 100000 in
set_option maxHeartbeats 4000000 in
theorem a_wish_least1 (p : Pl) (K : Nat) (W : World) (A : AInv p K W) (v : Int) (hv : 0 ≤ v ∧ v ≤ 4096)
    (HL : ∀ W', AInv p K W' → Calls Tryz.prog 11 #[.pointer (some ⟨p.pm, 0, none⟩), .int .i64 1] W' (APost v p (K + 1) W')) :
    Calls Tryz.prog 94 #[.pointer (some ⟨p.pm, 0, none⟩), .int .i64 1, .func (.func 11) #[.pointer (some ⟨p.pm, 0, none⟩)] #[]] W (APost v p (K + 1) W) := by
  have c0 := A.m.c0
  have y0 : W.cell? ⟨p.g, 38, none⟩ = some (.int .i8 0) := A.n1.w0
  have y1 : W.cell? ⟨p.g, 39, none⟩ = some (.int .i64 0) := A.n1.w1
  have y2 : W.cell? ⟨p.g, 40, none⟩ = some (.int .i64 0) := A.n1.w2
  have y3 : W.cell? ⟨p.g, 41, none⟩ = some (.int .i64 0) := A.n1.w3
  have y4 : W.cell? ⟨p.g, 42, none⟩ = some (.int .i64 0) := A.n1.w4
  have lg := A.m.lg
  have lp := A.m.lp
  have hbm : W.heap.size ≠ p.bm := Nat.ne_of_gt A.m.lm
  have hv0 : max v 0 = v := by omega
  have HI := Lib.hid fun W => into_zero v W
  rw [hv0] at HI
  have HLL := Lib.hid HL
  have HA := Lib.hid A
  clear HL A hv0
  go_enter Tryz.func94, Tryz.ntmps94
  go_upto_region 4 with (fail)
  have S0 : WSt W W.heap.size p (K + 1) (W.alloc (.cells #[.int .i8 0, .int .i64 0, .int .i64 0, .int .i64 0, .int .i64 0] 40)) := ⟨cell_newB _ _ _ _ _ rfl, cell_newB _ _ _ _ _ rfl, cell_newB _ _ _ _ _ rfl, cell_newB _ _ _ _ _ rfl, cell_newB _ _ _ _ _ rfl, World.grownBy_alloc _ _ _, (HA.out.below (Below.alloc (Below.refl _ _) (Nat.le_refl _) _)).mono (Nat.le_succ _)⟩
  have A0 : AInv p K (W.alloc (.cells #[.int .i8 0, .int .i64 0, .int .i64 0, .int .i64 0, .int .i64 0] 40)) := HA.out.below (Below.alloc (Below.refl _ _) (Nat.le_refl _) _)
  have hlt : W.heap.size < (W.alloc (.cells #[.int .i8 0, .int .i64 0, .int .i64 0, .int .i64 0, .int .i64 0] 40)).heap.size := by simp
  generalize W.alloc (.cells #[.int .i8 0, .int .i64 0, .int .i64 0, .int .i64 0, .int .i64 0] 40) = w1 at S0 A0 hlt ⊢
  have HS0 := Lib.hid S0.drew
  have A1 : AInv p K w1.drew := A0.below ⟨rfl, rfl, rfl, Nat.le_refl _, fun _ _ => rfl⟩
  have HCALL := Lib.hid (HLL.out w1.drew A1)
  obtain ⟨s0, s1, s2, s3, s4, s5, s6⟩ := S0
  clear c0 y0 y1 y2 y3 y4 HLL HA A0 A1 lg lp
  go_region_held3 (fun W' => W'.cell? ⟨W.heap.size, 0, none⟩ = some (.int .i8 0) ∧ W'.cell? ⟨W.heap.size, 1, none⟩ = some (.int .i64 0) ∧ W'.cell? ⟨W.heap.size, 2, none⟩ = some (.int .i64 0) ∧ W'.cell? ⟨W.heap.size, 3, none⟩ = some (.int .i64 0) ∧ W'.cell? ⟨W.heap.size, 4, none⟩ = some (.int .i64 0) ∧ W.grownBy W' (some p.bm) ∧ AInv p (K + 1) W')
    ((first | (refine WSt.drew ?_; (refine ⟨?_, ?_, ?_, ?_, ?_, ?_, ?_⟩ <;> assumption)) | (refine ⟨?_, ?_, ?_, ?_, ?_, ?_, ?_⟩ <;> assumption)))
    (first | (go_at_call 11; ((with_reducible refine HCALL.out.mono ?_); rintro e1' w5 ⟨rfl, hg5, hA5⟩; have HS5 := Lib.hid (WSt.call HS0.out hbm hg5 hA5); obtain ⟨u0, u1, u2, u3, u4, u5, u6⟩ := HS5.out; have hl5 : W.heap.size < w5.heap.size := Nat.lt_of_lt_of_le hlt hg5.size)) | (go_at_call 95; ((with_reducible refine (HI.out _).mono ?_); rintro e1' w6 ⟨rfl, hb6⟩; have HS6 := Lib.hid (WSt.bel HS5.out hbm hb6); obtain ⟨v0, v1, v2, v3, v4, v5, v6⟩ := HS6.out)))
  all_goals
    go_wp2
    go_ret
    exact ⟨rfl, HS6.out.2.2.2.2.2.1, HS6.out.2.2.2.2.2.2⟩
set_option maxRecDepth 100000 in
set_option maxHeartbeats 4000000 in
theorem a_wish_least2 (p : Pl) (K : Nat) (W : World) (A : AInv p K W) (v : Int) (hv : 0 ≤ v ∧ v ≤ 4096)
    (HL : ∀ W', AInv p K W' → Calls Tryz.prog 11 #[.pointer (some ⟨p.pm, 0, none⟩), .int .i64 2] W' (APost v p (K + 1) W')) :
    Calls Tryz.prog 94 #[.pointer (some ⟨p.pm, 0, none⟩), .int .i64 2, .func (.func 11) #[.pointer (some ⟨p.pm, 0, none⟩)] #[]] W (APost v p (K + 1) W) := by
  have c0 := A.m.c0
  have y0 : W.cell? ⟨p.g, 72, none⟩ = some (.int .i8 0) := A.n2.w0
  have y1 : W.cell? ⟨p.g, 73, none⟩ = some (.int .i64 0) := A.n2.w1
  have y2 : W.cell? ⟨p.g, 74, none⟩ = some (.int .i64 0) := A.n2.w2
  have y3 : W.cell? ⟨p.g, 75, none⟩ = some (.int .i64 0) := A.n2.w3
  have y4 : W.cell? ⟨p.g, 76, none⟩ = some (.int .i64 0) := A.n2.w4
  have lg := A.m.lg
  have lp := A.m.lp
  have hbm : W.heap.size ≠ p.bm := Nat.ne_of_gt A.m.lm
  have hv0 : max v 0 = v := by omega
  have HI := Lib.hid fun W => into_zero v W
  rw [hv0] at HI
  have HLL := Lib.hid HL
  have HA := Lib.hid A
  clear HL A hv0
  go_enter Tryz.func94, Tryz.ntmps94
  go_upto_region 4 with (fail)
  have S0 : WSt W W.heap.size p (K + 1) (W.alloc (.cells #[.int .i8 0, .int .i64 0, .int .i64 0, .int .i64 0, .int .i64 0] 40)) := ⟨cell_newB _ _ _ _ _ rfl, cell_newB _ _ _ _ _ rfl, cell_newB _ _ _ _ _ rfl, cell_newB _ _ _ _ _ rfl, cell_newB _ _ _ _ _ rfl, World.grownBy_alloc _ _ _, (HA.out.below (Below.alloc (Below.refl _ _) (Nat.le_refl _) _)).mono (Nat.le_succ _)⟩
  have A0 : AInv p K (W.alloc (.cells #[.int .i8 0, .int .i64 0, .int .i64 0, .int .i64 0, .int .i64 0] 40)) := HA.out.below (Below.alloc (Below.refl _ _) (Nat.le_refl _) _)
  have hlt : W.heap.size < (W.alloc (.cells #[.int .i8 0, .int .i64 0, .int .i64 0, .int .i64 0, .int .i64 0] 40)).heap.size := by simp
  generalize W.alloc (.cells #[.int .i8 0, .int .i64 0, .int .i64 0, .int .i64 0, .int .i64 0] 40) = w1 at S0 A0 hlt ⊢
  have HS0 := Lib.hid S0.drew
  have A1 : AInv p K w1.drew := A0.below ⟨rfl, rfl, rfl, Nat.le_refl _, fun _ _ => rfl⟩
  have HCALL := Lib.hid (HLL.out w1.drew A1)
  obtain ⟨s0, s1, s2, s3, s4, s5, s6⟩ := S0
  clear c0 y0 y1 y2 y3 y4 HLL HA A0 A1 lg lp
  go_region_held3 (fun W' => W'.cell? ⟨W.heap.size, 0, none⟩ = some (.int .i8 0) ∧ W'.cell? ⟨W.heap.size, 1, none⟩ = some (.int .i64 0) ∧ W'.cell? ⟨W.heap.size, 2, none⟩ = some (.int .i64 0) ∧ W'.cell? ⟨W.heap.size, 3, none⟩ = some (.int .i64 0) ∧ W'.cell? ⟨W.heap.size, 4, none⟩ = some (.int .i64 0) ∧ W.grownBy W' (some p.bm) ∧ AInv p (K + 1) W')
    ((first | (refine WSt.drew ?_; (refine ⟨?_, ?_, ?_, ?_, ?_, ?_, ?_⟩ <;> assumption)) | (refine ⟨?_, ?_, ?_, ?_, ?_, ?_, ?_⟩ <;> assumption)))
    (first | (go_at_call 11; ((with_reducible refine HCALL.out.mono ?_); rintro e1' w5 ⟨rfl, hg5, hA5⟩; have HS5 := Lib.hid (WSt.call HS0.out hbm hg5 hA5); obtain ⟨u0, u1, u2, u3, u4, u5, u6⟩ := HS5.out; have hl5 : W.heap.size < w5.heap.size := Nat.lt_of_lt_of_le hlt hg5.size)) | (go_at_call 95; ((with_reducible refine (HI.out _).mono ?_); rintro e1' w6 ⟨rfl, hb6⟩; have HS6 := Lib.hid (WSt.bel HS5.out hbm hb6); obtain ⟨v0, v1, v2, v3, v4, v5, v6⟩ := HS6.out)))
  all_goals
    go_wp2
    go_ret
    exact ⟨rfl, HS6.out.2.2.2.2.2.1, HS6.out.2.2.2.2.2.2⟩
set_option maxRecDepth 100000 in
set_option maxHeartbeats 4000000 in
theorem a_wish_most1 (p : Pl) (K : Nat) (W : World) (A : AInv p K W) (v : Int) (hv : 0 ≤ v ∧ v ≤ 4096)
    (HL : ∀ W', AInv p K W' → Calls Tryz.prog 12 #[.pointer (some ⟨p.pm, 0, none⟩), .int .i64 1] W' (APost v p (K + 1) W')) :
    Calls Tryz.prog 94 #[.pointer (some ⟨p.pm, 0, none⟩), .int .i64 1, .func (.func 12) #[.pointer (some ⟨p.pm, 0, none⟩)] #[]] W (APost v p (K + 1) W) := by
  have c0 := A.m.c0
  have y0 : W.cell? ⟨p.g, 38, none⟩ = some (.int .i8 0) := A.n1.w0
  have y1 : W.cell? ⟨p.g, 39, none⟩ = some (.int .i64 0) := A.n1.w1
  have y2 : W.cell? ⟨p.g, 40, none⟩ = some (.int .i64 0) := A.n1.w2
  have y3 : W.cell? ⟨p.g, 41, none⟩ = some (.int .i64 0) := A.n1.w3
  have y4 : W.cell? ⟨p.g, 42, none⟩ = some (.int .i64 0) := A.n1.w4
  have lg := A.m.lg
  have lp := A.m.lp
  have hbm : W.heap.size ≠ p.bm := Nat.ne_of_gt A.m.lm
  have hv0 : max v 0 = v := by omega
  have HI := Lib.hid fun W => into_zero v W
  rw [hv0] at HI
  have HLL := Lib.hid HL
  have HA := Lib.hid A
  clear HL A hv0
  go_enter Tryz.func94, Tryz.ntmps94
  go_upto_region 4 with (fail)
  have S0 : WSt W W.heap.size p (K + 1) (W.alloc (.cells #[.int .i8 0, .int .i64 0, .int .i64 0, .int .i64 0, .int .i64 0] 40)) := ⟨cell_newB _ _ _ _ _ rfl, cell_newB _ _ _ _ _ rfl, cell_newB _ _ _ _ _ rfl, cell_newB _ _ _ _ _ rfl, cell_newB _ _ _ _ _ rfl, World.grownBy_alloc _ _ _, (HA.out.below (Below.alloc (Below.refl _ _) (Nat.le_refl _) _)).mono (Nat.le_succ _)⟩
  have A0 : AInv p K (W.alloc (.cells #[.int .i8 0, .int .i64 0, .int .i64 0, .int .i64 0, .int .i64 0] 40)) := HA.out.below (Below.alloc (Below.refl _ _) (Nat.le_refl _) _)
  have hlt : W.heap.size < (W.alloc (.cells #[.int .i8 0, .int .i64 0, .int .i64 0, .int .i64 0, .int .i64 0] 40)).heap.size := by simp
  generalize W.alloc (.cells #[.int .i8 0, .int .i64 0, .int .i64 0, .int .i64 0, .int .i64 0] 40) = w1 at S0 A0 hlt ⊢
  have HS0 := Lib.hid S0.drew
  have A1 : AInv p K w1.drew := A0.below ⟨rfl, rfl, rfl, Nat.le_refl _, fun _ _ => rfl⟩
  have HCALL := Lib.hid (HLL.out w1.drew A1)
  obtain ⟨s0, s1, s2, s3, s4, s5, s6⟩ := S0
  clear c0 y0 y1 y2 y3 y4 HLL HA A0 A1 lg lp
  go_region_held3 (fun W' => W'.cell? ⟨W.heap.size, 0, none⟩ = some (.int .i8 0) ∧ W'.cell? ⟨W.heap.size, 1, none⟩ = some (.int .i64 0) ∧ W'.cell? ⟨W.heap.size, 2, none⟩ = some (.int .i64 0) ∧ W'.cell? ⟨W.heap.size, 3, none⟩ = some (.int .i64 0) ∧ W'.cell? ⟨W.heap.size, 4, none⟩ = some (.int .i64 0) ∧ W.grownBy W' (some p.bm) ∧ AInv p (K + 1) W')
    ((first | (refine WSt.drew ?_; (refine ⟨?_, ?_, ?_, ?_, ?_, ?_, ?_⟩ <;> assumption)) | (refine ⟨?_, ?_, ?_, ?_, ?_, ?_, ?_⟩ <;> assumption)))
    (first | (go_at_call 12; ((with_reducible refine HCALL.out.mono ?_); rintro e1' w5 ⟨rfl, hg5, hA5⟩; have HS5 := Lib.hid (WSt.call HS0.out hbm hg5 hA5); obtain ⟨u0, u1, u2, u3, u4, u5, u6⟩ := HS5.out; have hl5 : W.heap.size < w5.heap.size := Nat.lt_of_lt_of_le hlt hg5.size)) | (go_at_call 95; ((with_reducible refine (HI.out _).mono ?_); rintro e1' w6 ⟨rfl, hb6⟩; have HS6 := Lib.hid (WSt.bel HS5.out hbm hb6); obtain ⟨v0, v1, v2, v3, v4, v5, v6⟩ := HS6.out)))
  all_goals
    go_wp2
    go_ret
    exact ⟨rfl, HS6.out.2.2.2.2.2.1, HS6.out.2.2.2.2.2.2⟩
set_option maxRecDepth 100000 in
set_option maxHeartbeats 4000000 in
theorem a_wish_most2 (p : Pl) (K : Nat) (W : World) (A : AInv p K W) (v : Int) (hv : 0 ≤ v ∧ v ≤ 4096)
    (HL : ∀ W', AInv p K W' → Calls Tryz.prog 12 #[.pointer (some ⟨p.pm, 0, none⟩), .int .i64 2] W' (APost v p (K + 1) W')) :
    Calls Tryz.prog 94 #[.pointer (some ⟨p.pm, 0, none⟩), .int .i64 2, .func (.func 12) #[.pointer (some ⟨p.pm, 0, none⟩)] #[]] W (APost v p (K + 1) W) := by
  have c0 := A.m.c0
  have y0 : W.cell? ⟨p.g, 72, none⟩ = some (.int .i8 0) := A.n2.w0
  have y1 : W.cell? ⟨p.g, 73, none⟩ = some (.int .i64 0) := A.n2.w1
  have y2 : W.cell? ⟨p.g, 74, none⟩ = some (.int .i64 0) := A.n2.w2
  have y3 : W.cell? ⟨p.g, 75, none⟩ = some (.int .i64 0) := A.n2.w3
  have y4 : W.cell? ⟨p.g, 76, none⟩ = some (.int .i64 0) := A.n2.w4
  have lg := A.m.lg
  have lp := A.m.lp
  have hbm : W.heap.size ≠ p.bm := Nat.ne_of_gt A.m.lm
  have hv0 : max v 0 = v := by omega
  have HI := Lib.hid fun W => into_zero v W
  rw [hv0] at HI
  have HLL := Lib.hid HL
  have HA := Lib.hid A
  clear HL A hv0
  go_enter Tryz.func94, Tryz.ntmps94
  go_upto_region 4 with (fail)
  have S0 : WSt W W.heap.size p (K + 1) (W.alloc (.cells #[.int .i8 0, .int .i64 0, .int .i64 0, .int .i64 0, .int .i64 0] 40)) := ⟨cell_newB _ _ _ _ _ rfl, cell_newB _ _ _ _ _ rfl, cell_newB _ _ _ _ _ rfl, cell_newB _ _ _ _ _ rfl, cell_newB _ _ _ _ _ rfl, World.grownBy_alloc _ _ _, (HA.out.below (Below.alloc (Below.refl _ _) (Nat.le_refl _) _)).mono (Nat.le_succ _)⟩
  have A0 : AInv p K (W.alloc (.cells #[.int .i8 0, .int .i64 0, .int .i64 0, .int .i64 0, .int .i64 0] 40)) := HA.out.below (Below.alloc (Below.refl _ _) (Nat.le_refl _) _)
  have hlt : W.heap.size < (W.alloc (.cells #[.int .i8 0, .int .i64 0, .int .i64 0, .int .i64 0, .int .i64 0] 40)).heap.size := by simp
  generalize W.alloc (.cells #[.int .i8 0, .int .i64 0, .int .i64 0, .int .i64 0, .int .i64 0] 40) = w1 at S0 A0 hlt ⊢
  have HS0 := Lib.hid S0.drew
  have A1 : AInv p K w1.drew := A0.below ⟨rfl, rfl, rfl, Nat.le_refl _, fun _ _ => rfl⟩
  have HCALL := Lib.hid (HLL.out w1.drew A1)
  obtain ⟨s0, s1, s2, s3, s4, s5, s6⟩ := S0
  clear c0 y0 y1 y2 y3 y4 HLL HA A0 A1 lg lp
  go_region_held3 (fun W' => W'.cell? ⟨W.heap.size, 0, none⟩ = some (.int .i8 0) ∧ W'.cell? ⟨W.heap.size, 1, none⟩ = some (.int .i64 0) ∧ W'.cell? ⟨W.heap.size, 2, none⟩ = some (.int .i64 0) ∧ W'.cell? ⟨W.heap.size, 3, none⟩ = some (.int .i64 0) ∧ W'.cell? ⟨W.heap.size, 4, none⟩ = some (.int .i64 0) ∧ W.grownBy W' (some p.bm) ∧ AInv p (K + 1) W')
    ((first | (refine WSt.drew ?_; (refine ⟨?_, ?_, ?_, ?_, ?_, ?_, ?_⟩ <;> assumption)) | (refine ⟨?_, ?_, ?_, ?_, ?_, ?_, ?_⟩ <;> assumption)))
    (first | (go_at_call 12; ((with_reducible refine HCALL.out.mono ?_); rintro e1' w5 ⟨rfl, hg5, hA5⟩; have HS5 := Lib.hid (WSt.call HS0.out hbm hg5 hA5); obtain ⟨u0, u1, u2, u3, u4, u5, u6⟩ := HS5.out; have hl5 : W.heap.size < w5.heap.size := Nat.lt_of_lt_of_le hlt hg5.size)) | (go_at_call 95; ((with_reducible refine (HI.out _).mono ?_); rintro e1' w6 ⟨rfl, hb6⟩; have HS6 := Lib.hid (WSt.bel HS5.out hbm hb6); obtain ⟨v0, v1, v2, v3, v4, v5, v6⟩ := HS6.out)))
  all_goals
    go_wp2
    go_ret
    exact ⟨rfl, HS6.out.2.2.2.2.2.1, HS6.out.2.2.2.2.2.2⟩
set_option maxRecDepth 100000 in
set_option maxHeartbeats 4000000 in
theorem a_high1 (p : Pl) (K : Nat) (W : World) (A : AInv p K W) (x v : Int) (hv : 0 ≤ v ∧ v ≤ 4096)
    (HL : ∀ W', AInv p K W' → Calls Tryz.prog 10 #[.pointer (some ⟨p.pm, 0, none⟩), .int .i64 1, .int .i64 x] W' (APost v p (K + 1) W')) :
    Calls Tryz.prog 46 #[.pointer (some ⟨p.pm, 0, none⟩), .int .i64 1, .int .i64 x] W (APost v p (K + 1) W) := by
  have c0 := A.m.c0
  have y0 : W.cell? ⟨p.g, 43, none⟩ = some (.int .i8 0) := A.n1.h0
  have y1 : W.cell? ⟨p.g, 44, none⟩ = some (.int .i64 0) := A.n1.h1
  have y2 : W.cell? ⟨p.g, 45, none⟩ = some (.int .i64 0) := A.n1.h2
  have y3 : W.cell? ⟨p.g, 46, none⟩ = some (.int .i64 0) := A.n1.h3
  have y4 : W.cell? ⟨p.g, 47, none⟩ = some (.int .i64 0) := A.n1.h4
  have lg := A.m.lg
  have lp := A.m.lp
  have hbm : W.heap.size ≠ p.bm := Nat.ne_of_gt A.m.lm
  have hv0 : max v 0 = v := by omega
  have HI := Lib.hid fun W => into_zero v W
  rw [hv0] at HI
  have HLL := Lib.hid HL
  have HA := Lib.hid A
  clear HL A hv0
  go_enter Tryz.func46, Tryz.ntmps46
  go_upto_region 4 with (fail)
  have S0 : WSt W W.heap.size p (K + 1) (W.alloc (.cells #[.int .i8 0, .int .i64 0, .int .i64 0, .int .i64 0, .int .i64 0] 40)) := ⟨cell_newB _ _ _ _ _ rfl, cell_newB _ _ _ _ _ rfl, cell_newB _ _ _ _ _ rfl, cell_newB _ _ _ _ _ rfl, cell_newB _ _ _ _ _ rfl, World.grownBy_alloc _ _ _, (HA.out.below (Below.alloc (Below.refl _ _) (Nat.le_refl _) _)).mono (Nat.le_succ _)⟩
  have A0 : AInv p K (W.alloc (.cells #[.int .i8 0, .int .i64 0, .int .i64 0, .int .i64 0, .int .i64 0] 40)) := HA.out.below (Below.alloc (Below.refl _ _) (Nat.le_refl _) _)
  have hlt : W.heap.size < (W.alloc (.cells #[.int .i8 0, .int .i64 0, .int .i64 0, .int .i64 0, .int .i64 0] 40)).heap.size := by simp
  generalize W.alloc (.cells #[.int .i8 0, .int .i64 0, .int .i64 0, .int .i64 0, .int .i64 0] 40) = w1 at S0 A0 hlt ⊢
  have HS0 := Lib.hid S0.drew
  have A1 : AInv p K w1.drew := A0.below ⟨rfl, rfl, rfl, Nat.le_refl _, fun _ _ => rfl⟩
  have HCALL := Lib.hid (HLL.out w1.drew A1)
  obtain ⟨s0, s1, s2, s3, s4, s5, s6⟩ := S0
  clear c0 y0 y1 y2 y3 y4 HLL HA A0 A1 lg lp
  go_region_held3 (fun W' => W'.cell? ⟨W.heap.size, 0, none⟩ = some (.int .i8 0) ∧ W'.cell? ⟨W.heap.size, 1, none⟩ = some (.int .i64 0) ∧ W'.cell? ⟨W.heap.size, 2, none⟩ = some (.int .i64 0) ∧ W'.cell? ⟨W.heap.size, 3, none⟩ = some (.int .i64 0) ∧ W'.cell? ⟨W.heap.size, 4, none⟩ = some (.int .i64 0) ∧ W.grownBy W' (some p.bm) ∧ AInv p (K + 1) W')
    ((first | (refine WSt.drew ?_; (refine ⟨?_, ?_, ?_, ?_, ?_, ?_, ?_⟩ <;> assumption)) | (refine ⟨?_, ?_, ?_, ?_, ?_, ?_, ?_⟩ <;> assumption)))
    (first | (go_at_call 10; ((with_reducible refine HCALL.out.mono ?_); rintro e1' w5 ⟨rfl, hg5, hA5⟩; have HS5 := Lib.hid (WSt.call HS0.out hbm hg5 hA5); obtain ⟨u0, u1, u2, u3, u4, u5, u6⟩ := HS5.out; have hl5 : W.heap.size < w5.heap.size := Nat.lt_of_lt_of_le hlt hg5.size)) | (go_at_call 95; ((with_reducible refine (HI.out _).mono ?_); rintro e1' w6 ⟨rfl, hb6⟩; have HS6 := Lib.hid (WSt.bel HS5.out hbm hb6); obtain ⟨v0, v1, v2, v3, v4, v5, v6⟩ := HS6.out)))
  all_goals
    go_wp2
    go_ret
    exact ⟨rfl, HS6.out.2.2.2.2.2.1, HS6.out.2.2.2.2.2.2⟩
set_option maxRecDepth 100000 in
set_option maxHeartbeats 4000000 in
theorem a_high2 (p : Pl) (K : Nat) (W : World) (A : AInv p K W) (x v : Int) (hv : 0 ≤ v ∧ v ≤ 4096)
    (HL : ∀ W', AInv p K W' → Calls Tryz.prog 10 #[.pointer (some ⟨p.pm, 0, none⟩), .int .i64 2, .int .i64 x] W' (APost v p (K + 1) W')) :
    Calls Tryz.prog 46 #[.pointer (some ⟨p.pm, 0, none⟩), .int .i64 2, .int .i64 x] W (APost v p (K + 1) W) := by
  have c0 := A.m.c0
  have y0 : W.cell? ⟨p.g, 77, none⟩ = some (.int .i8 0) := A.n2.h0
  have y1 : W.cell? ⟨p.g, 78, none⟩ = some (.int .i64 0) := A.n2.h1
  have y2 : W.cell? ⟨p.g, 79, none⟩ = some (.int .i64 0) := A.n2.h2
  have y3 : W.cell? ⟨p.g, 80, none⟩ = some (.int .i64 0) := A.n2.h3
  have y4 : W.cell? ⟨p.g, 81, none⟩ = some (.int .i64 0) := A.n2.h4
  have lg := A.m.lg
  have lp := A.m.lp
  have hbm : W.heap.size ≠ p.bm := Nat.ne_of_gt A.m.lm
  have hv0 : max v 0 = v := by omega
  have HI := Lib.hid fun W => into_zero v W
  rw [hv0] at HI
  have HLL := Lib.hid HL
  have HA := Lib.hid A
  clear HL A hv0
  go_enter Tryz.func46, Tryz.ntmps46
  go_upto_region 4 with (fail)
  have S0 : WSt W W.heap.size p (K + 1) (W.alloc (.cells #[.int .i8 0, .int .i64 0, .int .i64 0, .int .i64 0, .int .i64 0] 40)) := ⟨cell_newB _ _ _ _ _ rfl, cell_newB _ _ _ _ _ rfl, cell_newB _ _ _ _ _ rfl, cell_newB _ _ _ _ _ rfl, cell_newB _ _ _ _ _ rfl, World.grownBy_alloc _ _ _, (HA.out.below (Below.alloc (Below.refl _ _) (Nat.le_refl _) _)).mono (Nat.le_succ _)⟩
  have A0 : AInv p K (W.alloc (.cells #[.int .i8 0, .int .i64 0, .int .i64 0, .int .i64 0, .int .i64 0] 40)) := HA.out.below (Below.alloc (Below.refl _ _) (Nat.le_refl _) _)
  have hlt : W.heap.size < (W.alloc (.cells #[.int .i8 0, .int .i64 0, .int .i64 0, .int .i64 0, .int .i64 0] 40)).heap.size := by simp
  generalize W.alloc (.cells #[.int .i8 0, .int .i64 0, .int .i64 0, .int .i64 0, .int .i64 0] 40) = w1 at S0 A0 hlt ⊢
  have HS0 := Lib.hid S0.drew
  have A1 : AInv p K w1.drew := A0.below ⟨rfl, rfl, rfl, Nat.le_refl _, fun _ _ => rfl⟩
  have HCALL := Lib.hid (HLL.out w1.drew A1)
  obtain ⟨s0, s1, s2, s3, s4, s5, s6⟩ := S0
  clear c0 y0 y1 y2 y3 y4 HLL HA A0 A1 lg lp
  go_region_held3 (fun W' => W'.cell? ⟨W.heap.size, 0, none⟩ = some (.int .i8 0) ∧ W'.cell? ⟨W.heap.size, 1, none⟩ = some (.int .i64 0) ∧ W'.cell? ⟨W.heap.size, 2, none⟩ = some (.int .i64 0) ∧ W'.cell? ⟨W.heap.size, 3, none⟩ = some (.int .i64 0) ∧ W'.cell? ⟨W.heap.size, 4, none⟩ = some (.int .i64 0) ∧ W.grownBy W' (some p.bm) ∧ AInv p (K + 1) W')
    ((first | (refine WSt.drew ?_; (refine ⟨?_, ?_, ?_, ?_, ?_, ?_, ?_⟩ <;> assumption)) | (refine ⟨?_, ?_, ?_, ?_, ?_, ?_, ?_⟩ <;> assumption)))
    (first | (go_at_call 10; ((with_reducible refine HCALL.out.mono ?_); rintro e1' w5 ⟨rfl, hg5, hA5⟩; have HS5 := Lib.hid (WSt.call HS0.out hbm hg5 hA5); obtain ⟨u0, u1, u2, u3, u4, u5, u6⟩ := HS5.out; have hl5 : W.heap.size < w5.heap.size := Nat.lt_of_lt_of_le hlt hg5.size)) | (go_at_call 95; ((with_reducible refine (HI.out _).mono ?_); rintro e1' w6 ⟨rfl, hb6⟩; have HS6 := Lib.hid (WSt.bel HS5.out hbm hb6); obtain ⟨v0, v1, v2, v3, v4, v5, v6⟩ := HS6.out)))
  all_goals
    go_wp2
    go_ret
    exact ⟨rfl, HS6.out.2.2.2.2.2.1, HS6.out.2.2.2.2.2.2⟩
set_option maxRecDepth 100000 in
theorem a_lw1 (p : Pl) (K : Nat) (hK : K < 900000) (W : World) (A : AInv p K W) : Calls Tryz.prog 40 #[.pointer (some ⟨p.pm, 0, none⟩), .int .i64 1] W (APost (ff 1 0 0) p (K + 1) W) := by
  have HW := Lib.hid (a_wish_least1 p K W A (ff 1 0 0) (by decide) fun W' A' => a_least p K hK W' A' 1 (by omega))
  clear A
  go_enter Tryz.func40, Tryz.ntmps40
  go_wp2_with (go_at_call 94; ((with_reducible refine HW.out.mono ?_); rintro e1' w2 ⟨rfl, hg2, hA2⟩))
  go_ret
  exact ⟨rfl, hg2, hA2⟩
set_option maxRecDepth 100000 in
theorem a_lw2 (p : Pl) (K : Nat) (hK : K < 900000) (W : World) (A : AInv p K W) : Calls Tryz.prog 40 #[.pointer (some ⟨p.pm, 0, none⟩), .int .i64 2] W (APost (ff 2 0 0) p (K + 1) W) := by
  have HW := Lib.hid (a_wish_least2 p K W A (ff 2 0 0) (by decide) fun W' A' => a_least p K hK W' A' 2 (by omega))
  clear A
  go_enter Tryz.func40, Tryz.ntmps40
  go_wp2_with (go_at_call 94; ((with_reducible refine HW.out.mono ?_); rintro e1' w2 ⟨rfl, hg2, hA2⟩))
  go_ret
  exact ⟨rfl, hg2, hA2⟩
set_option maxRecDepth 100000 in
theorem a_mw1 (p : Pl) (K : Nat) (hK : K < 900000) (W : World) (A : AInv p K W) : Calls Tryz.prog 41 #[.pointer (some ⟨p.pm, 0, none⟩), .int .i64 1] W (APost (ff 1 1 0) p (K + 1) W) := by
  have HW := Lib.hid (a_wish_most1 p K W A (ff 1 1 0) (by decide) fun W' A' => a_most p K hK W' A' 1 (by omega))
  clear A
  go_enter Tryz.func41, Tryz.ntmps41
  go_wp2_with (go_at_call 94; ((with_reducible refine HW.out.mono ?_); rintro e1' w2 ⟨rfl, hg2, hA2⟩))
  go_ret
  exact ⟨rfl, hg2, hA2⟩
set_option maxRecDepth 100000 in
theorem a_mw2 (p : Pl) (K : Nat) (hK : K < 900000) (W : World) (A : AInv p K W) : Calls Tryz.prog 41 #[.pointer (some ⟨p.pm, 0, none⟩), .int .i64 2] W (APost (ff 2 1 0) p (K + 1) W) := by
  have HW := Lib.hid (a_wish_most2 p K W A (ff 2 1 0) (by decide) fun W' A' => a_most p K hK W' A' 2 (by omega))
  clear A
  go_enter Tryz.func41, Tryz.ntmps41
  go_wp2_with (go_at_call 94; ((with_reducible refine HW.out.mono ?_); rintro e1' w2 ⟨rfl, hg2, hA2⟩))
  go_ret
  exact ⟨rfl, hg2, hA2⟩
theorem a_high (p : Pl) (K : Nat) (hK : K < 900000) (W : World) (A : AInv p K W) (n x : Int) (hn : (n = 1 ∧ x = 6) ∨ (n = 1 ∧ x = 3) ∨ (n = 2 ∧ x = 1)) : Calls Tryz.prog 46 #[.pointer (some ⟨p.pm, 0, none⟩), .int .i64 n, .int .i64 x] W (APost (ff n 2 x) p (K + 1) W) := by
  have h := fun W' A' => a_tall p K hK W' A' n x hn
  rcases hn with ⟨rfl, rfl⟩ | ⟨rfl, rfl⟩ | ⟨rfl, rfl⟩
  · exact a_high1 p K W A 6 _ (by decide) h
  · exact a_high1 p K W A 3 _ (by decide) h
  · exact a_high2 p K W A 1 _ (by decide) h
end Go.Proofs.YthhomflonpjbmaaGreatDoor
/-
  The walk of each at the row of two texts; a row's least width and most.
-/
namespace Go.Proofs.YthhomflonpjbmaaGreatDoor
open Go.RowKit Go.Maps
theorem grownBy_set (w : World) (b q : Nat) (v : Value) : w.grownBy (w.setCell ⟨b, q, none⟩ v) (some b) :=
  ⟨rfl, rfl, rfl, by simp [World.setCell], fun k _ hne => Below.heap_setCell w ⟨b, q, none⟩ v k (by intro e; exact hne (by rw [e]))⟩
/-- Another block's turning is nothing to the measure. -/
theorem AInv.other {p : Pl} {K b : Nat} {W W' : World} (h : AInv p K W) (hg : W.grownBy W' (some b)) (h1 : p.pm ≠ b) (h2 : p.g ≠ b) (h3 : p.bk ≠ b) (h4 : p.bm ≠ b) (h5 : p.kN ≠ b) : AInv p K W' :=
  ⟨h.m.kept hg (by simpa using h1) (by simpa using h3) (by simpa using h4), h.n0.grown hg (by simpa using h2), h.n1.grown hg (by simpa using h2), h.n2.grown hg (by simpa using h2), hg.cell h.q0 (by simpa using h5), hg.cell h.q1 (by simpa using h5), h.nq⟩
theorem AInv.lq {p : Pl} {K : Nat} {W : World} (h : AInv p K W) : p.kN < W.heap.size := World.block_lt_of_cell? W ⟨p.kN, 0, none⟩ h.q0
theorem AInv.set {p : Pl} {K b q : Nat} {W : World} {v : Value} (h : AInv p K W) (B : Nat) (hB : B ≤ b) (l1 : p.pm < B) (l2 : p.g < B) (l3 : p.bk < B) (l4 : p.bm < B) (l5 : p.kN < B) : AInv p K (W.setCell ⟨b, q, none⟩ v) :=
  h.other (grownBy_set W b q v) (by omega) (by omega) (by omega) (by omega) (by omega)
/-- Two numbers in a new slice; the measure's map alone has turned. -/
def EPost (v1 v2 : Int) (p : Pl) (K : Nat) (w : World) (e : Ending) (w' : World) : Prop :=
  ∃ b : Nat, e = .returned (.slice (some ⟨b, 0, none⟩) 2 2) ∧ w'.cell? ⟨b, 0, none⟩ = some (.int .i64 v1) ∧ w'.cell? ⟨b, 1, none⟩ = some (.int .i64 v2) ∧ w.heap.size ≤ b ∧ b < w'.heap.size ∧ w.grownBy w' (some p.bm) ∧ AInv p K w'
set_option maxRecDepth 100000 in
set_option maxHeartbeats 4000000 in
theorem a_each_l (p : Pl) (K : Nat) (hK : K < 800000) (W : World) (A : AInv p K W) :
    Calls Tryz.prog 38 #[.pointer (some ⟨p.g, 0, none⟩), .func (.func 40) #[.pointer (some ⟨p.pm, 0, none⟩)] #[]] W (EPost (ff 1 0 0) (ff 2 0 0) p (K + 2) W) := by
  have hmk : ∀ w, (Instr.makeSlice 38 (.int .i64 2) (.int .i64 2)).run Tryz.prog w = .ok (.slice (some ⟨w.heap.size, 0, none⟩) 2 2) (w.alloc (.cells #[.int .i64 0, .int .i64 0] 3)) := fun w => by kernel_rfl
  have kd : W.cell? ⟨p.g, 3, none⟩ = some (.slice (some ⟨p.kN, 0, none⟩) 2 p.kc) := A.n0.kids
  have q0 := A.q0
  have q1 := A.q1
  have lg := A.m.lg
  have lp := A.m.lp
  have lk := A.m.lk
  have lm := A.m.lm
  have lq := A.lq
  have d1 : ¬ p.g = W.heap.size := by omega
  have d2 : ¬ p.kN = W.heap.size := by omega
  have hA1 : AInv p K (W.alloc (.cells #[.int .i64 0, .int .i64 0] 3)) := A.below (Below.alloc (Below.refl _ _) (Nat.le_refl _) _)
  have HC1 := Lib.hid (a_lw1 p K (by omega) _ hA1)
  have hg1 : W.grownBy (W.alloc (.cells #[.int .i64 0, .int .i64 0] 3)) (some p.bm) := World.grownBy_alloc _ _ _
  have HG1 := Lib.hid hg1
  have HC2 : Hid (∀ W', AInv p (K + 1) W' → Calls Tryz.prog 40 #[.pointer (some ⟨p.pm, 0, none⟩), .int .i64 2] W' (APost (ff 2 0 0) p (K + 2) W')) := Lib.hid fun W' A' => a_lw2 p (K + 1) (by omega) W' A'
  clear A hA1 hg1
  go_enter Tryz.func38, Tryz.ntmps38
  go_wp2
  refine wp_loop_rounds 3 ?_
  rw [rounds_succ]
  go_wp2_with (go_at_call 40; ((with_reducible refine HC1.out.mono ?_); rintro e1' w2 ⟨rfl, hg2, hA2⟩; have s0 : w2.cell? ⟨W.heap.size, 0, none⟩ = some (.int .i64 0) := (hg2.cell (cell_newB _ _ _ _ _ rfl) (by simp; omega)); have s1 : w2.cell? ⟨W.heap.size, 1, none⟩ = some (.int .i64 0) := (hg2.cell (cell_newB _ _ _ _ _ rfl) (by simp; omega)); have fz : ∀ q, w2.frozen? ⟨W.heap.size, q, none⟩ = false := (fun q => (hg2.frozen_far ⟨W.heap.size, q, none⟩ (by simp) (by simp; omega)).trans (by simp)); have l2 : W.heap.size < w2.heap.size := (by have := hg2.size; simp at this; omega); have kd2 : w2.cell? ⟨p.g, 3, none⟩ = some (.slice (some ⟨p.kN, 0, none⟩) 2 p.kc) := hA2.n0.kids; have r0 := hA2.q0; have r1 := hA2.q1; have hA2' : AInv p (K + 1) (w2.setCell ⟨W.heap.size, 0, none⟩ (.int .i64 (ff 1 0 0))) := (hA2.set W.heap.size (Nat.le_refl _) lp lg lk lm lq); have HC2' := Lib.hid (HC2.out _ hA2'); have HG2 := Lib.hid (World.grownBy.andThen (World.grownBy.trans HG1.out hg2) (grownBy_set w2 W.heap.size 0 (.int .i64 (ff 1 0 0))) (fun j e => .inl (by have := Option.some.inj e; omega))); clear hA2 hA2'))
  rw [rounds_succ]
  go_wp2_with (go_at_call 40; ((with_reducible refine HC2'.out.mono ?_); rintro e1' w3 ⟨rfl, hg3, hA3⟩; have v0 : w3.cell? ⟨W.heap.size, 0, none⟩ = some (.int .i64 (ff 1 0 0)) := (hg3.cell (setCell_here w2 _ s0) (by simp; omega)); have v1 : w3.cell? ⟨W.heap.size, 1, none⟩ = some (.int .i64 0) := (hg3.cell ((setCell_far w2 _ (by decide)).trans s1) (by simp; omega)); have fz3 : ∀ q, w3.frozen? ⟨W.heap.size, q, none⟩ = false := (fun q => (hg3.frozen_far ⟨W.heap.size, q, none⟩ (by simp; omega) (by simp; omega)).trans (by rw [World.frozen?_setCell]; exact fz q)); have l3 : W.heap.size < w3.heap.size := (by have := hg3.size; simp at this; omega); have hA3' : AInv p (K + 2) (w3.setCell ⟨W.heap.size, 1, none⟩ (.int .i64 (ff 2 0 0))) := (hA3.set W.heap.size (Nat.le_refl _) lp lg lk lm lq); have HA3 := Lib.hid hA3'; have HG3 := Lib.hid (World.grownBy.andThen (World.grownBy.trans HG2.out hg3) (grownBy_set w3 W.heap.size 1 (.int .i64 (ff 2 0 0))) (fun j e => .inl (by have := Option.some.inj e; omega))); clear hA3 hA3'))
  rw [rounds_succ]
  go_wp2
  go_ret
  exact ⟨W.heap.size, rfl, (setCell_far w3 _ (by decide)).trans v0, setCell_here w3 _ v1, Nat.le_refl _, by simp [World.setCell]; omega, HG3.out, HA3.out⟩
set_option maxRecDepth 100000 in
set_option maxHeartbeats 4000000 in
theorem a_each_m (p : Pl) (K : Nat) (hK : K < 800000) (W : World) (A : AInv p K W) :
    Calls Tryz.prog 38 #[.pointer (some ⟨p.g, 0, none⟩), .func (.func 41) #[.pointer (some ⟨p.pm, 0, none⟩)] #[]] W (EPost (ff 1 1 0) (ff 2 1 0) p (K + 2) W) := by
  have hmk : ∀ w, (Instr.makeSlice 38 (.int .i64 2) (.int .i64 2)).run Tryz.prog w = .ok (.slice (some ⟨w.heap.size, 0, none⟩) 2 2) (w.alloc (.cells #[.int .i64 0, .int .i64 0] 3)) := fun w => by kernel_rfl
  have kd : W.cell? ⟨p.g, 3, none⟩ = some (.slice (some ⟨p.kN, 0, none⟩) 2 p.kc) := A.n0.kids
  have q0 := A.q0
  have q1 := A.q1
  have lg := A.m.lg
  have lp := A.m.lp
  have lk := A.m.lk
  have lm := A.m.lm
  have lq := A.lq
  have d1 : ¬ p.g = W.heap.size := by omega
  have d2 : ¬ p.kN = W.heap.size := by omega
  have hA1 : AInv p K (W.alloc (.cells #[.int .i64 0, .int .i64 0] 3)) := A.below (Below.alloc (Below.refl _ _) (Nat.le_refl _) _)
  have HC1 := Lib.hid (a_mw1 p K (by omega) _ hA1)
  have hg1 : W.grownBy (W.alloc (.cells #[.int .i64 0, .int .i64 0] 3)) (some p.bm) := World.grownBy_alloc _ _ _
  have HG1 := Lib.hid hg1
  have HC2 : Hid (∀ W', AInv p (K + 1) W' → Calls Tryz.prog 41 #[.pointer (some ⟨p.pm, 0, none⟩), .int .i64 2] W' (APost (ff 2 1 0) p (K + 2) W')) := Lib.hid fun W' A' => a_mw2 p (K + 1) (by omega) W' A'
  clear A hA1 hg1
  go_enter Tryz.func38, Tryz.ntmps38
  go_wp2
  refine wp_loop_rounds 3 ?_
  rw [rounds_succ]
  go_wp2_with (go_at_call 41; ((with_reducible refine HC1.out.mono ?_); rintro e1' w2 ⟨rfl, hg2, hA2⟩; have s0 : w2.cell? ⟨W.heap.size, 0, none⟩ = some (.int .i64 0) := (hg2.cell (cell_newB _ _ _ _ _ rfl) (by simp; omega)); have s1 : w2.cell? ⟨W.heap.size, 1, none⟩ = some (.int .i64 0) := (hg2.cell (cell_newB _ _ _ _ _ rfl) (by simp; omega)); have fz : ∀ q, w2.frozen? ⟨W.heap.size, q, none⟩ = false := (fun q => (hg2.frozen_far ⟨W.heap.size, q, none⟩ (by simp) (by simp; omega)).trans (by simp)); have l2 : W.heap.size < w2.heap.size := (by have := hg2.size; simp at this; omega); have kd2 : w2.cell? ⟨p.g, 3, none⟩ = some (.slice (some ⟨p.kN, 0, none⟩) 2 p.kc) := hA2.n0.kids; have r0 := hA2.q0; have r1 := hA2.q1; have hA2' : AInv p (K + 1) (w2.setCell ⟨W.heap.size, 0, none⟩ (.int .i64 (ff 1 1 0))) := (hA2.set W.heap.size (Nat.le_refl _) lp lg lk lm lq); have HC2' := Lib.hid (HC2.out _ hA2'); have HG2 := Lib.hid (World.grownBy.andThen (World.grownBy.trans HG1.out hg2) (grownBy_set w2 W.heap.size 0 (.int .i64 (ff 1 1 0))) (fun j e => .inl (by have := Option.some.inj e; omega))); clear hA2 hA2'))
  rw [rounds_succ]
  go_wp2_with (go_at_call 41; ((with_reducible refine HC2'.out.mono ?_); rintro e1' w3 ⟨rfl, hg3, hA3⟩; have v0 : w3.cell? ⟨W.heap.size, 0, none⟩ = some (.int .i64 (ff 1 1 0)) := (hg3.cell (setCell_here w2 _ s0) (by simp; omega)); have v1 : w3.cell? ⟨W.heap.size, 1, none⟩ = some (.int .i64 0) := (hg3.cell ((setCell_far w2 _ (by decide)).trans s1) (by simp; omega)); have fz3 : ∀ q, w3.frozen? ⟨W.heap.size, q, none⟩ = false := (fun q => (hg3.frozen_far ⟨W.heap.size, q, none⟩ (by simp; omega) (by simp; omega)).trans (by rw [World.frozen?_setCell]; exact fz q)); have l3 : W.heap.size < w3.heap.size := (by have := hg3.size; simp at this; omega); have hA3' : AInv p (K + 2) (w3.setCell ⟨W.heap.size, 1, none⟩ (.int .i64 (ff 2 1 0))) := (hA3.set W.heap.size (Nat.le_refl _) lp lg lk lm lq); have HA3 := Lib.hid hA3'; have HG3 := Lib.hid (World.grownBy.andThen (World.grownBy.trans HG2.out hg3) (grownBy_set w3 W.heap.size 1 (.int .i64 (ff 2 1 0))) (fun j e => .inl (by have := Option.some.inj e; omega))); clear hA3 hA3'))
  rw [rounds_succ]
  go_wp2
  go_ret
  exact ⟨W.heap.size, rfl, (setCell_far w3 _ (by decide)).trans v0, setCell_here w3 _ v1, Nat.le_refl _, by simp [World.setCell]; omega, HG3.out, HA3.out⟩
abbrev GSt (w : World) (p : Pl) (K : Nat) (W : World) : Prop := W.cell? ⟨p.g, 14, none⟩ = some (.int .i64 1) ∧ w.grownBy W (some p.bm) ∧ AInv p K W
theorem GSt.drew {w : World} {p : Pl} {K : Nat} {W : World} (h : GSt w p K W) : GSt w p K W.drew := ⟨h.1, World.grownBy.trans h.2.1 (grownBy_drew _ _), h.2.2.below ⟨rfl, rfl, rfl, Nat.le_refl _, fun _ _ => rfl⟩⟩
set_option maxRecDepth 100000 in
set_option maxHeartbeats 4000000 in
theorem a_row_least (p : Pl) (K : Nat) (hK : K < 800000) (W : World) (A : AInv p K W) (n : Int) :
    Calls Tryz.prog 51 #[.pointer (some ⟨p.pm, 0, none⟩), .pointer (some ⟨p.g, 0, none⟩), .int .i64 n] W (APost 5 p (K + 2) W) := by
  have S0 : GSt W p (K + 2) W := ⟨A.n0.gap, World.grownBy.refl _ _, A.mono (by omega)⟩
  have HCALL := Lib.hid (a_each_l p K hK W.drew (A.below ⟨rfl, rfl, rfl, Nat.le_refl _, fun _ _ => rfl⟩))
  have HCALL0 := Lib.hid (a_each_l p K hK W A)
  have lg := A.m.lg
  obtain ⟨s0, s1, s2⟩ := S0
  clear A
  go_enter Tryz.func51, Tryz.ntmps51
  go_upto_region 1 with (fail)
  go_region_held3 (fun W' => W'.cell? ⟨p.g, 14, none⟩ = some (.int .i64 1) ∧ W.grownBy W' (some p.bm) ∧ AInv p (K + 2) W')
    ((first | (refine GSt.drew ?_; (refine ⟨?_, ?_, ?_⟩ <;> assumption)) | (refine ⟨?_, ?_, ?_⟩ <;> assumption)))
    (first | (go_at_call 38; ((with_reducible refine HCALL.out.mono ?_); rintro e1' w5 ⟨b, rfl, hv1, hv2, hb1, hb2, hg5, hA5⟩; have HS5 : Hid (GSt W p (K + 2) w5) := Lib.hid ⟨hA5.n0.gap, World.grownBy.trans (grownBy_drew _ _) hg5, hA5⟩; obtain ⟨u0, u1, u2⟩ := HS5.out; have HSM := Lib.hid (sum_two w5 b 0 2 _ _ (by decide) (by decide) hv1 hv2))) | (go_at_call 44; ((with_reducible refine HSM.out.mono ?_); rintro e1' w6 ⟨rfl, hb6⟩; have HS6 : Hid (GSt W p (K + 2) w6) := Lib.hid ⟨(HS5.out.2.2.below hb6).n0.gap, grownBy_then HS5.out.2.1 hb6, HS5.out.2.2.below hb6⟩; obtain ⟨v0, v1, v2⟩ := HS6.out)))
  all_goals
    go_wp2
    go_ret
    exact ⟨rfl, HS6.out.2.1, HS6.out.2.2⟩
set_option maxRecDepth 100000 in
set_option maxHeartbeats 4000000 in
theorem a_row_most (p : Pl) (K : Nat) (hK : K < 800000) (W : World) (A : AInv p K W) (n : Int) :
    Calls Tryz.prog 52 #[.pointer (some ⟨p.pm, 0, none⟩), .pointer (some ⟨p.g, 0, none⟩), .int .i64 n] W (APost 8 p (K + 2) W) := by
  have S0 : GSt W p (K + 2) W := ⟨A.n0.gap, World.grownBy.refl _ _, A.mono (by omega)⟩
  have HCALL := Lib.hid (a_each_m p K hK W.drew (A.below ⟨rfl, rfl, rfl, Nat.le_refl _, fun _ _ => rfl⟩))
  have HCALL0 := Lib.hid (a_each_m p K hK W A)
  have lg := A.m.lg
  obtain ⟨s0, s1, s2⟩ := S0
  clear A
  go_enter Tryz.func52, Tryz.ntmps52
  go_upto_region 1 with (fail)
  go_region_held3 (fun W' => W'.cell? ⟨p.g, 14, none⟩ = some (.int .i64 1) ∧ W.grownBy W' (some p.bm) ∧ AInv p (K + 2) W')
    ((first | (refine GSt.drew ?_; (refine ⟨?_, ?_, ?_⟩ <;> assumption)) | (refine ⟨?_, ?_, ?_⟩ <;> assumption)))
    (first | (go_at_call 38; ((with_reducible refine HCALL.out.mono ?_); rintro e1' w5 ⟨b, rfl, hv1, hv2, hb1, hb2, hg5, hA5⟩; have HS5 : Hid (GSt W p (K + 2) w5) := Lib.hid ⟨hA5.n0.gap, World.grownBy.trans (grownBy_drew _ _) hg5, hA5⟩; obtain ⟨u0, u1, u2⟩ := HS5.out; have HSM := Lib.hid (sum_two w5 b 0 2 _ _ (by decide) (by decide) hv1 hv2))) | (go_at_call 44; ((with_reducible refine HSM.out.mono ?_); rintro e1' w6 ⟨rfl, hb6⟩; have HS6 : Hid (GSt W p (K + 2) w6) := Lib.hid ⟨(HS5.out.2.2.below hb6).n0.gap, grownBy_then HS5.out.2.1 hb6, HS5.out.2.2.below hb6⟩; obtain ⟨v0, v1, v2⟩ := HS6.out)))
  all_goals
    go_wp2
    go_ret
    exact ⟨rfl, HS6.out.2.1, HS6.out.2.2⟩
end Go.Proofs.YthhomflonpjbmaaGreatDoor
/-
  The walks of solve's small functions: side, Right and into at two items, sum of two.
-/
namespace Go.Proofs.YthhomflonpjbmaaGreatDoor
open Go.RowKit
abbrev fix6 : Value := .agg #[.int .i8 1, .int .i64 6, .int .i64 0, .int .i64 3, .int .i64 0]
abbrev fix1 : Value := .agg #[.int .i8 1, .int .i64 1, .int .i64 0, .int .i64 1, .int .i64 0]
set_option maxRecDepth 100000 in
theorem sside_8 (w : World) : Calls Tryz.prog 126 #[.int .i64 8] w (VRet (.int .i64 8) w) := by
  go_enter Tryz.func126, Tryz.ntmps126
  go_wp2
  go_ret
  exact ⟨rfl, rfl⟩
set_option maxRecDepth 100000 in
theorem sside_5 (w : World) : Calls Tryz.prog 126 #[.int .i64 5] w (VRet (.int .i64 5) w) := by
  go_enter Tryz.func126, Tryz.ntmps126
  go_wp2
  go_ret
  exact ⟨rfl, rfl⟩
set_option maxRecDepth 100000 in
theorem sside_1 (w : World) : Calls Tryz.prog 126 #[.int .i64 1] w (VRet (.int .i64 1) w) := by
  go_enter Tryz.func126, Tryz.ntmps126
  go_wp2
  go_ret
  exact ⟨rfl, rfl⟩
set_option maxRecDepth 100000 in
set_option maxHeartbeats 4000000 in
theorem right_fix6 (w : World) : Calls Tryz.prog 91 #[fix6] w (VBel (.bool true) w) := by
  go_enter Tryz.func91, Tryz.ntmps91
  go_wp2
  go_ret
  refine ⟨rfl, ?_⟩
  go_split_ands
  (repeat (first | exact Below.refl _ _ | assumption | refine below_drewN ?_ _ | refine Below.drew ?_ | (refine Below.alloc ?_ ?bs _; (case bs => first | omega | (simp; done) | (simp; omega))) | (refine Below.setCell ?_ ?bs _; (case bs => first | omega | (simp; done) | (simp; omega)))))
set_option maxRecDepth 100000 in
set_option maxHeartbeats 4000000 in
theorem right_fix1 (w : World) : Calls Tryz.prog 91 #[fix1] w (VBel (.bool true) w) := by
  go_enter Tryz.func91, Tryz.ntmps91
  go_wp2
  go_ret
  refine ⟨rfl, ?_⟩
  go_split_ands
  (repeat (first | exact Below.refl _ _ | assumption | refine below_drewN ?_ _ | refine Below.drew ?_ | (refine Below.alloc ?_ ?bs _; (case bs => first | omega | (simp; done) | (simp; omega))) | (refine Below.setCell ?_ ?bs _; (case bs => first | omega | (simp; done) | (simp; omega)))))
set_option maxRecDepth 100000 in
theorem sinto_fix6 (w : World) : Calls Tryz.prog 127 #[.int .i64 6, fix6] w (VBel (.int .i64 6) w) := by
  go_enter Tryz.func127, Tryz.ntmps127
  go_wp2
  go_ret
  refine ⟨rfl, ?_⟩
  (repeat (first | exact Below.refl _ _ | assumption | refine below_drewN ?_ _ | refine Below.drew ?_ | (refine Below.alloc ?_ ?bs _; (case bs => first | omega | (simp; done) | (simp; omega))) | (refine Below.setCell ?_ ?bs _; (case bs => first | omega | (simp; done) | (simp; omega)))))
set_option maxRecDepth 100000 in
theorem sinto_fix1 (w : World) : Calls Tryz.prog 127 #[.int .i64 1, fix1] w (VBel (.int .i64 1) w) := by
  go_enter Tryz.func127, Tryz.ntmps127
  go_wp2
  go_ret
  refine ⟨rfl, ?_⟩
  (repeat (first | exact Below.refl _ _ | assumption | refine below_drewN ?_ _ | refine Below.drew ?_ | (refine Below.alloc ?_ ?bs _; (case bs => first | omega | (simp; done) | (simp; omega))) | (refine Below.setCell ?_ ?bs _; (case bs => first | omega | (simp; done) | (simp; omega)))))
set_option maxRecDepth 100000 in
theorem ssum_two (w : World) (g o c : Nat) (a b : Int) (ha : 0 ≤ a ∧ a ≤ 4096) (hb : 0 ≤ b ∧ b ≤ 4096) (h1 : w.cell? ⟨g, o, none⟩ = some (.int .i64 a)) (h2 : w.cell? ⟨g, o + 1, none⟩ = some (.int .i64 b)) :
    Calls Tryz.prog 128 #[.slice (some ⟨g, o, none⟩) 2 c] w (VBel (.int .i64 (a + b)) w) := by
  go_enter Tryz.func128, Tryz.ntmps128
  go_wp2
  refine wp_loop_rounds 3 ?_
  repeat any_goals (rw [rounds_succ]; go_wp2)
  go_wp2
  go_ret
  refine ⟨by simp, ?_⟩
  (repeat (first | exact Below.refl _ _ | assumption | refine below_drewN ?_ _ | refine Below.drew ?_ | (refine Below.alloc ?_ ?bs _; (case bs => first | omega | (simp; done) | (simp; omega))) | (refine Below.setCell ?_ ?bs _; (case bs => first | omega | (simp; done) | (simp; omega)))))
end Go.Proofs.YthhomflonpjbmaaGreatDoor
/-
  The walks of the stable sort at two equal ones, topped at nothing left, share.
-/
namespace Go.Proofs.YthhomflonpjbmaaGreatDoor
open Go.RowKit
/-- Two numbers lie at this place. -/
abbrev Two (w : World) (b : Nat) (x y : Int) : Prop := w.cell? ⟨b, 0, none⟩ = some (.int .i64 x) ∧ w.cell? ⟨b, 1, none⟩ = some (.int .i64 y)
def VDrew (v : Value) (w : World) (e : Ending) (w' : World) : Prop := e = .returned v ∧ ∃ m, w' = w.drewN m
set_option maxRecDepth 100000 in
set_option maxHeartbeats 4000000 in
theorem topped1_any (w : World) (bx rb : Nat) (h0 : w.cell? ⟨bx, 0, none⟩ = some (.slice (some ⟨rb, 0, none⟩) 2 2)) (r0 : w.cell? ⟨rb, 0, none⟩ = some (.int .i64 0)) (r1 : w.cell? ⟨rb, 1, none⟩ = some (.int .i64 0)) :
    Calls Tryz.prog 175 #[.int .i64 1, .int .i64 0, .pointer (some ⟨bx, 0, none⟩)] w (fun e w' => e = .returned (.int .i64 0) ∧ ∃ m, w' = w.drewN m) := by
  go_enter Tryz.func175, Tryz.ntmps175
  go_upto_region 1 with (fail)
  go_quiet (fail)
  go_wp2
  go_ret
  exact ⟨rfl, _, rfl⟩
set_option maxRecDepth 100000 in
set_option maxHeartbeats 4000000 in
theorem insertion_two (w : World) (ob bx rb : Nat) (o0 : w.cell? ⟨ob, 0, none⟩ = some (.int .i64 0)) (o1 : w.cell? ⟨ob, 1, none⟩ = some (.int .i64 1)) (h0 : w.cell? ⟨bx, 0, none⟩ = some (.slice (some ⟨rb, 0, none⟩) 2 2)) (r0 : w.cell? ⟨rb, 0, none⟩ = some (.int .i64 0)) (r1 : w.cell? ⟨rb, 1, none⟩ = some (.int .i64 0)) :
    Calls Tryz.prog 191 #[.slice (some ⟨ob, 0, none⟩) 2 2, .int .i64 0, .int .i64 2, .func (.func 175) #[] #[.pointer (some ⟨bx, 0, none⟩)]] w (fun e w' => e = .returned (.tuple #[]) ∧ ∃ m, w' = w.drewN m) := by
  have HT : ∀ m, Calls Tryz.prog 175 #[.int .i64 1, .int .i64 0, .pointer (some ⟨bx, 0, none⟩)] (w.drewN m) (fun e w' => e = .returned (.int .i64 0) ∧ ∃ m', w' = (w.drewN m).drewN m') := fun m => topped1_any (w.drewN m) bx rb h0 r0 r1
  have HTT := Lib.hid HT
  clear HT h0 r0 r1
  go_enter Tryz.func191, Tryz.ntmps191
  go_wp2
  refine wp_loop_rounds 2 ?_
  rw [rounds_succ]
  go_wp2
  refine wp_loop_rounds 1 ?_
  rw [rounds_succ]
  go_upto_region 4 with (fail)
  go_quiet ((go_at_call 175; exact Calls.quiet_of (HTT.out _)))
  go_wp2
  rw [rounds_succ]
  go_wp2
  go_end0
  first | exact ⟨rfl, 0, rfl⟩ | exact ⟨rfl, _, rfl⟩
set_option maxRecDepth 100000 in
set_option maxHeartbeats 4000000 in
theorem stable_two (w : World) (ob bx rb : Nat) (o0 : w.cell? ⟨ob, 0, none⟩ = some (.int .i64 0)) (o1 : w.cell? ⟨ob, 1, none⟩ = some (.int .i64 1)) (h0 : w.cell? ⟨bx, 0, none⟩ = some (.slice (some ⟨rb, 0, none⟩) 2 2)) (r0 : w.cell? ⟨rb, 0, none⟩ = some (.int .i64 0)) (r1 : w.cell? ⟨rb, 1, none⟩ = some (.int .i64 0)) :
    Calls Tryz.prog 184 #[.slice (some ⟨ob, 0, none⟩) 2 2, .int .i64 2, .func (.func 175) #[] #[.pointer (some ⟨bx, 0, none⟩)]] w (fun e w' => e = .returned (.tuple #[]) ∧ ∃ m, w' = w.drewN m) := by
  have HI := Lib.hid (insertion_two w ob bx rb o0 o1 h0 r0 r1)
  clear o0 o1 h0 r0 r1
  go_enter Tryz.func184, Tryz.ntmps184
  go_wp2
  refine wp_loop_rounds 1 ?_
  rw [rounds_succ]
  go_wp2_with (go_at_call 191; ((with_reducible refine HI.out.mono ?_); rintro e1' w2 ⟨rfl, m, rfl⟩))
  refine wp_loop_rounds 1 ?_
  rw [rounds_succ]
  go_wp2
  go_end0
  exact ⟨rfl, _, rfl⟩
set_option maxRecDepth 100000 in
set_option maxHeartbeats 4000000 in
theorem sort_two (w : World) (ob bx rb : Nat) (o0 : w.cell? ⟨ob, 0, none⟩ = some (.int .i64 0)) (o1 : w.cell? ⟨ob, 1, none⟩ = some (.int .i64 1)) (h0 : w.cell? ⟨bx, 0, none⟩ = some (.slice (some ⟨rb, 0, none⟩) 2 2)) (r0 : w.cell? ⟨rb, 0, none⟩ = some (.int .i64 0)) (r1 : w.cell? ⟨rb, 1, none⟩ = some (.int .i64 0)) :
    Calls Tryz.prog 174 #[.slice (some ⟨ob, 0, none⟩) 2 2, .func (.func 175) #[] #[.pointer (some ⟨bx, 0, none⟩)]] w (fun e w' => e = .returned (.tuple #[]) ∧ ∃ m, w' = w.drewN m) := by
  have HI := Lib.hid (stable_two w ob bx rb o0 o1 h0 r0 r1)
  clear o0 o1 h0 r0 r1
  go_enter Tryz.func174, Tryz.ntmps174
  go_wp2_with (go_at_call 184; ((with_reducible refine HI.out.mono ?_); rintro e1' w2 ⟨rfl, m, rfl⟩))
  go_end0
  exact ⟨rfl, _, rfl⟩
set_option maxRecDepth 100000 in
set_option maxHeartbeats 4000000 in
theorem topped_none (w : World) (ub rb : Nat) (r0 : w.cell? ⟨rb, 0, none⟩ = some (.int .i64 0)) (r1 : w.cell? ⟨rb, 1, none⟩ = some (.int .i64 0)) :
    Calls Tryz.prog 157 #[.slice (some ⟨ub, 0, none⟩) 2 2, .slice (some ⟨rb, 0, none⟩) 2 2, .int .i64 0] w (fun e w' => e = .returned (.tuple #[]) ∧ Below w.heap.size w w') := by
  have hmk : ∀ w, (Instr.makeSlice 38 (.int .i64 2) (.int .i64 2)).run Tryz.prog w = .ok (.slice (some ⟨w.heap.size, 0, none⟩) 2 2) (w.alloc (.cells #[.int .i64 0, .int .i64 0] 3)) := fun w => by kernel_rfl
  have lr : rb < w.heap.size := World.block_lt_of_cell? w ⟨rb, 0, none⟩ r0
  have HS := Lib.hid (sort_two ((w.alloc (.cells #[.slice (some ⟨rb, 0, none⟩) 2 2] 38)).alloc (.cells #[.int .i64 0, .int .i64 1] 3)) (w.heap.size + 1) w.heap.size rb (cell_newB _ _ _ _ _ (by simp)) (cell_newB _ _ _ _ _ (by simp))
    ((World.cell?_alloc_lt _ _ ⟨w.heap.size, 0, none⟩ (by simp)).trans (cell_newB _ _ _ _ _ rfl))
    ((World.cell?_alloc_lt _ _ ⟨rb, 0, none⟩ (by simp; omega)).trans ((World.cell?_alloc_lt _ _ ⟨rb, 0, none⟩ lr).trans r0))
    ((World.cell?_alloc_lt _ _ ⟨rb, 1, none⟩ (by simp; omega)).trans ((World.cell?_alloc_lt _ _ ⟨rb, 1, none⟩ lr).trans r1)))
  go_enter Tryz.func157, Tryz.ntmps157
  go_wp2
  refine wp_loop_rounds 3 ?_
  rw [rounds_succ]
  go_wp2
  rw [rounds_succ]
  go_wp2
  rw [rounds_succ]
  go_wp2_with (go_at_call 174; ((with_reducible refine HS.out.mono ?_); rintro e1' w2 ⟨rfl, m, rfl⟩))
  refine wp_loop_rounds 1 ?_
  rw [rounds_succ]
  go_wp2
  go_end0
  refine ⟨rfl, ?_⟩
  (repeat (first | exact Below.refl _ _ | assumption | refine below_drewN ?_ _ | refine Below.drew ?_ | (refine Below.alloc ?_ ?bs _; (case bs => first | omega | (simp; done) | (simp; omega))) | (refine Below.setCell ?_ ?bs _; (case bs => first | omega | (simp; done) | (simp; omega)))))
set_option maxRecDepth 100000 in
set_option maxHeartbeats 4000000 in
theorem share_30 (w : World) (ab : Nat) (a0 : w.cell? ⟨ab, 0, none⟩ = some (.int .i64 3)) (a1 : w.cell? ⟨ab, 1, none⟩ = some (.int .i64 0)) :
    Calls Tryz.prog 129 #[.int .i64 3, .slice (some ⟨ab, 0, none⟩) 2 2] w (fun e w' => ∃ b : Nat, e = .returned (.slice (some ⟨b, 0, none⟩) 2 2) ∧ w.heap.size ≤ b ∧ b < w'.heap.size ∧ Two w' b 3 0 ∧ Below w.heap.size w w') := by
  have hmk : ∀ w, (Instr.makeSlice 38 (.int .i64 2) (.int .i64 2)).run Tryz.prog w = .ok (.slice (some ⟨w.heap.size, 0, none⟩) 2 2) (w.alloc (.cells #[.int .i64 0, .int .i64 0] 3)) := fun w => by kernel_rfl
  have la : ab < w.heap.size := World.block_lt_of_cell? w ⟨ab, 0, none⟩ a0
  have HS1 := Lib.hid (ssum_two w ab 0 2 3 0 (by omega) (by omega) a0 a1)
  go_enter Tryz.func129, Tryz.ntmps129
  go_wp2_with (go_at_call 128; ((with_reducible refine HS1.out.mono ?_); rintro e1' w2 ⟨rfl, hb2⟩; obtain ⟨hc2, hf2⟩ := bcell hb2; have hz2 := hb2.size; have la2 : ab < w2.heap.size := (by omega)))
  refine wp_loop_rounds 3 ?_
  rw [rounds_succ]
  go_wp2
  rw [rounds_succ]
  go_wp2
  have HB2 := Lib.hid hb2
  have u0 : ((w2.alloc (.cells #[.int .i64 3, .int .i64 0] 3)).alloc (.cells #[.int .i64 0, .int .i64 0] 3)).cell? ⟨w2.heap.size, 0, none⟩ = some (.int .i64 3) := (World.cell?_alloc_lt _ _ ⟨w2.heap.size, 0, none⟩ (by simp)).trans (cell_newB _ _ _ _ _ rfl)
  have u1 : ((w2.alloc (.cells #[.int .i64 3, .int .i64 0] 3)).alloc (.cells #[.int .i64 0, .int .i64 0] 3)).cell? ⟨w2.heap.size, 1, none⟩ = some (.int .i64 0) := (World.cell?_alloc_lt _ _ ⟨w2.heap.size, 1, none⟩ (by simp)).trans (cell_newB _ _ _ _ _ rfl)
  have v0 : ((w2.alloc (.cells #[.int .i64 3, .int .i64 0] 3)).alloc (.cells #[.int .i64 0, .int .i64 0] 3)).cell? ⟨w2.heap.size + 1, 0, none⟩ = some (.int .i64 0) := cell_newB _ _ _ _ _ (by simp)
  have v1 : ((w2.alloc (.cells #[.int .i64 3, .int .i64 0] 3)).alloc (.cells #[.int .i64 0, .int .i64 0] 3)).cell? ⟨w2.heap.size + 1, 1, none⟩ = some (.int .i64 0) := cell_newB _ _ _ _ _ (by simp)
  have HSU := Lib.hid (ssum_two _ w2.heap.size 0 2 3 0 (by omega) (by omega) u0 u1)
  have HTO : Hid (∀ W', Below ((w2.alloc (.cells #[.int .i64 3, .int .i64 0] 3)).alloc (.cells #[.int .i64 0, .int .i64 0] 3)).heap.size ((w2.alloc (.cells #[.int .i64 3, .int .i64 0] 3)).alloc (.cells #[.int .i64 0, .int .i64 0] 3)) W' → Calls Tryz.prog 157 #[.slice (some ⟨w2.heap.size, 0, none⟩) 2 2, .slice (some ⟨w2.heap.size + 1, 0, none⟩) 2 2, .int .i64 0] W' (fun e w' => e = .returned (.tuple #[]) ∧ Below W'.heap.size W' w')) := Lib.hid fun W' hb => topped_none W' w2.heap.size (w2.heap.size + 1) ((hb.cell (p := ⟨w2.heap.size + 1, 0, none⟩) (by simp)).trans v0) ((hb.cell (p := ⟨w2.heap.size + 1, 1, none⟩) (by simp)).trans v1)
  have HU0 := Lib.hid u0
  have HU1 := Lib.hid u1
  have HBA : Hid (Below w.heap.size w ((w2.alloc (.cells #[.int .i64 3, .int .i64 0] 3)).alloc (.cells #[.int .i64 0, .int .i64 0] 3))) := Lib.hid (by (repeat (first | exact Below.refl _ _ | assumption | refine below_drewN ?_ _ | refine Below.drew ?_ | (refine Below.alloc ?_ ?bs _; (case bs => first | omega | (simp; done) | (simp; omega))) | (refine Below.setCell ?_ ?bs _; (case bs => first | omega | (simp; done) | (simp; omega))))))
  clear u0 u1 v0 v1 hc2 hf2 hb2
  rw [rounds_succ]
  go_wp2_with (first | (go_at_call 128; ((with_reducible refine HSU.out.mono ?_); rintro e1' w3 ⟨rfl, hb3⟩; have HB3 := Lib.hid hb3; clear hb3)) | (go_at_call 157; ((with_reducible refine (HTO.out _ HB3.out).mono ?_); rintro e1' w4 ⟨rfl, hb4⟩)))
  go_ret
  have hz3 := HB3.out.size
  have hz4 := hb4.size
  simp at hz3
  have hba : Below ((w2.alloc (.cells #[.int .i64 3, .int .i64 0] 3)).alloc (.cells #[.int .i64 0, .int .i64 0] 3)).heap.size ((w2.alloc (.cells #[.int .i64 3, .int .i64 0] 3)).alloc (.cells #[.int .i64 0, .int .i64 0] 3)) w4 := HB3.out.trans (hb4.mono HB3.out.size)
  exact ⟨w2.heap.size, rfl, hz2, by omega, ⟨(hba.cell (p := ⟨w2.heap.size, 0, none⟩) (by simp; omega)).trans HU0.out, (hba.cell (p := ⟨w2.heap.size, 1, none⟩) (by simp; omega)).trans HU1.out⟩, HBA.out.trans (hba.mono HBA.out.size)⟩
end Go.Proofs.YthhomflonpjbmaaGreatDoor
/-
  The walks of solve.fill and Sizes at the row's two items.
-/
namespace Go.Proofs.YthhomflonpjbmaaGreatDoor
open Go.RowKit
/-- The row's two items lie at this place. -/
structure Its (w : World) (b : Nat) : Prop where
  a0 : w.cell? ⟨b, 0, none⟩ = some (.int .i8 1)
  a1 : w.cell? ⟨b, 1, none⟩ = some (.int .i64 6)
  a2 : w.cell? ⟨b, 2, none⟩ = some (.int .i64 0)
  a3 : w.cell? ⟨b, 3, none⟩ = some (.int .i64 3)
  a4 : w.cell? ⟨b, 4, none⟩ = some (.int .i64 0)
  a5 : w.cell? ⟨b, 5, none⟩ = some (.int .i8 1)
  a6 : w.cell? ⟨b, 6, none⟩ = some (.int .i64 1)
  a7 : w.cell? ⟨b, 7, none⟩ = some (.int .i64 0)
  a8 : w.cell? ⟨b, 8, none⟩ = some (.int .i64 1)
  a9 : w.cell? ⟨b, 9, none⟩ = some (.int .i64 0)
theorem Its.below {w w' : World} {b B : Nat} (h : Its w b) (hb : Below B w w') (hB : b < B) : Its w' b := by
  have e : ∀ (q : Nat), w'.cell? ⟨b, q, none⟩ = w.cell? ⟨b, q, none⟩ := fun q => hb.cell (p := ⟨b, q, none⟩) hB
  obtain ⟨a0, a1, a2, a3, a4, a5, a6, a7, a8, a9⟩ := h
  constructor <;> (rw [e]; assumption)
set_option maxRecDepth 100000 in
set_option maxHeartbeats 4000000 in
theorem fill_two (w : World) (lb ub : Nat) (h : Its w lb) (u0 : w.cell? ⟨ub, 0, none⟩ = some (.int .i64 6)) (u1 : w.cell? ⟨ub, 1, none⟩ = some (.int .i64 1)) :
    Calls Tryz.prog 130 #[.slice (some ⟨lb, 0, none⟩) 2 2, .slice (some ⟨ub, 0, none⟩) 2 2, .int .i64 7] w (fun e w' => e = .returned (.tuple #[]) ∧ Below w.heap.size w w') := by
  have ll : lb < w.heap.size := World.block_lt_of_cell? w ⟨lb, 0, none⟩ h.a0
  have lu : ub < w.heap.size := World.block_lt_of_cell? w ⟨ub, 0, none⟩ u0
  obtain ⟨a0, a1, a2, a3, a4, a5, a6, a7, a8, a9⟩ := h
  go_enter Tryz.func130, Tryz.ntmps130
  go_wp2
  refine wp_loop_rounds 3 ?_
  rw [rounds_succ]
  go_wp2
  rw [rounds_succ]
  go_wp2
  rw [rounds_succ]
  go_wp2
  refine wp_loop_rounds 1 ?_
  rw [rounds_succ]
  go_wp2
  refine bodyPost_ret (results_none rfl _ _ _) rfl ?_
  refine ⟨rfl, ?_⟩
  (repeat (first | exact Below.refl _ _ | assumption | refine below_drewN ?_ _ | refine Below.drew ?_ | (refine Below.alloc ?_ ?bs _; (case bs => first | omega | (simp; done) | (simp; omega))) | (refine Below.setCell ?_ ?bs _; (case bs => first | omega | (simp; done) | (simp; omega)))))
abbrev itZ : Obj := .cells #[.int .i8 0, .int .i64 0, .int .i64 0, .int .i64 0, .int .i64 0, .int .i8 0, .int .i64 0, .int .i64 0, .int .i64 0, .int .i64 0] 40
abbrev twZ : Obj := .cells #[.int .i64 0, .int .i64 0] 3
theorem made_two (w : World) (b : Nat) (hb : b = w.heap.size) : Two (w.alloc twZ) b 0 0 := ⟨cell_newB _ _ _ _ _ hb, cell_newB _ _ _ _ _ hb⟩
theorem Two.alloc {w : World} {b : Nat} {x y : Int} (h : Two w b x y) (o : Obj) : Two (w.alloc o) b x y :=
  have hl : b < w.heap.size := World.block_lt_of_cell? w ⟨b, 0, none⟩ h.1
  ⟨(World.cell?_alloc_lt w o ⟨b, 0, none⟩ hl).trans h.1, (World.cell?_alloc_lt w o ⟨b, 1, none⟩ hl).trans h.2⟩
theorem made_items (w : World) : ∀ q, q < 10 → HasCell w.heap.size q (w.alloc itZ) := fun q hq => ⟨_, (World.cell?_alloc_new w _ _ q).trans (Array.getElem?_eq_getElem (by simpa using hq))⟩
theorem frozen_newB (w : World) (cs : Array Value) (t b j : Nat) (hb : b = w.heap.size) : (w.alloc (.cells cs t)).frozen? ⟨b, j, none⟩ = false := by subst hb; simp
theorem frozen_old (w : World) (o : Obj) (b j : Nat) (hb : b < w.heap.size) : (w.alloc o).frozen? ⟨b, j, none⟩ = w.frozen? ⟨b, j, none⟩ := World.frozen?_of_block (a := ⟨b, j, none⟩) (Below.heap_alloc w o b hb)
/-- Behind the making of Sizes' slices. -/
def SzCut (w : World) (s9 s10 s11 s12 : Value) (W : World) : Prop :=
  ∃ b9 b10 b11 b12 : Nat, s9 = .slice (some ⟨b9, 0, none⟩) 2 2 ∧ s10 = .slice (some ⟨b10, 0, none⟩) 2 2 ∧ s11 = .slice (some ⟨b11, 0, none⟩) 2 2 ∧ s12 = .slice (some ⟨b12, 0, none⟩) 2 2 ∧
    (∀ q, q < 10 → HasCell b9 q W) ∧ Two W b10 0 0 ∧ Two W b11 0 0 ∧ Two W b12 0 0 ∧
    (∀ q, W.frozen? ⟨b9, q, none⟩ = false) ∧ (∀ q, W.frozen? ⟨b10, q, none⟩ = false) ∧ (∀ q, W.frozen? ⟨b11, q, none⟩ = false) ∧ (∀ q, W.frozen? ⟨b12, q, none⟩ = false) ∧
    w.heap.size ≤ b9 ∧ w.heap.size ≤ b10 ∧ w.heap.size ≤ b11 ∧ w.heap.size ≤ b12 ∧ b9 < W.heap.size ∧ b10 < W.heap.size ∧ b11 < W.heap.size ∧ b12 < W.heap.size ∧ b9 ≠ b10 ∧ b9 ≠ b11 ∧ b9 ≠ b12 ∧ b10 ≠ b11 ∧ b10 ≠ b12 ∧ b11 ≠ b12 ∧ Below w.heap.size w W
set_option maxRecDepth 100000 in
set_option maxHeartbeats 4000000 in
theorem sizes_8 (w : World) (lb : Nat) (h : Its w lb) :
    Calls Tryz.prog 96 #[.slice (some ⟨lb, 0, none⟩) 2 2, .int .i64 8, .int .i64 1] w (fun e w' => ∃ b : Nat, e = .returned (.slice (some ⟨b, 0, none⟩) 2 2) ∧ w.heap.size ≤ b ∧ b < w'.heap.size ∧ Two w' b 6 1 ∧ Below w.heap.size w w') := by
  have hmk : ∀ w, (Instr.makeSlice 38 (.int .i64 2) (.int .i64 2)).run Tryz.prog w = .ok (.slice (some ⟨w.heap.size, 0, none⟩) 2 2) (w.alloc (.cells #[.int .i64 0, .int .i64 0] 3)) := fun w => by kernel_rfl
  have hmk2 : ∀ w, (Instr.makeSlice 44 (.int .i64 2) (.int .i64 2)).run Tryz.prog w = .ok (.slice (some ⟨w.heap.size, 0, none⟩) 2 2) (w.alloc (.cells #[.int .i8 0, .int .i64 0, .int .i64 0, .int .i64 0, .int .i64 0, .int .i8 0, .int .i64 0, .int .i64 0, .int .i64 0, .int .i64 0] 40)) := fun w => by kernel_rfl
  have ll : lb < w.heap.size := World.block_lt_of_cell? w ⟨lb, 0, none⟩ h.a0
  have HH := Lib.hid h
  clear h
  go_enter Tryz.func96, Tryz.ntmps96
  go_upto_region 6 with (go_at_call 126; ((with_reducible first | refine (sside_8 _).mono ?_ | refine (sside_1 _).mono ?_); rintro e1' w0 ⟨rfl, h0⟩; obtain rfl := h0.symm))
  go_cut [9, 10, 11, 12] (SzCut w)
  case first =>
    have fz : ∀ b, b < w.heap.size + 4 ∧ w.heap.size ≤ b → ∀ q, ((((w.alloc itZ).alloc twZ).alloc twZ).alloc twZ).frozen? ⟨b, q, none⟩ = false := fun b hb q => by
      by_cases h3 : b = w.heap.size + 3
      · exact frozen_newB _ _ _ _ _ (by simp; omega)
      rw [frozen_old _ _ _ _ (by simp; omega)]
      by_cases h2 : b = w.heap.size + 2
      · exact frozen_newB _ _ _ _ _ (by simp; omega)
      rw [frozen_old _ _ _ _ (by simp; omega)]
      by_cases h1 : b = w.heap.size + 1
      · exact frozen_newB _ _ _ _ _ (by simp; omega)
      rw [frozen_old _ _ _ _ (by simp; omega)]
      exact frozen_newB _ _ _ _ _ (by omega)
    have T1 : Two ((((w.alloc itZ).alloc twZ).alloc twZ).alloc twZ) (w.heap.size + 1) 0 0 := ((made_two (w.alloc itZ) _ (by simp)).alloc _).alloc _
    have T2 : Two ((((w.alloc itZ).alloc twZ).alloc twZ).alloc twZ) (w.heap.size + 1 + 1) 0 0 := (made_two ((w.alloc itZ).alloc twZ) _ (by simp)).alloc _
    have T3 : Two ((((w.alloc itZ).alloc twZ).alloc twZ).alloc twZ) (w.heap.size + 1 + 1 + 1) 0 0 := made_two (((w.alloc itZ).alloc twZ).alloc twZ) _ (by simp)
    have HT1 := Lib.hid T1
    have HT2 := Lib.hid T2
    have HT3 := Lib.hid T3
    have HFZ := Lib.hid fz
    clear T1 T2 T3 fz
    go_region
    all_goals
      go_wp2_with fail
      go_meet
      refine ⟨_, _, _, _, rfl, rfl, rfl, rfl, ?_, ?_, ?_, ?_, ?_, ?_, ?_, ?_, ?_, ?_, ?_, ?_, ?_, ?_, ?_, ?_, ?_, ?_, ?_, ?_, ?_, ?_, ?_⟩
      · exact fun q hq => (((made_items w q hq).alloc _).alloc _).alloc _
      iterate 3 (· first | exact HT1.out | exact HT2.out | exact HT3.out)
      iterate 4 (· exact HFZ.out _ (by omega))
      iterate 14 (· (try simp) <;> omega)
      · (repeat (first | exact Below.refl _ _ | assumption | refine below_drewN ?_ _ | refine Below.drew ?_ | (refine Below.alloc ?_ ?bs _; (case bs => first | omega | (simp; done) | (simp; omega))) | (refine Below.setCell ?_ ?bs _; (case bs => first | omega | (simp; done) | (simp; omega)))))
  case rest =>
  obtain ⟨b9, b10, b11, b12, rfl, rfl, rfl, rfl, k9, k10, k11, k12, f9, f10, f11, f12, m9, m10, m11, m12, l9, l10, l11, l12, d1, d2, d3, d4, d5, d6, hB⟩ := hcut
  have hmx : max (0 : Int) 7 = 7 := by decide
  obtain ⟨a0, a1, a2, a3, a4, a5, a6, a7, a8, a9⟩ := HH.out.below hB ll
  obtain ⟨k100, k101⟩ := k10
  obtain ⟨k110, k111⟩ := k11
  obtain ⟨k120, k121⟩ := k12
  have hwc := hB.size
  obtain ⟨i0, hi0⟩ := k9 0 (by omega)
  obtain ⟨i1, hi1⟩ := k9 1 (by omega)
  obtain ⟨i2, hi2⟩ := k9 2 (by omega)
  obtain ⟨i3, hi3⟩ := k9 3 (by omega)
  obtain ⟨i4, hi4⟩ := k9 4 (by omega)
  obtain ⟨i5, hi5⟩ := k9 5 (by omega)
  obtain ⟨i6, hi6⟩ := k9 6 (by omega)
  obtain ⟨i7, hi7⟩ := k9 7 (by omega)
  obtain ⟨i8, hi8⟩ := k9 8 (by omega)
  obtain ⟨i9, hi9⟩ := k9 9 (by omega)
  have e0 : ¬ b9 = b10 := by omega
  have e1 : ¬ b9 = b11 := by omega
  have e2 : ¬ b9 = b12 := by omega
  have e3 : ¬ b10 = b9 := by omega
  have e4 : ¬ b10 = b11 := by omega
  have e5 : ¬ b10 = b12 := by omega
  have e6 : ¬ b11 = b9 := by omega
  have e7 : ¬ b11 = b10 := by omega
  have e8 : ¬ b11 = b12 := by omega
  have e9 : ¬ b12 = b9 := by omega
  have e10 : ¬ b12 = b10 := by omega
  have e11 : ¬ b12 = b11 := by omega
  have e12 : ¬ lb = b9 := by omega
  have e13 : ¬ b9 = lb := by omega
  have e14 : ¬ lb = b10 := by omega
  have e15 : ¬ b10 = lb := by omega
  have e16 : ¬ lb = b11 := by omega
  have e17 : ¬ b11 = lb := by omega
  have e18 : ¬ lb = b12 := by omega
  have e19 : ¬ b12 = lb := by omega
  have lw : lb < wc.heap.size := by omega
  clear k9 d1 d2 d3 d4 d5 d6
  go_wp2
  refine wp_loop_rounds 3 ?_
  rw [rounds_succ]
  go_upto_region 20 with (first | (go_at_call 91; ((with_reducible refine (right_fix6 _).mono ?_); rintro e1' w2 ⟨rfl, hw2⟩; have hBw2 : Below w.heap.size w w2 := Below.trans (by (repeat (first | with_reducible exact Below.refl _ _ | with_reducible assumption | with_reducible refine below_drewN ?_ _ | with_reducible refine Below.drew ?_ | (with_reducible refine Below.alloc ?_ ?bs _; (case bs => first | omega | (simp; omega))) | (with_reducible refine Below.setCell ?_ ?bs _; (case bs => dsimp only; omega))))) (hw2.mono (by (try simp) <;> omega)); obtain ⟨hcw2, hfw2⟩ := bcell hw2; have hzw2 := hw2.size; (try simp at hzw2); have p0w2 : lb < w2.heap.size := (by omega); have p1w2 : b9 < w2.heap.size := (by omega); have p2w2 : b10 < w2.heap.size := (by omega); have p3w2 : b11 < w2.heap.size := (by omega); have p4w2 : b12 < w2.heap.size := (by omega); have cb90w2 : w2.cell? ⟨b9, 0, none⟩ = some (i0) := (by go_simp); have cb91w2 : w2.cell? ⟨b9, 1, none⟩ = some (i1) := (by go_simp); have cb92w2 : w2.cell? ⟨b9, 2, none⟩ = some (i2) := (by go_simp); have cb93w2 : w2.cell? ⟨b9, 3, none⟩ = some (i3) := (by go_simp); have cb94w2 : w2.cell? ⟨b9, 4, none⟩ = some (i4) := (by go_simp); have cb95w2 : w2.cell? ⟨b9, 5, none⟩ = some (i5) := (by go_simp); have cb96w2 : w2.cell? ⟨b9, 6, none⟩ = some (i6) := (by go_simp); have cb97w2 : w2.cell? ⟨b9, 7, none⟩ = some (i7) := (by go_simp); have cb98w2 : w2.cell? ⟨b9, 8, none⟩ = some (i8) := (by go_simp); have cb99w2 : w2.cell? ⟨b9, 9, none⟩ = some (i9) := (by go_simp); have clb0w2 : w2.cell? ⟨lb, 0, none⟩ = some (.int .i8 1) := (by go_simp); have clb1w2 : w2.cell? ⟨lb, 1, none⟩ = some (.int .i64 6) := (by go_simp); have clb2w2 : w2.cell? ⟨lb, 2, none⟩ = some (.int .i64 0) := (by go_simp); have clb3w2 : w2.cell? ⟨lb, 3, none⟩ = some (.int .i64 3) := (by go_simp); have clb4w2 : w2.cell? ⟨lb, 4, none⟩ = some (.int .i64 0) := (by go_simp); have clb5w2 : w2.cell? ⟨lb, 5, none⟩ = some (.int .i8 1) := (by go_simp); have clb6w2 : w2.cell? ⟨lb, 6, none⟩ = some (.int .i64 1) := (by go_simp); have clb7w2 : w2.cell? ⟨lb, 7, none⟩ = some (.int .i64 0) := (by go_simp); have clb8w2 : w2.cell? ⟨lb, 8, none⟩ = some (.int .i64 1) := (by go_simp); have clb9w2 : w2.cell? ⟨lb, 9, none⟩ = some (.int .i64 0) := (by go_simp); have cb100w2 : w2.cell? ⟨b10, 0, none⟩ = some (.int .i64 0) := (by go_simp); have cb101w2 : w2.cell? ⟨b10, 1, none⟩ = some (.int .i64 0) := (by go_simp); have cb110w2 : w2.cell? ⟨b11, 0, none⟩ = some (.int .i64 0) := (by go_simp); have cb111w2 : w2.cell? ⟨b11, 1, none⟩ = some (.int .i64 0) := (by go_simp); have cb120w2 : w2.cell? ⟨b12, 0, none⟩ = some (.int .i64 0) := (by go_simp); have cb121w2 : w2.cell? ⟨b12, 1, none⟩ = some (.int .i64 0) := (by go_simp); have cL0w2 : w2.cell? ⟨wc.heap.size, 0, none⟩ = some (.int .i8 1) := (by go_simp); have cL1w2 : w2.cell? ⟨wc.heap.size, 1, none⟩ = some (.int .i64 6) := (by go_simp); have cL2w2 : w2.cell? ⟨wc.heap.size, 2, none⟩ = some (.int .i64 0) := (by go_simp); have cL3w2 : w2.cell? ⟨wc.heap.size, 3, none⟩ = some (.int .i64 3) := (by go_simp); have cL4w2 : w2.cell? ⟨wc.heap.size, 4, none⟩ = some (.int .i64 0) := (by go_simp); have pLw2 : wc.heap.size < w2.heap.size := (by omega); have fb9w2 : ∀ q, w2.frozen? ⟨b9, q, none⟩ = false := (fun q => by go_simp); have fb10w2 : ∀ q, w2.frozen? ⟨b10, q, none⟩ = false := (fun q => by go_simp); have fb11w2 : ∀ q, w2.frozen? ⟨b11, q, none⟩ = false := (fun q => by go_simp); have fb12w2 : ∀ q, w2.frozen? ⟨b12, q, none⟩ = false := (fun q => by go_simp); clear hcw2 hfw2 hw2 a0 a1 a2 a3 a4 a5 a6 a7 a8 a9 k100 k101 k110 k111 k120 k121 hi0 hi1 hi2 hi3 hi4 hi5 hi6 hi7 hi8 hi9 f9 f10 f11 f12)) | (go_at_call 127; ((with_reducible refine (sinto_fix6 _).mono ?_); rintro e1' w3 ⟨rfl, hw3⟩; have hBw3 : Below w.heap.size w w3 := Below.trans (by (repeat (first | with_reducible exact Below.refl _ _ | with_reducible assumption | with_reducible refine below_drewN ?_ _ | with_reducible refine Below.drew ?_ | (with_reducible refine Below.alloc ?_ ?bs _; (case bs => first | omega | (simp; omega))) | (with_reducible refine Below.setCell ?_ ?bs _; (case bs => dsimp only; omega))))) (hw3.mono (by (try simp) <;> omega)); obtain ⟨hcw3, hfw3⟩ := bcell hw3; have hzw3 := hw3.size; (try simp at hzw3); have p0w3 : lb < w3.heap.size := (by omega); have p1w3 : b9 < w3.heap.size := (by omega); have p2w3 : b10 < w3.heap.size := (by omega); have p3w3 : b11 < w3.heap.size := (by omega); have p4w3 : b12 < w3.heap.size := (by omega); have cb90w3 : w3.cell? ⟨b9, 0, none⟩ = some (.int .i8 1) := (by go_simp); have cb91w3 : w3.cell? ⟨b9, 1, none⟩ = some (.int .i64 6) := (by go_simp); have cb92w3 : w3.cell? ⟨b9, 2, none⟩ = some (.int .i64 0) := (by go_simp); have cb93w3 : w3.cell? ⟨b9, 3, none⟩ = some (.int .i64 3) := (by go_simp); have cb94w3 : w3.cell? ⟨b9, 4, none⟩ = some (.int .i64 0) := (by go_simp); have cb95w3 : w3.cell? ⟨b9, 5, none⟩ = some (i5) := (by go_simp); have cb96w3 : w3.cell? ⟨b9, 6, none⟩ = some (i6) := (by go_simp); have cb97w3 : w3.cell? ⟨b9, 7, none⟩ = some (i7) := (by go_simp); have cb98w3 : w3.cell? ⟨b9, 8, none⟩ = some (i8) := (by go_simp); have cb99w3 : w3.cell? ⟨b9, 9, none⟩ = some (i9) := (by go_simp); have clb0w3 : w3.cell? ⟨lb, 0, none⟩ = some (.int .i8 1) := (by go_simp); have clb1w3 : w3.cell? ⟨lb, 1, none⟩ = some (.int .i64 6) := (by go_simp); have clb2w3 : w3.cell? ⟨lb, 2, none⟩ = some (.int .i64 0) := (by go_simp); have clb3w3 : w3.cell? ⟨lb, 3, none⟩ = some (.int .i64 3) := (by go_simp); have clb4w3 : w3.cell? ⟨lb, 4, none⟩ = some (.int .i64 0) := (by go_simp); have clb5w3 : w3.cell? ⟨lb, 5, none⟩ = some (.int .i8 1) := (by go_simp); have clb6w3 : w3.cell? ⟨lb, 6, none⟩ = some (.int .i64 1) := (by go_simp); have clb7w3 : w3.cell? ⟨lb, 7, none⟩ = some (.int .i64 0) := (by go_simp); have clb8w3 : w3.cell? ⟨lb, 8, none⟩ = some (.int .i64 1) := (by go_simp); have clb9w3 : w3.cell? ⟨lb, 9, none⟩ = some (.int .i64 0) := (by go_simp); have cb100w3 : w3.cell? ⟨b10, 0, none⟩ = some (.int .i64 3) := (by go_simp); have cb101w3 : w3.cell? ⟨b10, 1, none⟩ = some (.int .i64 0) := (by go_simp); have cb110w3 : w3.cell? ⟨b11, 0, none⟩ = some (.int .i64 0) := (by go_simp); have cb111w3 : w3.cell? ⟨b11, 1, none⟩ = some (.int .i64 0) := (by go_simp); have cb120w3 : w3.cell? ⟨b12, 0, none⟩ = some (.int .i64 0) := (by go_simp); have cb121w3 : w3.cell? ⟨b12, 1, none⟩ = some (.int .i64 0) := (by go_simp); have cL0w3 : w3.cell? ⟨wc.heap.size, 0, none⟩ = some (.int .i8 1) := (by go_simp); have cL1w3 : w3.cell? ⟨wc.heap.size, 1, none⟩ = some (.int .i64 6) := (by go_simp); have cL2w3 : w3.cell? ⟨wc.heap.size, 2, none⟩ = some (.int .i64 0) := (by go_simp); have cL3w3 : w3.cell? ⟨wc.heap.size, 3, none⟩ = some (.int .i64 3) := (by go_simp); have cL4w3 : w3.cell? ⟨wc.heap.size, 4, none⟩ = some (.int .i64 0) := (by go_simp); have pLw3 : wc.heap.size < w3.heap.size := (by omega); have fb9w3 : ∀ q, w3.frozen? ⟨b9, q, none⟩ = false := (fun q => by go_simp); have fb10w3 : ∀ q, w3.frozen? ⟨b10, q, none⟩ = false := (fun q => by go_simp); have fb11w3 : ∀ q, w3.frozen? ⟨b11, q, none⟩ = false := (fun q => by go_simp); have fb12w3 : ∀ q, w3.frozen? ⟨b12, q, none⟩ = false := (fun q => by go_simp); clear hcw3 hfw3 hw3 cb90w2 cb91w2 cb92w2 cb93w2 cb94w2 cb95w2 cb96w2 cb97w2 cb98w2 cb99w2 clb0w2 clb1w2 clb2w2 clb3w2 clb4w2 clb5w2 clb6w2 clb7w2 clb8w2 clb9w2 cb100w2 cb101w2 cb110w2 cb111w2 cb120w2 cb121w2 fb9w2 fb10w2 fb11w2 fb12w2)))
  go_region
  go_wp2
  rw [rounds_succ]
  go_upto_region 20 with (first | (go_at_call 91; ((with_reducible refine (right_fix1 _).mono ?_); rintro e1' w4 ⟨rfl, hw4⟩; have hBw4 : Below w.heap.size w w4 := Below.trans (by (repeat (first | with_reducible exact Below.refl _ _ | with_reducible assumption | with_reducible refine below_drewN ?_ _ | with_reducible refine Below.drew ?_ | (with_reducible refine Below.alloc ?_ ?bs _; (case bs => first | omega | (simp; omega))) | (with_reducible refine Below.setCell ?_ ?bs _; (case bs => dsimp only; omega))))) (hw4.mono (by (try simp) <;> omega)); obtain ⟨hcw4, hfw4⟩ := bcell hw4; have hzw4 := hw4.size; (try simp at hzw4); have p0w4 : lb < w4.heap.size := (by omega); have p1w4 : b9 < w4.heap.size := (by omega); have p2w4 : b10 < w4.heap.size := (by omega); have p3w4 : b11 < w4.heap.size := (by omega); have p4w4 : b12 < w4.heap.size := (by omega); have cb90w4 : w4.cell? ⟨b9, 0, none⟩ = some (.int .i8 1) := (by go_simp); have cb91w4 : w4.cell? ⟨b9, 1, none⟩ = some (.int .i64 6) := (by go_simp); have cb92w4 : w4.cell? ⟨b9, 2, none⟩ = some (.int .i64 0) := (by go_simp); have cb93w4 : w4.cell? ⟨b9, 3, none⟩ = some (.int .i64 3) := (by go_simp); have cb94w4 : w4.cell? ⟨b9, 4, none⟩ = some (.int .i64 0) := (by go_simp); have cb95w4 : w4.cell? ⟨b9, 5, none⟩ = some (i5) := (by go_simp); have cb96w4 : w4.cell? ⟨b9, 6, none⟩ = some (i6) := (by go_simp); have cb97w4 : w4.cell? ⟨b9, 7, none⟩ = some (i7) := (by go_simp); have cb98w4 : w4.cell? ⟨b9, 8, none⟩ = some (i8) := (by go_simp); have cb99w4 : w4.cell? ⟨b9, 9, none⟩ = some (i9) := (by go_simp); have clb0w4 : w4.cell? ⟨lb, 0, none⟩ = some (.int .i8 1) := (by go_simp); have clb1w4 : w4.cell? ⟨lb, 1, none⟩ = some (.int .i64 6) := (by go_simp); have clb2w4 : w4.cell? ⟨lb, 2, none⟩ = some (.int .i64 0) := (by go_simp); have clb3w4 : w4.cell? ⟨lb, 3, none⟩ = some (.int .i64 3) := (by go_simp); have clb4w4 : w4.cell? ⟨lb, 4, none⟩ = some (.int .i64 0) := (by go_simp); have clb5w4 : w4.cell? ⟨lb, 5, none⟩ = some (.int .i8 1) := (by go_simp); have clb6w4 : w4.cell? ⟨lb, 6, none⟩ = some (.int .i64 1) := (by go_simp); have clb7w4 : w4.cell? ⟨lb, 7, none⟩ = some (.int .i64 0) := (by go_simp); have clb8w4 : w4.cell? ⟨lb, 8, none⟩ = some (.int .i64 1) := (by go_simp); have clb9w4 : w4.cell? ⟨lb, 9, none⟩ = some (.int .i64 0) := (by go_simp); have cb100w4 : w4.cell? ⟨b10, 0, none⟩ = some (.int .i64 3) := (by go_simp); have cb101w4 : w4.cell? ⟨b10, 1, none⟩ = some (.int .i64 0) := (by go_simp); have cb110w4 : w4.cell? ⟨b11, 0, none⟩ = some (.int .i64 6) := (by go_simp); have cb111w4 : w4.cell? ⟨b11, 1, none⟩ = some (.int .i64 0) := (by go_simp); have cb120w4 : w4.cell? ⟨b12, 0, none⟩ = some (.int .i64 3) := (by go_simp); have cb121w4 : w4.cell? ⟨b12, 1, none⟩ = some (.int .i64 0) := (by go_simp); have cL0w4 : w4.cell? ⟨w3.heap.size, 0, none⟩ = some (.int .i8 1) := (by go_simp); have cL1w4 : w4.cell? ⟨w3.heap.size, 1, none⟩ = some (.int .i64 1) := (by go_simp); have cL2w4 : w4.cell? ⟨w3.heap.size, 2, none⟩ = some (.int .i64 0) := (by go_simp); have cL3w4 : w4.cell? ⟨w3.heap.size, 3, none⟩ = some (.int .i64 1) := (by go_simp); have cL4w4 : w4.cell? ⟨w3.heap.size, 4, none⟩ = some (.int .i64 0) := (by go_simp); have pLw4 : w3.heap.size < w4.heap.size := (by omega); have fb9w4 : ∀ q, w4.frozen? ⟨b9, q, none⟩ = false := (fun q => by go_simp); have fb10w4 : ∀ q, w4.frozen? ⟨b10, q, none⟩ = false := (fun q => by go_simp); have fb11w4 : ∀ q, w4.frozen? ⟨b11, q, none⟩ = false := (fun q => by go_simp); have fb12w4 : ∀ q, w4.frozen? ⟨b12, q, none⟩ = false := (fun q => by go_simp); clear hcw4 hfw4 hw4 cb90w3 cb91w3 cb92w3 cb93w3 cb94w3 cb95w3 cb96w3 cb97w3 cb98w3 cb99w3 clb0w3 clb1w3 clb2w3 clb3w3 clb4w3 clb5w3 clb6w3 clb7w3 clb8w3 clb9w3 cb100w3 cb101w3 cb110w3 cb111w3 cb120w3 cb121w3 fb9w3 fb10w3 fb11w3 fb12w3)) | (go_at_call 127; ((with_reducible refine (sinto_fix1 _).mono ?_); rintro e1' w5 ⟨rfl, hw5⟩; have hBw5 : Below w.heap.size w w5 := Below.trans (by (repeat (first | with_reducible exact Below.refl _ _ | with_reducible assumption | with_reducible refine below_drewN ?_ _ | with_reducible refine Below.drew ?_ | (with_reducible refine Below.alloc ?_ ?bs _; (case bs => first | omega | (simp; omega))) | (with_reducible refine Below.setCell ?_ ?bs _; (case bs => dsimp only; omega))))) (hw5.mono (by (try simp) <;> omega)); obtain ⟨hcw5, hfw5⟩ := bcell hw5; have hzw5 := hw5.size; (try simp at hzw5); have p0w5 : lb < w5.heap.size := (by omega); have p1w5 : b9 < w5.heap.size := (by omega); have p2w5 : b10 < w5.heap.size := (by omega); have p3w5 : b11 < w5.heap.size := (by omega); have p4w5 : b12 < w5.heap.size := (by omega); have cb90w5 : w5.cell? ⟨b9, 0, none⟩ = some (.int .i8 1) := (by go_simp); have cb91w5 : w5.cell? ⟨b9, 1, none⟩ = some (.int .i64 6) := (by go_simp); have cb92w5 : w5.cell? ⟨b9, 2, none⟩ = some (.int .i64 0) := (by go_simp); have cb93w5 : w5.cell? ⟨b9, 3, none⟩ = some (.int .i64 3) := (by go_simp); have cb94w5 : w5.cell? ⟨b9, 4, none⟩ = some (.int .i64 0) := (by go_simp); have cb95w5 : w5.cell? ⟨b9, 5, none⟩ = some (.int .i8 1) := (by go_simp); have cb96w5 : w5.cell? ⟨b9, 6, none⟩ = some (.int .i64 1) := (by go_simp); have cb97w5 : w5.cell? ⟨b9, 7, none⟩ = some (.int .i64 0) := (by go_simp); have cb98w5 : w5.cell? ⟨b9, 8, none⟩ = some (.int .i64 1) := (by go_simp); have cb99w5 : w5.cell? ⟨b9, 9, none⟩ = some (.int .i64 0) := (by go_simp); have clb0w5 : w5.cell? ⟨lb, 0, none⟩ = some (.int .i8 1) := (by go_simp); have clb1w5 : w5.cell? ⟨lb, 1, none⟩ = some (.int .i64 6) := (by go_simp); have clb2w5 : w5.cell? ⟨lb, 2, none⟩ = some (.int .i64 0) := (by go_simp); have clb3w5 : w5.cell? ⟨lb, 3, none⟩ = some (.int .i64 3) := (by go_simp); have clb4w5 : w5.cell? ⟨lb, 4, none⟩ = some (.int .i64 0) := (by go_simp); have clb5w5 : w5.cell? ⟨lb, 5, none⟩ = some (.int .i8 1) := (by go_simp); have clb6w5 : w5.cell? ⟨lb, 6, none⟩ = some (.int .i64 1) := (by go_simp); have clb7w5 : w5.cell? ⟨lb, 7, none⟩ = some (.int .i64 0) := (by go_simp); have clb8w5 : w5.cell? ⟨lb, 8, none⟩ = some (.int .i64 1) := (by go_simp); have clb9w5 : w5.cell? ⟨lb, 9, none⟩ = some (.int .i64 0) := (by go_simp); have cb100w5 : w5.cell? ⟨b10, 0, none⟩ = some (.int .i64 3) := (by go_simp); have cb101w5 : w5.cell? ⟨b10, 1, none⟩ = some (.int .i64 1) := (by go_simp); have cb110w5 : w5.cell? ⟨b11, 0, none⟩ = some (.int .i64 6) := (by go_simp); have cb111w5 : w5.cell? ⟨b11, 1, none⟩ = some (.int .i64 0) := (by go_simp); have cb120w5 : w5.cell? ⟨b12, 0, none⟩ = some (.int .i64 3) := (by go_simp); have cb121w5 : w5.cell? ⟨b12, 1, none⟩ = some (.int .i64 0) := (by go_simp); have cL0w5 : w5.cell? ⟨w3.heap.size, 0, none⟩ = some (.int .i8 1) := (by go_simp); have cL1w5 : w5.cell? ⟨w3.heap.size, 1, none⟩ = some (.int .i64 1) := (by go_simp); have cL2w5 : w5.cell? ⟨w3.heap.size, 2, none⟩ = some (.int .i64 0) := (by go_simp); have cL3w5 : w5.cell? ⟨w3.heap.size, 3, none⟩ = some (.int .i64 1) := (by go_simp); have cL4w5 : w5.cell? ⟨w3.heap.size, 4, none⟩ = some (.int .i64 0) := (by go_simp); have pLw5 : w3.heap.size < w5.heap.size := (by omega); have fb9w5 : ∀ q, w5.frozen? ⟨b9, q, none⟩ = false := (fun q => by go_simp); have fb10w5 : ∀ q, w5.frozen? ⟨b10, q, none⟩ = false := (fun q => by go_simp); have fb11w5 : ∀ q, w5.frozen? ⟨b11, q, none⟩ = false := (fun q => by go_simp); have fb12w5 : ∀ q, w5.frozen? ⟨b12, q, none⟩ = false := (fun q => by go_simp); clear hcw5 hfw5 hw5 cb90w4 cb91w4 cb92w4 cb93w4 cb94w4 cb95w4 cb96w4 cb97w4 cb98w4 cb99w4 clb0w4 clb1w4 clb2w4 clb3w4 clb4w4 clb5w4 clb6w4 clb7w4 clb8w4 clb9w4 cb100w4 cb101w4 cb110w4 cb111w4 cb120w4 cb121w4 fb9w4 fb10w4 fb11w4 fb12w4)))
  go_region
  go_wp2
  rw [rounds_succ]
  go_upto_region 22 with (fail)
  generalize hW8 : World.drew _ = w8
  have HW8 := Lib.hid hW8
  clear hW8
  have s100 : Two w8 b10 3 1 := by rw [← HW8.out]; exact ⟨by go_simp, by go_simp⟩
  have s110 : Two w8 b11 6 1 := by rw [← HW8.out]; exact ⟨by go_simp, by go_simp⟩
  have s120 : Two w8 b12 3 0 := by rw [← HW8.out]; exact ⟨by go_simp, by go_simp⟩
  have s90 : Its w8 b9 := by rw [← HW8.out]; constructor <;> go_simp
  have g11 : ∀ q, w8.frozen? ⟨b11, q, none⟩ = false := fun q => by rw [← HW8.out]; go_simp
  have hB8 : Below w.heap.size w w8 := by rw [← HW8.out]; (repeat (first | with_reducible exact Below.refl _ _ | with_reducible assumption | with_reducible refine below_drewN ?_ _ | with_reducible refine Below.drew ?_ | (with_reducible refine Below.alloc ?_ ?bs _; (case bs => first | omega | (simp; omega))) | (with_reducible refine Below.setCell ?_ ?bs _; (case bs => dsimp only; omega))))
  have z9 : b9 < w8.heap.size := by rw [← HW8.out]; simp; omega
  have z11 : b11 < w8.heap.size := by rw [← HW8.out]; simp; omega
  have z12 : b12 < w8.heap.size := by rw [← HW8.out]; simp; omega
  have z10 : b10 < w8.heap.size := by rw [← HW8.out]; simp; omega
  have HSM := Lib.hid (ssum_two w8 b10 0 2 3 1 (by omega) (by omega) s100.1 s100.2)
  have HSW := Lib.hid fun W' (hb : Below w8.heap.size w8 W') => ssum_two W' b11 0 2 6 1 (by omega) (by omega) ((hb.cell (p := ⟨b11, 0, none⟩) z11).trans s110.1) ((hb.cell (p := ⟨b11, 1, none⟩) z11).trans s110.2)
  have HB8 := Lib.hid hB8
  have HFL := Lib.hid fun W' (hb : Below w8.heap.size w8 W') => fill_two W' b9 b11 (s90.below hb z9) ((hb.cell (p := ⟨b11, 0, none⟩) z11).trans s110.1) ((hb.cell (p := ⟨b11, 1, none⟩) z11).trans s110.2)
  have HT := Lib.hid s110
  clear HW8 s100 s110 s120 s90 g11 hB8 cb90w5 cb91w5 cb92w5 cb93w5 cb94w5 cb95w5 cb96w5 cb97w5 cb98w5 cb99w5 clb0w5 clb1w5 clb2w5 clb3w5 clb4w5 clb5w5 clb6w5 clb7w5 clb8w5 clb9w5 cb100w5 cb101w5 cb110w5 cb111w5 cb120w5 cb121w5 fb9w5 fb10w5 fb11w5 fb12w5
  go_wp2_with (first | (go_at_call 128; ((with_reducible refine HSM.out.mono ?_); rintro e1' w9 ⟨rfl, hb9⟩; have HB9 := Lib.hid hb9; clear hb9)) | (go_at_call 128; ((with_reducible refine (HSW.out _ HB9.out).mono ?_); rintro e1' w10 ⟨rfl, hb10⟩; have HB10 := Lib.hid (HB9.out.trans (hb10.mono HB9.out.size)); clear hb10)) | (go_at_call 130; ((with_reducible refine (HFL.out _ HB10.out).mono ?_); rintro e1' w11 ⟨rfl, hb11⟩)))
  go_ret
  have hb := HB10.out.trans (hb11.mono HB10.out.size)
  exact ⟨b11, rfl, m11, Nat.lt_of_lt_of_le z11 hb.size, ⟨(hb.cell (p := ⟨b11, 0, none⟩) z11).trans HT.out.1, (hb.cell (p := ⟨b11, 1, none⟩) z11).trans HT.out.2⟩, HB8.out.trans (hb.mono HB8.out.size)⟩
set_option maxRecDepth 100000 in
set_option maxHeartbeats 4000000 in
theorem sizes_5 (w : World) (lb : Nat) (h : Its w lb) :
    Calls Tryz.prog 96 #[.slice (some ⟨lb, 0, none⟩) 2 2, .int .i64 5, .int .i64 1] w (fun e w' => ∃ b : Nat, e = .returned (.slice (some ⟨b, 0, none⟩) 2 2) ∧ w.heap.size ≤ b ∧ b < w'.heap.size ∧ Two w' b 3 1 ∧ Below w.heap.size w w') := by
  have hmk : ∀ w, (Instr.makeSlice 38 (.int .i64 2) (.int .i64 2)).run Tryz.prog w = .ok (.slice (some ⟨w.heap.size, 0, none⟩) 2 2) (w.alloc (.cells #[.int .i64 0, .int .i64 0] 3)) := fun w => by kernel_rfl
  have hmk2 : ∀ w, (Instr.makeSlice 44 (.int .i64 2) (.int .i64 2)).run Tryz.prog w = .ok (.slice (some ⟨w.heap.size, 0, none⟩) 2 2) (w.alloc (.cells #[.int .i8 0, .int .i64 0, .int .i64 0, .int .i64 0, .int .i64 0, .int .i8 0, .int .i64 0, .int .i64 0, .int .i64 0, .int .i64 0] 40)) := fun w => by kernel_rfl
  have ll : lb < w.heap.size := World.block_lt_of_cell? w ⟨lb, 0, none⟩ h.a0
  have HH := Lib.hid h
  clear h
  go_enter Tryz.func96, Tryz.ntmps96
  go_upto_region 6 with (go_at_call 126; ((with_reducible first | refine (sside_5 _).mono ?_ | refine (sside_1 _).mono ?_); rintro e1' w0 ⟨rfl, h0⟩; obtain rfl := h0.symm))
  go_cut [9, 10, 11, 12] (SzCut w)
  case first =>
    have fz : ∀ b, b < w.heap.size + 4 ∧ w.heap.size ≤ b → ∀ q, ((((w.alloc itZ).alloc twZ).alloc twZ).alloc twZ).frozen? ⟨b, q, none⟩ = false := fun b hb q => by
      by_cases h3 : b = w.heap.size + 3
      · exact frozen_newB _ _ _ _ _ (by simp; omega)
      rw [frozen_old _ _ _ _ (by simp; omega)]
      by_cases h2 : b = w.heap.size + 2
      · exact frozen_newB _ _ _ _ _ (by simp; omega)
      rw [frozen_old _ _ _ _ (by simp; omega)]
      by_cases h1 : b = w.heap.size + 1
      · exact frozen_newB _ _ _ _ _ (by simp; omega)
      rw [frozen_old _ _ _ _ (by simp; omega)]
      exact frozen_newB _ _ _ _ _ (by omega)
    have T1 : Two ((((w.alloc itZ).alloc twZ).alloc twZ).alloc twZ) (w.heap.size + 1) 0 0 := ((made_two (w.alloc itZ) _ (by simp)).alloc _).alloc _
    have T2 : Two ((((w.alloc itZ).alloc twZ).alloc twZ).alloc twZ) (w.heap.size + 1 + 1) 0 0 := (made_two ((w.alloc itZ).alloc twZ) _ (by simp)).alloc _
    have T3 : Two ((((w.alloc itZ).alloc twZ).alloc twZ).alloc twZ) (w.heap.size + 1 + 1 + 1) 0 0 := made_two (((w.alloc itZ).alloc twZ).alloc twZ) _ (by simp)
    have HT1 := Lib.hid T1
    have HT2 := Lib.hid T2
    have HT3 := Lib.hid T3
    have HFZ := Lib.hid fz
    clear T1 T2 T3 fz
    go_region
    all_goals
      go_wp2_with fail
      go_meet
      refine ⟨_, _, _, _, rfl, rfl, rfl, rfl, ?_, ?_, ?_, ?_, ?_, ?_, ?_, ?_, ?_, ?_, ?_, ?_, ?_, ?_, ?_, ?_, ?_, ?_, ?_, ?_, ?_, ?_, ?_⟩
      · exact fun q hq => (((made_items w q hq).alloc _).alloc _).alloc _
      iterate 3 (· first | exact HT1.out | exact HT2.out | exact HT3.out)
      iterate 4 (· exact HFZ.out _ (by omega))
      iterate 14 (· (try simp) <;> omega)
      · (repeat (first | exact Below.refl _ _ | assumption | refine below_drewN ?_ _ | refine Below.drew ?_ | (refine Below.alloc ?_ ?bs _; (case bs => first | omega | (simp; done) | (simp; omega))) | (refine Below.setCell ?_ ?bs _; (case bs => first | omega | (simp; done) | (simp; omega)))))
  case rest =>
  obtain ⟨b9, b10, b11, b12, rfl, rfl, rfl, rfl, k9, k10, k11, k12, f9, f10, f11, f12, m9, m10, m11, m12, l9, l10, l11, l12, d1, d2, d3, d4, d5, d6, hB⟩ := hcut
  have hmx : max (0 : Int) 4 = 4 := by decide
  obtain ⟨a0, a1, a2, a3, a4, a5, a6, a7, a8, a9⟩ := HH.out.below hB ll
  obtain ⟨k100, k101⟩ := k10
  obtain ⟨k110, k111⟩ := k11
  obtain ⟨k120, k121⟩ := k12
  have hwc := hB.size
  obtain ⟨i0, hi0⟩ := k9 0 (by omega)
  obtain ⟨i1, hi1⟩ := k9 1 (by omega)
  obtain ⟨i2, hi2⟩ := k9 2 (by omega)
  obtain ⟨i3, hi3⟩ := k9 3 (by omega)
  obtain ⟨i4, hi4⟩ := k9 4 (by omega)
  obtain ⟨i5, hi5⟩ := k9 5 (by omega)
  obtain ⟨i6, hi6⟩ := k9 6 (by omega)
  obtain ⟨i7, hi7⟩ := k9 7 (by omega)
  obtain ⟨i8, hi8⟩ := k9 8 (by omega)
  obtain ⟨i9, hi9⟩ := k9 9 (by omega)
  have e0 : ¬ b9 = b10 := by omega
  have e1 : ¬ b9 = b11 := by omega
  have e2 : ¬ b9 = b12 := by omega
  have e3 : ¬ b10 = b9 := by omega
  have e4 : ¬ b10 = b11 := by omega
  have e5 : ¬ b10 = b12 := by omega
  have e6 : ¬ b11 = b9 := by omega
  have e7 : ¬ b11 = b10 := by omega
  have e8 : ¬ b11 = b12 := by omega
  have e9 : ¬ b12 = b9 := by omega
  have e10 : ¬ b12 = b10 := by omega
  have e11 : ¬ b12 = b11 := by omega
  have e12 : ¬ lb = b9 := by omega
  have e13 : ¬ b9 = lb := by omega
  have e14 : ¬ lb = b10 := by omega
  have e15 : ¬ b10 = lb := by omega
  have e16 : ¬ lb = b11 := by omega
  have e17 : ¬ b11 = lb := by omega
  have e18 : ¬ lb = b12 := by omega
  have e19 : ¬ b12 = lb := by omega
  have lw : lb < wc.heap.size := by omega
  clear k9 d1 d2 d3 d4 d5 d6
  go_wp2
  refine wp_loop_rounds 3 ?_
  rw [rounds_succ]
  go_upto_region 20 with (first | (go_at_call 91; ((with_reducible refine (right_fix6 _).mono ?_); rintro e1' w2 ⟨rfl, hw2⟩; have hBw2 : Below w.heap.size w w2 := Below.trans (by (repeat (first | with_reducible exact Below.refl _ _ | with_reducible assumption | with_reducible refine below_drewN ?_ _ | with_reducible refine Below.drew ?_ | (with_reducible refine Below.alloc ?_ ?bs _; (case bs => first | omega | (simp; omega))) | (with_reducible refine Below.setCell ?_ ?bs _; (case bs => dsimp only; omega))))) (hw2.mono (by (try simp) <;> omega)); obtain ⟨hcw2, hfw2⟩ := bcell hw2; have hzw2 := hw2.size; (try simp at hzw2); have p0w2 : lb < w2.heap.size := (by omega); have p1w2 : b9 < w2.heap.size := (by omega); have p2w2 : b10 < w2.heap.size := (by omega); have p3w2 : b11 < w2.heap.size := (by omega); have p4w2 : b12 < w2.heap.size := (by omega); have cb90w2 : w2.cell? ⟨b9, 0, none⟩ = some (i0) := (by go_simp); have cb91w2 : w2.cell? ⟨b9, 1, none⟩ = some (i1) := (by go_simp); have cb92w2 : w2.cell? ⟨b9, 2, none⟩ = some (i2) := (by go_simp); have cb93w2 : w2.cell? ⟨b9, 3, none⟩ = some (i3) := (by go_simp); have cb94w2 : w2.cell? ⟨b9, 4, none⟩ = some (i4) := (by go_simp); have cb95w2 : w2.cell? ⟨b9, 5, none⟩ = some (i5) := (by go_simp); have cb96w2 : w2.cell? ⟨b9, 6, none⟩ = some (i6) := (by go_simp); have cb97w2 : w2.cell? ⟨b9, 7, none⟩ = some (i7) := (by go_simp); have cb98w2 : w2.cell? ⟨b9, 8, none⟩ = some (i8) := (by go_simp); have cb99w2 : w2.cell? ⟨b9, 9, none⟩ = some (i9) := (by go_simp); have clb0w2 : w2.cell? ⟨lb, 0, none⟩ = some (.int .i8 1) := (by go_simp); have clb1w2 : w2.cell? ⟨lb, 1, none⟩ = some (.int .i64 6) := (by go_simp); have clb2w2 : w2.cell? ⟨lb, 2, none⟩ = some (.int .i64 0) := (by go_simp); have clb3w2 : w2.cell? ⟨lb, 3, none⟩ = some (.int .i64 3) := (by go_simp); have clb4w2 : w2.cell? ⟨lb, 4, none⟩ = some (.int .i64 0) := (by go_simp); have clb5w2 : w2.cell? ⟨lb, 5, none⟩ = some (.int .i8 1) := (by go_simp); have clb6w2 : w2.cell? ⟨lb, 6, none⟩ = some (.int .i64 1) := (by go_simp); have clb7w2 : w2.cell? ⟨lb, 7, none⟩ = some (.int .i64 0) := (by go_simp); have clb8w2 : w2.cell? ⟨lb, 8, none⟩ = some (.int .i64 1) := (by go_simp); have clb9w2 : w2.cell? ⟨lb, 9, none⟩ = some (.int .i64 0) := (by go_simp); have cb100w2 : w2.cell? ⟨b10, 0, none⟩ = some (.int .i64 0) := (by go_simp); have cb101w2 : w2.cell? ⟨b10, 1, none⟩ = some (.int .i64 0) := (by go_simp); have cb110w2 : w2.cell? ⟨b11, 0, none⟩ = some (.int .i64 0) := (by go_simp); have cb111w2 : w2.cell? ⟨b11, 1, none⟩ = some (.int .i64 0) := (by go_simp); have cb120w2 : w2.cell? ⟨b12, 0, none⟩ = some (.int .i64 0) := (by go_simp); have cb121w2 : w2.cell? ⟨b12, 1, none⟩ = some (.int .i64 0) := (by go_simp); have cL0w2 : w2.cell? ⟨wc.heap.size, 0, none⟩ = some (.int .i8 1) := (by go_simp); have cL1w2 : w2.cell? ⟨wc.heap.size, 1, none⟩ = some (.int .i64 6) := (by go_simp); have cL2w2 : w2.cell? ⟨wc.heap.size, 2, none⟩ = some (.int .i64 0) := (by go_simp); have cL3w2 : w2.cell? ⟨wc.heap.size, 3, none⟩ = some (.int .i64 3) := (by go_simp); have cL4w2 : w2.cell? ⟨wc.heap.size, 4, none⟩ = some (.int .i64 0) := (by go_simp); have pLw2 : wc.heap.size < w2.heap.size := (by omega); have fb9w2 : ∀ q, w2.frozen? ⟨b9, q, none⟩ = false := (fun q => by go_simp); have fb10w2 : ∀ q, w2.frozen? ⟨b10, q, none⟩ = false := (fun q => by go_simp); have fb11w2 : ∀ q, w2.frozen? ⟨b11, q, none⟩ = false := (fun q => by go_simp); have fb12w2 : ∀ q, w2.frozen? ⟨b12, q, none⟩ = false := (fun q => by go_simp); clear hcw2 hfw2 hw2 a0 a1 a2 a3 a4 a5 a6 a7 a8 a9 k100 k101 k110 k111 k120 k121 hi0 hi1 hi2 hi3 hi4 hi5 hi6 hi7 hi8 hi9 f9 f10 f11 f12)) | (go_at_call 127; ((with_reducible refine (sinto_fix6 _).mono ?_); rintro e1' w3 ⟨rfl, hw3⟩; have hBw3 : Below w.heap.size w w3 := Below.trans (by (repeat (first | with_reducible exact Below.refl _ _ | with_reducible assumption | with_reducible refine below_drewN ?_ _ | with_reducible refine Below.drew ?_ | (with_reducible refine Below.alloc ?_ ?bs _; (case bs => first | omega | (simp; omega))) | (with_reducible refine Below.setCell ?_ ?bs _; (case bs => dsimp only; omega))))) (hw3.mono (by (try simp) <;> omega)); obtain ⟨hcw3, hfw3⟩ := bcell hw3; have hzw3 := hw3.size; (try simp at hzw3); have p0w3 : lb < w3.heap.size := (by omega); have p1w3 : b9 < w3.heap.size := (by omega); have p2w3 : b10 < w3.heap.size := (by omega); have p3w3 : b11 < w3.heap.size := (by omega); have p4w3 : b12 < w3.heap.size := (by omega); have cb90w3 : w3.cell? ⟨b9, 0, none⟩ = some (.int .i8 1) := (by go_simp); have cb91w3 : w3.cell? ⟨b9, 1, none⟩ = some (.int .i64 6) := (by go_simp); have cb92w3 : w3.cell? ⟨b9, 2, none⟩ = some (.int .i64 0) := (by go_simp); have cb93w3 : w3.cell? ⟨b9, 3, none⟩ = some (.int .i64 3) := (by go_simp); have cb94w3 : w3.cell? ⟨b9, 4, none⟩ = some (.int .i64 0) := (by go_simp); have cb95w3 : w3.cell? ⟨b9, 5, none⟩ = some (i5) := (by go_simp); have cb96w3 : w3.cell? ⟨b9, 6, none⟩ = some (i6) := (by go_simp); have cb97w3 : w3.cell? ⟨b9, 7, none⟩ = some (i7) := (by go_simp); have cb98w3 : w3.cell? ⟨b9, 8, none⟩ = some (i8) := (by go_simp); have cb99w3 : w3.cell? ⟨b9, 9, none⟩ = some (i9) := (by go_simp); have clb0w3 : w3.cell? ⟨lb, 0, none⟩ = some (.int .i8 1) := (by go_simp); have clb1w3 : w3.cell? ⟨lb, 1, none⟩ = some (.int .i64 6) := (by go_simp); have clb2w3 : w3.cell? ⟨lb, 2, none⟩ = some (.int .i64 0) := (by go_simp); have clb3w3 : w3.cell? ⟨lb, 3, none⟩ = some (.int .i64 3) := (by go_simp); have clb4w3 : w3.cell? ⟨lb, 4, none⟩ = some (.int .i64 0) := (by go_simp); have clb5w3 : w3.cell? ⟨lb, 5, none⟩ = some (.int .i8 1) := (by go_simp); have clb6w3 : w3.cell? ⟨lb, 6, none⟩ = some (.int .i64 1) := (by go_simp); have clb7w3 : w3.cell? ⟨lb, 7, none⟩ = some (.int .i64 0) := (by go_simp); have clb8w3 : w3.cell? ⟨lb, 8, none⟩ = some (.int .i64 1) := (by go_simp); have clb9w3 : w3.cell? ⟨lb, 9, none⟩ = some (.int .i64 0) := (by go_simp); have cb100w3 : w3.cell? ⟨b10, 0, none⟩ = some (.int .i64 3) := (by go_simp); have cb101w3 : w3.cell? ⟨b10, 1, none⟩ = some (.int .i64 0) := (by go_simp); have cb110w3 : w3.cell? ⟨b11, 0, none⟩ = some (.int .i64 0) := (by go_simp); have cb111w3 : w3.cell? ⟨b11, 1, none⟩ = some (.int .i64 0) := (by go_simp); have cb120w3 : w3.cell? ⟨b12, 0, none⟩ = some (.int .i64 0) := (by go_simp); have cb121w3 : w3.cell? ⟨b12, 1, none⟩ = some (.int .i64 0) := (by go_simp); have cL0w3 : w3.cell? ⟨wc.heap.size, 0, none⟩ = some (.int .i8 1) := (by go_simp); have cL1w3 : w3.cell? ⟨wc.heap.size, 1, none⟩ = some (.int .i64 6) := (by go_simp); have cL2w3 : w3.cell? ⟨wc.heap.size, 2, none⟩ = some (.int .i64 0) := (by go_simp); have cL3w3 : w3.cell? ⟨wc.heap.size, 3, none⟩ = some (.int .i64 3) := (by go_simp); have cL4w3 : w3.cell? ⟨wc.heap.size, 4, none⟩ = some (.int .i64 0) := (by go_simp); have pLw3 : wc.heap.size < w3.heap.size := (by omega); have fb9w3 : ∀ q, w3.frozen? ⟨b9, q, none⟩ = false := (fun q => by go_simp); have fb10w3 : ∀ q, w3.frozen? ⟨b10, q, none⟩ = false := (fun q => by go_simp); have fb11w3 : ∀ q, w3.frozen? ⟨b11, q, none⟩ = false := (fun q => by go_simp); have fb12w3 : ∀ q, w3.frozen? ⟨b12, q, none⟩ = false := (fun q => by go_simp); clear hcw3 hfw3 hw3 cb90w2 cb91w2 cb92w2 cb93w2 cb94w2 cb95w2 cb96w2 cb97w2 cb98w2 cb99w2 clb0w2 clb1w2 clb2w2 clb3w2 clb4w2 clb5w2 clb6w2 clb7w2 clb8w2 clb9w2 cb100w2 cb101w2 cb110w2 cb111w2 cb120w2 cb121w2 fb9w2 fb10w2 fb11w2 fb12w2)))
  go_region
  go_wp2
  rw [rounds_succ]
  go_upto_region 20 with (first | (go_at_call 91; ((with_reducible refine (right_fix1 _).mono ?_); rintro e1' w4 ⟨rfl, hw4⟩; have hBw4 : Below w.heap.size w w4 := Below.trans (by (repeat (first | with_reducible exact Below.refl _ _ | with_reducible assumption | with_reducible refine below_drewN ?_ _ | with_reducible refine Below.drew ?_ | (with_reducible refine Below.alloc ?_ ?bs _; (case bs => first | omega | (simp; omega))) | (with_reducible refine Below.setCell ?_ ?bs _; (case bs => dsimp only; omega))))) (hw4.mono (by (try simp) <;> omega)); obtain ⟨hcw4, hfw4⟩ := bcell hw4; have hzw4 := hw4.size; (try simp at hzw4); have p0w4 : lb < w4.heap.size := (by omega); have p1w4 : b9 < w4.heap.size := (by omega); have p2w4 : b10 < w4.heap.size := (by omega); have p3w4 : b11 < w4.heap.size := (by omega); have p4w4 : b12 < w4.heap.size := (by omega); have cb90w4 : w4.cell? ⟨b9, 0, none⟩ = some (.int .i8 1) := (by go_simp); have cb91w4 : w4.cell? ⟨b9, 1, none⟩ = some (.int .i64 6) := (by go_simp); have cb92w4 : w4.cell? ⟨b9, 2, none⟩ = some (.int .i64 0) := (by go_simp); have cb93w4 : w4.cell? ⟨b9, 3, none⟩ = some (.int .i64 3) := (by go_simp); have cb94w4 : w4.cell? ⟨b9, 4, none⟩ = some (.int .i64 0) := (by go_simp); have cb95w4 : w4.cell? ⟨b9, 5, none⟩ = some (i5) := (by go_simp); have cb96w4 : w4.cell? ⟨b9, 6, none⟩ = some (i6) := (by go_simp); have cb97w4 : w4.cell? ⟨b9, 7, none⟩ = some (i7) := (by go_simp); have cb98w4 : w4.cell? ⟨b9, 8, none⟩ = some (i8) := (by go_simp); have cb99w4 : w4.cell? ⟨b9, 9, none⟩ = some (i9) := (by go_simp); have clb0w4 : w4.cell? ⟨lb, 0, none⟩ = some (.int .i8 1) := (by go_simp); have clb1w4 : w4.cell? ⟨lb, 1, none⟩ = some (.int .i64 6) := (by go_simp); have clb2w4 : w4.cell? ⟨lb, 2, none⟩ = some (.int .i64 0) := (by go_simp); have clb3w4 : w4.cell? ⟨lb, 3, none⟩ = some (.int .i64 3) := (by go_simp); have clb4w4 : w4.cell? ⟨lb, 4, none⟩ = some (.int .i64 0) := (by go_simp); have clb5w4 : w4.cell? ⟨lb, 5, none⟩ = some (.int .i8 1) := (by go_simp); have clb6w4 : w4.cell? ⟨lb, 6, none⟩ = some (.int .i64 1) := (by go_simp); have clb7w4 : w4.cell? ⟨lb, 7, none⟩ = some (.int .i64 0) := (by go_simp); have clb8w4 : w4.cell? ⟨lb, 8, none⟩ = some (.int .i64 1) := (by go_simp); have clb9w4 : w4.cell? ⟨lb, 9, none⟩ = some (.int .i64 0) := (by go_simp); have cb100w4 : w4.cell? ⟨b10, 0, none⟩ = some (.int .i64 3) := (by go_simp); have cb101w4 : w4.cell? ⟨b10, 1, none⟩ = some (.int .i64 0) := (by go_simp); have cb110w4 : w4.cell? ⟨b11, 0, none⟩ = some (.int .i64 6) := (by go_simp); have cb111w4 : w4.cell? ⟨b11, 1, none⟩ = some (.int .i64 0) := (by go_simp); have cb120w4 : w4.cell? ⟨b12, 0, none⟩ = some (.int .i64 3) := (by go_simp); have cb121w4 : w4.cell? ⟨b12, 1, none⟩ = some (.int .i64 0) := (by go_simp); have cL0w4 : w4.cell? ⟨w3.heap.size, 0, none⟩ = some (.int .i8 1) := (by go_simp); have cL1w4 : w4.cell? ⟨w3.heap.size, 1, none⟩ = some (.int .i64 1) := (by go_simp); have cL2w4 : w4.cell? ⟨w3.heap.size, 2, none⟩ = some (.int .i64 0) := (by go_simp); have cL3w4 : w4.cell? ⟨w3.heap.size, 3, none⟩ = some (.int .i64 1) := (by go_simp); have cL4w4 : w4.cell? ⟨w3.heap.size, 4, none⟩ = some (.int .i64 0) := (by go_simp); have pLw4 : w3.heap.size < w4.heap.size := (by omega); have fb9w4 : ∀ q, w4.frozen? ⟨b9, q, none⟩ = false := (fun q => by go_simp); have fb10w4 : ∀ q, w4.frozen? ⟨b10, q, none⟩ = false := (fun q => by go_simp); have fb11w4 : ∀ q, w4.frozen? ⟨b11, q, none⟩ = false := (fun q => by go_simp); have fb12w4 : ∀ q, w4.frozen? ⟨b12, q, none⟩ = false := (fun q => by go_simp); clear hcw4 hfw4 hw4 cb90w3 cb91w3 cb92w3 cb93w3 cb94w3 cb95w3 cb96w3 cb97w3 cb98w3 cb99w3 clb0w3 clb1w3 clb2w3 clb3w3 clb4w3 clb5w3 clb6w3 clb7w3 clb8w3 clb9w3 cb100w3 cb101w3 cb110w3 cb111w3 cb120w3 cb121w3 fb9w3 fb10w3 fb11w3 fb12w3)) | (go_at_call 127; ((with_reducible refine (sinto_fix1 _).mono ?_); rintro e1' w5 ⟨rfl, hw5⟩; have hBw5 : Below w.heap.size w w5 := Below.trans (by (repeat (first | with_reducible exact Below.refl _ _ | with_reducible assumption | with_reducible refine below_drewN ?_ _ | with_reducible refine Below.drew ?_ | (with_reducible refine Below.alloc ?_ ?bs _; (case bs => first | omega | (simp; omega))) | (with_reducible refine Below.setCell ?_ ?bs _; (case bs => dsimp only; omega))))) (hw5.mono (by (try simp) <;> omega)); obtain ⟨hcw5, hfw5⟩ := bcell hw5; have hzw5 := hw5.size; (try simp at hzw5); have p0w5 : lb < w5.heap.size := (by omega); have p1w5 : b9 < w5.heap.size := (by omega); have p2w5 : b10 < w5.heap.size := (by omega); have p3w5 : b11 < w5.heap.size := (by omega); have p4w5 : b12 < w5.heap.size := (by omega); have cb90w5 : w5.cell? ⟨b9, 0, none⟩ = some (.int .i8 1) := (by go_simp); have cb91w5 : w5.cell? ⟨b9, 1, none⟩ = some (.int .i64 6) := (by go_simp); have cb92w5 : w5.cell? ⟨b9, 2, none⟩ = some (.int .i64 0) := (by go_simp); have cb93w5 : w5.cell? ⟨b9, 3, none⟩ = some (.int .i64 3) := (by go_simp); have cb94w5 : w5.cell? ⟨b9, 4, none⟩ = some (.int .i64 0) := (by go_simp); have cb95w5 : w5.cell? ⟨b9, 5, none⟩ = some (.int .i8 1) := (by go_simp); have cb96w5 : w5.cell? ⟨b9, 6, none⟩ = some (.int .i64 1) := (by go_simp); have cb97w5 : w5.cell? ⟨b9, 7, none⟩ = some (.int .i64 0) := (by go_simp); have cb98w5 : w5.cell? ⟨b9, 8, none⟩ = some (.int .i64 1) := (by go_simp); have cb99w5 : w5.cell? ⟨b9, 9, none⟩ = some (.int .i64 0) := (by go_simp); have clb0w5 : w5.cell? ⟨lb, 0, none⟩ = some (.int .i8 1) := (by go_simp); have clb1w5 : w5.cell? ⟨lb, 1, none⟩ = some (.int .i64 6) := (by go_simp); have clb2w5 : w5.cell? ⟨lb, 2, none⟩ = some (.int .i64 0) := (by go_simp); have clb3w5 : w5.cell? ⟨lb, 3, none⟩ = some (.int .i64 3) := (by go_simp); have clb4w5 : w5.cell? ⟨lb, 4, none⟩ = some (.int .i64 0) := (by go_simp); have clb5w5 : w5.cell? ⟨lb, 5, none⟩ = some (.int .i8 1) := (by go_simp); have clb6w5 : w5.cell? ⟨lb, 6, none⟩ = some (.int .i64 1) := (by go_simp); have clb7w5 : w5.cell? ⟨lb, 7, none⟩ = some (.int .i64 0) := (by go_simp); have clb8w5 : w5.cell? ⟨lb, 8, none⟩ = some (.int .i64 1) := (by go_simp); have clb9w5 : w5.cell? ⟨lb, 9, none⟩ = some (.int .i64 0) := (by go_simp); have cb100w5 : w5.cell? ⟨b10, 0, none⟩ = some (.int .i64 3) := (by go_simp); have cb101w5 : w5.cell? ⟨b10, 1, none⟩ = some (.int .i64 1) := (by go_simp); have cb110w5 : w5.cell? ⟨b11, 0, none⟩ = some (.int .i64 6) := (by go_simp); have cb111w5 : w5.cell? ⟨b11, 1, none⟩ = some (.int .i64 0) := (by go_simp); have cb120w5 : w5.cell? ⟨b12, 0, none⟩ = some (.int .i64 3) := (by go_simp); have cb121w5 : w5.cell? ⟨b12, 1, none⟩ = some (.int .i64 0) := (by go_simp); have cL0w5 : w5.cell? ⟨w3.heap.size, 0, none⟩ = some (.int .i8 1) := (by go_simp); have cL1w5 : w5.cell? ⟨w3.heap.size, 1, none⟩ = some (.int .i64 1) := (by go_simp); have cL2w5 : w5.cell? ⟨w3.heap.size, 2, none⟩ = some (.int .i64 0) := (by go_simp); have cL3w5 : w5.cell? ⟨w3.heap.size, 3, none⟩ = some (.int .i64 1) := (by go_simp); have cL4w5 : w5.cell? ⟨w3.heap.size, 4, none⟩ = some (.int .i64 0) := (by go_simp); have pLw5 : w3.heap.size < w5.heap.size := (by omega); have fb9w5 : ∀ q, w5.frozen? ⟨b9, q, none⟩ = false := (fun q => by go_simp); have fb10w5 : ∀ q, w5.frozen? ⟨b10, q, none⟩ = false := (fun q => by go_simp); have fb11w5 : ∀ q, w5.frozen? ⟨b11, q, none⟩ = false := (fun q => by go_simp); have fb12w5 : ∀ q, w5.frozen? ⟨b12, q, none⟩ = false := (fun q => by go_simp); clear hcw5 hfw5 hw5 cb90w4 cb91w4 cb92w4 cb93w4 cb94w4 cb95w4 cb96w4 cb97w4 cb98w4 cb99w4 clb0w4 clb1w4 clb2w4 clb3w4 clb4w4 clb5w4 clb6w4 clb7w4 clb8w4 clb9w4 cb100w4 cb101w4 cb110w4 cb111w4 cb120w4 cb121w4 fb9w4 fb10w4 fb11w4 fb12w4)))
  go_region
  go_wp2
  rw [rounds_succ]
  go_upto_region 22 with (fail)
  generalize hW8 : World.drew _ = w8
  have HW8 := Lib.hid hW8
  clear hW8
  have s100 : Two w8 b10 3 1 := by rw [← HW8.out]; exact ⟨by go_simp, by go_simp⟩
  have s110 : Two w8 b11 6 1 := by rw [← HW8.out]; exact ⟨by go_simp, by go_simp⟩
  have s120 : Two w8 b12 3 0 := by rw [← HW8.out]; exact ⟨by go_simp, by go_simp⟩
  have s90 : Its w8 b9 := by rw [← HW8.out]; constructor <;> go_simp
  have g11 : ∀ q, w8.frozen? ⟨b11, q, none⟩ = false := fun q => by rw [← HW8.out]; go_simp
  have hB8 : Below w.heap.size w w8 := by rw [← HW8.out]; (repeat (first | with_reducible exact Below.refl _ _ | with_reducible assumption | with_reducible refine below_drewN ?_ _ | with_reducible refine Below.drew ?_ | (with_reducible refine Below.alloc ?_ ?bs _; (case bs => first | omega | (simp; omega))) | (with_reducible refine Below.setCell ?_ ?bs _; (case bs => dsimp only; omega))))
  have z9 : b9 < w8.heap.size := by rw [← HW8.out]; simp; omega
  have z11 : b11 < w8.heap.size := by rw [← HW8.out]; simp; omega
  have z12 : b12 < w8.heap.size := by rw [← HW8.out]; simp; omega
  have z10 : b10 < w8.heap.size := by rw [← HW8.out]; simp; omega
  have HSM := Lib.hid (ssum_two w8 b10 0 2 3 1 (by omega) (by omega) s100.1 s100.2)
  have HSW := Lib.hid fun W' (hb : Below w8.heap.size w8 W') => ssum_two W' b11 0 2 6 1 (by omega) (by omega) ((hb.cell (p := ⟨b11, 0, none⟩) z11).trans s110.1) ((hb.cell (p := ⟨b11, 1, none⟩) z11).trans s110.2)
  have HB8 := Lib.hid hB8
  have HSH := Lib.hid fun W' (hb : Below w8.heap.size w8 W') => share_30 W' b12 ((hb.cell (p := ⟨b12, 0, none⟩) z12).trans s120.1) ((hb.cell (p := ⟨b12, 1, none⟩) z12).trans s120.2)
  obtain ⟨t0, t1⟩ := s110
  clear HW8 s100 s120 s90 hB8 cb90w5 cb91w5 cb92w5 cb93w5 cb94w5 cb95w5 cb96w5 cb97w5 cb98w5 cb99w5 clb0w5 clb1w5 clb2w5 clb3w5 clb4w5 clb5w5 clb6w5 clb7w5 clb8w5 clb9w5 cb100w5 cb101w5 cb110w5 cb111w5 cb120w5 cb121w5 fb9w5 fb10w5 fb11w5 fb12w5
  go_wp2_with (first | (go_at_call 128; ((with_reducible refine HSM.out.mono ?_); rintro e1' w9 ⟨rfl, hb9⟩; have HB9 := Lib.hid hb9; clear hb9)) | (go_at_call 128; ((with_reducible refine (HSW.out _ HB9.out).mono ?_); rintro e1' w10 ⟨rfl, hb10⟩; have HB10 := Lib.hid (HB9.out.trans (hb10.mono HB9.out.size)); clear hb10)) | (go_at_call 129; ((with_reducible refine (HSH.out _ HB10.out).mono ?_); rintro e1' w11 ⟨bs, rfl, hm1, hm2, ⟨x0, x1⟩, hb11⟩; have hbb : Below w8.heap.size w8 w11 := HB10.out.trans (hb11.mono HB10.out.size); have y0 : w11.cell? ⟨b11, 0, none⟩ = some (.int .i64 6) := (hbb.cell (p := ⟨b11, 0, none⟩) z11).trans t0; have y1 : w11.cell? ⟨b11, 1, none⟩ = some (.int .i64 1) := (hbb.cell (p := ⟨b11, 1, none⟩) z11).trans t1; have g12 : ∀ q, w11.frozen? ⟨b11, q, none⟩ = false := (fun q => (hbb.frozen (p := ⟨b11, q, none⟩) z11).trans (g11 q)); have hsb : ¬ bs = b11 := (by have := HB10.out.size; omega); have hsc : ¬ b11 = bs := (by have := HB10.out.size; omega); have HBB := Lib.hid (HB8.out.trans (hbb.mono HB8.out.size)); have zz : b11 < w11.heap.size := Nat.lt_of_lt_of_le z11 hbb.size; clear hb11 hbb t0 t1 g11)))
  refine wp_loop_rounds 3 ?_
  repeat any_goals (rw [rounds_succ]; go_wp2)
  go_wp2
  go_ret
  have hq := HBB.out
  exact ⟨b11, rfl, m11, by simp; omega, ⟨by go_simp, by go_simp⟩, by (repeat (first | with_reducible exact Below.refl _ _ | with_reducible assumption | with_reducible refine below_drewN ?_ _ | with_reducible refine Below.drew ?_ | (with_reducible refine Below.alloc ?_ ?bs _; (case bs => first | omega | (simp; omega))) | (with_reducible refine Below.setCell ?_ ?bs _; (case bs => dsimp only; omega))))⟩
end Go.Proofs.YthhomflonpjbmaaGreatDoor
/-
  The walk of along at the row of two texts.
-/
namespace Go.Proofs.YthhomflonpjbmaaGreatDoor
open Go.RowKit Go.Maps
theorem lw_lit1 (p : Pl) (K : Nat) (hK : K < 900000) (W : World) (A : AInv p K W) : Calls Tryz.prog 40 #[.pointer (some ⟨p.pm, 0, none⟩), .int .i64 1] W (APost 3 p (K + 1) W) := (a_lw1 p K hK W A).mono fun e w h => by rw [show ff 1 0 0 = 3 by decide] at h; exact h
theorem lw_lit2 (p : Pl) (K : Nat) (hK : K < 900000) (W : World) (A : AInv p K W) : Calls Tryz.prog 40 #[.pointer (some ⟨p.pm, 0, none⟩), .int .i64 2] W (APost 1 p (K + 1) W) := (a_lw2 p K hK W A).mono fun e w h => by rw [show ff 2 0 0 = 1 by decide] at h; exact h
theorem mw_lit1 (p : Pl) (K : Nat) (hK : K < 900000) (W : World) (A : AInv p K W) : Calls Tryz.prog 41 #[.pointer (some ⟨p.pm, 0, none⟩), .int .i64 1] W (APost 6 p (K + 1) W) := (a_mw1 p K hK W A).mono fun e w h => by rw [show ff 1 1 0 = 6 by decide] at h; exact h
theorem mw_lit2 (p : Pl) (K : Nat) (hK : K < 900000) (W : World) (A : AInv p K W) : Calls Tryz.prog 41 #[.pointer (some ⟨p.pm, 0, none⟩), .int .i64 2] W (APost 1 p (K + 1) W) := (a_mw2 p K hK W A).mono fun e w h => by rw [show ff 2 1 0 = 1 by decide] at h; exact h
/-- Ten cells lie at this block. -/
def Ten (w : World) (b : Nat) (l : List Value) : Prop := ∀ (q : Nat) (u : Value), l[q]? = some u → w.cell? ⟨b, q, none⟩ = some u
theorem Ten.grown {w w' : World} {b : Nat} {l : List Value} {row : Option Nat} (h : Ten w b l) (hg : w.grownBy w' row) (hne : some b ≠ row) : Ten w' b l := fun q u hu => hg.cell (h q u hu) hne
theorem Ten.made (w : World) (cs : Array Value) (t : Nat) : Ten (w.alloc (.cells cs t)) w.heap.size cs.toList := fun q u hu => (World.cell?_alloc_new w cs t q).trans (by simpa using hu)
theorem Ten.mk10 {w : World} {b : Nat} {v0 v1 v2 v3 v4 v5 v6 v7 v8 v9 : Value} (h0 : w.cell? ⟨b, 0, none⟩ = some v0) (h1 : w.cell? ⟨b, 1, none⟩ = some v1) (h2 : w.cell? ⟨b, 2, none⟩ = some v2) (h3 : w.cell? ⟨b, 3, none⟩ = some v3) (h4 : w.cell? ⟨b, 4, none⟩ = some v4) (h5 : w.cell? ⟨b, 5, none⟩ = some v5) (h6 : w.cell? ⟨b, 6, none⟩ = some v6) (h7 : w.cell? ⟨b, 7, none⟩ = some v7) (h8 : w.cell? ⟨b, 8, none⟩ = some v8) (h9 : w.cell? ⟨b, 9, none⟩ = some v9) : Ten w b [v0, v1, v2, v3, v4, v5, v6, v7, v8, v9]
  | 0, _, e => by obtain rfl := Option.some.inj e; exact h0
  | 1, _, e => by obtain rfl := Option.some.inj e; exact h1
  | 2, _, e => by obtain rfl := Option.some.inj e; exact h2
  | 3, _, e => by obtain rfl := Option.some.inj e; exact h3
  | 4, _, e => by obtain rfl := Option.some.inj e; exact h4
  | 5, _, e => by obtain rfl := Option.some.inj e; exact h5
  | 6, _, e => by obtain rfl := Option.some.inj e; exact h6
  | 7, _, e => by obtain rfl := Option.some.inj e; exact h7
  | 8, _, e => by obtain rfl := Option.some.inj e; exact h8
  | 9, _, e => by obtain rfl := Option.some.inj e; exact h9
  | q + 10, _, e => by simp at e
theorem AInv.drew {p : Pl} {K : Nat} {W : World} (h : AInv p K W) : AInv p K W.drew := h.below ⟨rfl, rfl, rfl, Nat.le_refl _, fun _ _ => rfl⟩
theorem grown_set {W w : World} {bm b q : Nat} {v : Value} (h : W.grownBy w (some bm)) (hb : W.heap.size ≤ b) : W.grownBy (w.setCell ⟨b, q, none⟩ v) (some bm) := World.grownBy.andThen h (grownBy_set w b q v) (fun j e => .inl (by have := Option.some.inj e; omega))
theorem grown_drew {W w : World} {row : Option Nat} (h : W.grownBy w row) : W.grownBy w.drew row := World.grownBy.trans h (grownBy_drew _ _)
/-- What is held in along: the items, the measure. -/
structure ACut (W : World) (p : Pl) (K : Nat) (l : List Value) (w' : World) : Prop where
  ten : Ten w' W.heap.size l
  fz : ∀ q, w'.frozen? ⟨W.heap.size, q, none⟩ = false
  lt : W.heap.size < w'.heap.size
  gr : W.grownBy w' (some p.bm)
  inv : AInv p K w'
theorem ACut.call {W : World} {p : Pl} {K K' : Nat} {l : List Value} {w w' : World} (h : ACut W p K l w) (hb : W.heap.size ≠ p.bm) (hg : w.grownBy w' (some p.bm)) (hA : AInv p K' w') : ACut W p K' l w' :=
  ⟨h.ten.grown hg (by simpa using hb), fun q => (hg.frozen_far ⟨W.heap.size, q, none⟩ h.lt (by simpa using hb)).trans (h.fz q), Nat.lt_of_lt_of_le h.lt hg.size, World.grownBy.trans h.gr hg, hA⟩
theorem ACut.drew {W : World} {p : Pl} {K : Nat} {l : List Value} {w : World} (h : ACut W p K l w) : ACut W p K l w.drew := ⟨h.ten, h.fz, h.lt, grown_drew h.gr, h.inv.drew⟩
abbrev it0 : List Value := [.int .i8 0, .int .i64 0, .int .i64 0, .int .i64 0, .int .i64 0, .int .i8 0, .int .i64 0, .int .i64 0, .int .i64 0, .int .i64 0]
theorem ACut.start {W : World} {p : Pl} {K : Nat} (hA : AInv p K (W.alloc itZ)) : ACut W p K it0 (W.alloc itZ) :=
  ⟨Ten.made W _ _, fun q => frozen_newB _ _ _ _ _ rfl, by simp, World.grownBy_alloc _ _ _, hA⟩
abbrev itA : List Value := [.int .i8 1, .int .i64 6, .int .i64 0, .int .i64 3, .int .i64 0, .int .i8 0, .int .i64 0, .int .i64 0, .int .i64 0, .int .i64 0]
abbrev itB : List Value := [.int .i8 1, .int .i64 6, .int .i64 0, .int .i64 3, .int .i64 0, .int .i8 1, .int .i64 1, .int .i64 0, .int .i64 1, .int .i64 0]
theorem ACut.set {W : World} {p : Pl} {K : Nat} {l : List Value} {w : World} (h : ACut W p K l w) (l1 : p.pm < W.heap.size) (l2 : p.g < W.heap.size) (l3 : p.bk < W.heap.size) (l4 : p.bm < W.heap.size) (l5 : p.kN < W.heap.size) (q : Nat) (u : Value) (hq : q < l.length) : ACut W p K (l.set q u) (w.setCell ⟨W.heap.size, q, none⟩ u) := by
  refine ⟨fun r v hv => ?_, fun r => by rw [World.frozen?_setCell]; exact h.fz r, by simp [World.setCell]; exact h.lt, grown_set h.gr (Nat.le_refl _), h.inv.set W.heap.size (Nat.le_refl _) l1 l2 l3 l4 l5⟩
  by_cases e : q = r
  · subst e
    rw [List.getElem?_set_self hq] at hv
    obtain rfl := Option.some.inj hv
    exact setCell_here w _ (h.ten q _ (List.getElem?_eq_getElem hq))
  · rw [List.getElem?_set_ne e] at hv
    exact (setCell_far w _ e).trans (h.ten r v hv)
set_option maxRecDepth 100000 in
set_option maxHeartbeats 8000000 in
theorem a_along (x v : Int) (HS : ∀ w' lb, Its w' lb → Calls Tryz.prog 96 #[.slice (some ⟨lb, 0, none⟩) 2 2, .int .i64 x, .int .i64 1] w' (fun e w2 => ∃ b : Nat, e = .returned (.slice (some ⟨b, 0, none⟩) 2 2) ∧ w'.heap.size ≤ b ∧ b < w2.heap.size ∧ Two w2 b v 1 ∧ Below w'.heap.size w' w2)) (p : Pl) (K : Nat) (hK : K < 700000) (W : World) (A : AInv p K W) :
    Calls Tryz.prog 54 #[.pointer (some ⟨p.pm, 0, none⟩), .pointer (some ⟨p.g, 0, none⟩), .int .i64 x] W (EPost v 1 p (K + 4) W) := by
  have hmk : ∀ w, (Instr.makeSlice 44 (.int .i64 2) (.int .i64 2)).run Tryz.prog w = .ok (.slice (some ⟨w.heap.size, 0, none⟩) 2 2) (w.alloc itZ) := fun w => by kernel_rfl
  have kd : W.cell? ⟨p.g, 3, none⟩ = some (.slice (some ⟨p.kN, 0, none⟩) 2 p.kc) := A.n0.kids
  have lg := A.m.lg
  have lp := A.m.lp
  have lk := A.m.lk
  have lm := A.m.lm
  have lq := A.lq
  have hbm : W.heap.size ≠ p.bm := Nat.ne_of_gt lm
  have hm3 : min (3 : Int) 6 = 3 := by decide
  have hm1 : min (1 : Int) 1 = 1 := by decide
  have HA1 : Hid (AInv p K (W.alloc itZ)) := Lib.hid (A.below (Below.alloc (Below.refl _ _) (Nat.le_refl _) _))
  have HSZ := Lib.hid HS
  clear A HS
  go_enter Tryz.func54, Tryz.ntmps54
  go_wp2
  go_loopw [22] (fun i wr => (i = .int .i64 0 ∧ ACut W p K it0 wr) ∨ (i = .int .i64 1 ∧ ACut W p (K + 2) itA wr) ∨ (i = .int .i64 2 ∧ ACut W p (K + 4) itB wr)) (fun i _ => 2 - (intOf i).toNat)
  case atStart => exact .inl ⟨rfl, ACut.start HA1.out⟩
  case round =>
    clear kd HA1
    rcases hrel with ⟨rfl, hC⟩ | ⟨rfl, hC⟩ | ⟨rfl, hC⟩
    · skip
      have A := hC.inv
      have kd : wr.cell? ⟨p.g, 3, none⟩ = some (.slice (some ⟨p.kN, 0, none⟩) 2 p.kc) := A.n0.kids
      have q0 := A.q0
      have q1 := A.q1
      have c0 := A.m.c0
      have x0 : wr.cell? ⟨p.g, 38, none⟩ = some (.int .i8 0) := A.n1.w0
      have x1 : wr.cell? ⟨p.g, 39, none⟩ = some (.int .i64 0) := A.n1.w1
      have x2 : wr.cell? ⟨p.g, 40, none⟩ = some (.int .i64 0) := A.n1.w2
      have x3 : wr.cell? ⟨p.g, 41, none⟩ = some (.int .i64 0) := A.n1.w3
      have x4 : wr.cell? ⟨p.g, 42, none⟩ = some (.int .i64 0) := A.n1.w4
      have y0 := hC.ten 0 _ rfl
      have y1 := hC.ten (0 + 1) _ rfl
      have y2 := hC.ten (0 + 2) _ rfl
      have y3 := hC.ten (0 + 3) _ rfl
      have y4 := hC.ten (0 + 4) _ rfl
      have y5 := hC.fz
      have y6 := hC.lt
      have lgr : p.g < wr.heap.size := A.m.lg
      have HC0 := Lib.hid (((((hC.set lp lg lk lm lq 0 (.int .i8 0) (by decide)).set lp lg lk lm lq (0 + 1) (.int .i64 0) (by decide)).set lp lg lk lm lq (0 + 2) (.int .i64 0) (by decide)).set lp lg lk lm lq (0 + 3) (.int .i64 0) (by decide)).set lp lg lk lm lq (0 + 4) (.int .i64 0) (by decide))
      have HM1 := Lib.hid (mw_lit1 p _ (by omega) _ HC0.out.inv)
      clear A hC
      go_upto_region 8 with (go_at_call 41; ((with_reducible refine HM1.out.mono ?_); rintro e1' w2 ⟨rfl, hg2, hA2⟩))
      have HC2 := Lib.hid (ACut.call HC0.out hbm hg2 hA2)
      have t4 := HC2.out.ten (0 + 4) _ rfl
      have l2 := HC2.out.lt
      have HCD := Lib.hid HC2.out.drew
      have HL1 := Lib.hid (lw_lit1 p _ (by omega) w2.drew HCD.out.inv)
      clear kd q0 q1 c0 x0 x1 x2 x3 x4 y0 y1 y2 y3 y4 y5 y6 hg2 hA2 HM1 HC0
      go_region_with (go_at_call 40; ((with_reducible refine HL1.out.mono ?_); rintro e1' w3 ⟨rfl, hg3, hA3⟩; have HC3 : Hid (ACut W p (K + 2) it0 w3) := Lib.hid (ACut.call HCD.out hbm hg3 hA3); have y0 := HC3.out.ten 0 _ rfl; have y1 := HC3.out.ten (0 + 1) _ rfl; have y2 := HC3.out.ten (0 + 2) _ rfl; have y3 := HC3.out.ten (0 + 3) _ rfl; have y4 := HC3.out.ten (0 + 4) _ rfl; have y5 := HC3.out.fz; have y6 := HC3.out.lt))
      all_goals
        have HX := Lib.hid (((((HC3.out.set lp lg lk lm lq 0 (.int .i8 1) (by decide)).set lp lg lk lm lq (0 + 1) (.int .i64 6) (by decide)).set lp lg lk lm lq (0 + 2) (.int .i64 0) (by decide)).set lp lg lk lm lq (0 + 3) (.int .i64 3) (by decide)).set lp lg lk lm lq (0 + 4) (.int .i64 0) (by decide))
        clear y0 y1 y2 y3 y4 y5 y6 HC3
        go_wp2_with fail
        go_roundw
        case rel => first | exact .inr <| .inl ⟨rfl, HX.out⟩ | exact .inr <| .inl ⟨rfl, HX.out.drew⟩
        case measure => simp [intOf]
    · skip
      have A := hC.inv
      have kd : wr.cell? ⟨p.g, 3, none⟩ = some (.slice (some ⟨p.kN, 0, none⟩) 2 p.kc) := A.n0.kids
      have q0 := A.q0
      have q1 := A.q1
      have c0 := A.m.c0
      have x0 : wr.cell? ⟨p.g, 72, none⟩ = some (.int .i8 0) := A.n2.w0
      have x1 : wr.cell? ⟨p.g, 73, none⟩ = some (.int .i64 0) := A.n2.w1
      have x2 : wr.cell? ⟨p.g, 74, none⟩ = some (.int .i64 0) := A.n2.w2
      have x3 : wr.cell? ⟨p.g, 75, none⟩ = some (.int .i64 0) := A.n2.w3
      have x4 : wr.cell? ⟨p.g, 76, none⟩ = some (.int .i64 0) := A.n2.w4
      have y0 := hC.ten 5 _ rfl
      have y1 := hC.ten (5 + 1) _ rfl
      have y2 := hC.ten (5 + 2) _ rfl
      have y3 := hC.ten (5 + 3) _ rfl
      have y4 := hC.ten (5 + 4) _ rfl
      have y5 := hC.fz
      have y6 := hC.lt
      have lgr : p.g < wr.heap.size := A.m.lg
      have HC0 := Lib.hid (((((hC.set lp lg lk lm lq 5 (.int .i8 0) (by decide)).set lp lg lk lm lq (5 + 1) (.int .i64 0) (by decide)).set lp lg lk lm lq (5 + 2) (.int .i64 0) (by decide)).set lp lg lk lm lq (5 + 3) (.int .i64 0) (by decide)).set lp lg lk lm lq (5 + 4) (.int .i64 0) (by decide))
      have HM1 := Lib.hid (mw_lit2 p _ (by omega) _ HC0.out.inv)
      clear A hC
      go_upto_region 8 with (go_at_call 41; ((with_reducible refine HM1.out.mono ?_); rintro e1' w2 ⟨rfl, hg2, hA2⟩))
      have HC2 := Lib.hid (ACut.call HC0.out hbm hg2 hA2)
      have t4 := HC2.out.ten (5 + 4) _ rfl
      have l2 := HC2.out.lt
      have HCD := Lib.hid HC2.out.drew
      have HL1 := Lib.hid (lw_lit2 p _ (by omega) w2.drew HCD.out.inv)
      clear kd q0 q1 c0 x0 x1 x2 x3 x4 y0 y1 y2 y3 y4 y5 y6 hg2 hA2 HM1 HC0
      go_region_with (go_at_call 40; ((with_reducible refine HL1.out.mono ?_); rintro e1' w3 ⟨rfl, hg3, hA3⟩; have HC3 : Hid (ACut W p (K + 4) itA w3) := Lib.hid (ACut.call HCD.out hbm hg3 hA3); have y0 := HC3.out.ten 5 _ rfl; have y1 := HC3.out.ten (5 + 1) _ rfl; have y2 := HC3.out.ten (5 + 2) _ rfl; have y3 := HC3.out.ten (5 + 3) _ rfl; have y4 := HC3.out.ten (5 + 4) _ rfl; have y5 := HC3.out.fz; have y6 := HC3.out.lt))
      all_goals
        have HX := Lib.hid (((((HC3.out.set lp lg lk lm lq 5 (.int .i8 1) (by decide)).set lp lg lk lm lq (5 + 1) (.int .i64 1) (by decide)).set lp lg lk lm lq (5 + 2) (.int .i64 0) (by decide)).set lp lg lk lm lq (5 + 3) (.int .i64 1) (by decide)).set lp lg lk lm lq (5 + 4) (.int .i64 0) (by decide))
        clear y0 y1 y2 y3 y4 y5 y6 HC3
        go_wp2_with fail
        go_roundw
        case rel => first | exact .inr <| .inr ⟨rfl, HX.out⟩ | exact .inr <| .inr ⟨rfl, HX.out.drew⟩
        case measure => simp [intOf]
    · have gp := hC.inv.n0.gap
      have lgr : p.g < wr.heap.size := hC.inv.m.lg
      have t := hC.ten
      have HSS := Lib.hid (HSZ.out wr W.heap.size ⟨t 0 _ rfl, t 1 _ rfl, t 2 _ rfl, t 3 _ rfl, t 4 _ rfl, t 5 _ rfl, t 6 _ rfl, t 7 _ rfl, t 8 _ rfl, t 9 _ rfl⟩)
      have HC := Lib.hid hC
      clear hC t HSZ
      go_wp2_with (go_at_call 96; ((with_reducible refine HSS.out.mono ?_); rintro e1' w2 ⟨b, rfl, hb1, hb2, ⟨z0, z1⟩, hb3⟩))
      go_ret
      exact ⟨b, rfl, z0, z1, Nat.le_trans HC.out.gr.size hb1, hb2, grownBy_then HC.out.gr hb3, HC.out.inv.below hb3⟩
theorem a_along_8 (p : Pl) (K : Nat) (hK : K < 700000) (W : World) (A : AInv p K W) : Calls Tryz.prog 54 #[.pointer (some ⟨p.pm, 0, none⟩), .pointer (some ⟨p.g, 0, none⟩), .int .i64 8] W (EPost 6 1 p (K + 4) W) := a_along 8 6 (fun w' lb h => sizes_8 w' lb h) p K hK W A
theorem a_along_5 (p : Pl) (K : Nat) (hK : K < 700000) (W : World) (A : AInv p K W) : Calls Tryz.prog 54 #[.pointer (some ⟨p.pm, 0, none⟩), .pointer (some ⟨p.g, 0, none⟩), .int .i64 5] W (EPost 3 1 p (K + 4) W) := a_along 5 3 (fun w' lb h => sizes_5 w' lb h) p K hK W A
end Go.Proofs.YthhomflonpjbmaaGreatDoor
/-
  The walk of a row's height; the row's Least, Most, Tall.
-/
namespace Go.Proofs.YthhomflonpjbmaaGreatDoor
open Go.RowKit Go.Maps
theorem high_lit16 (p : Pl) (K : Nat) (hK : K < 900000) (W : World) (A : AInv p K W) : Calls Tryz.prog 46 #[.pointer (some ⟨p.pm, 0, none⟩), .int .i64 1, .int .i64 6] W (APost 1 p (K + 1) W) := (a_high p K hK W A 1 6 (by omega)).mono fun e w h => by rw [show ff 1 2 6 = 1 by decide] at h; exact h
theorem high_lit13 (p : Pl) (K : Nat) (hK : K < 900000) (W : World) (A : AInv p K W) : Calls Tryz.prog 46 #[.pointer (some ⟨p.pm, 0, none⟩), .int .i64 1, .int .i64 3] W (APost 2 p (K + 1) W) := (a_high p K hK W A 1 3 (by omega)).mono fun e w h => by rw [show ff 1 2 3 = 2 by decide] at h; exact h
theorem high_lit21 (p : Pl) (K : Nat) (hK : K < 900000) (W : World) (A : AInv p K W) : Calls Tryz.prog 46 #[.pointer (some ⟨p.pm, 0, none⟩), .int .i64 2, .int .i64 1] W (APost 1 p (K + 1) W) := (a_high p K hK W A 2 1 (by omega)).mono fun e w h => by rw [show ff 2 2 1 = 1 by decide] at h; exact h
set_option maxRecDepth 100000 in
set_option maxHeartbeats 4000000 in
theorem a_row_tall_8 (p : Pl) (K : Nat) (hK : K < 600000) (W : World) (A : AInv p K W) (n : Int) :
    Calls Tryz.prog 53 #[.pointer (some ⟨p.pm, 0, none⟩), .pointer (some ⟨p.g, 0, none⟩), .int .i64 n, .int .i64 8] W (APost 1 p (K + 6) W) := by
  have HAL := Lib.hid (a_along_8 p K (by omega) W A)
  have HC1 : Hid (∀ w', AInv p (K + 4) w' → Calls Tryz.prog 46 #[.pointer (some ⟨p.pm, 0, none⟩), .int .i64 1, .int .i64 6] w' (APost 1 p (K + 5) w')) := Lib.hid fun w' A' => high_lit16 p (K + 4) (by omega) w' A'
  have HC2 : Hid (∀ w', AInv p (K + 5) w' → Calls Tryz.prog 46 #[.pointer (some ⟨p.pm, 0, none⟩), .int .i64 2, .int .i64 1] w' (APost 1 p (K + 6) w')) := Lib.hid fun w' A' => high_lit21 p (K + 5) (by omega) w' A'
  have hm1 : max (0 : Int) 1 = 1 := by decide
  have hm2 : max (1 : Int) 1 = 1 := by decide
  have lm := A.m.lm
  clear A
  go_enter Tryz.func53, Tryz.ntmps53
  go_wp2_with (go_at_call 54; ((with_reducible refine HAL.out.mono ?_); rintro e1' w2 ⟨b, rfl, z0, z1, hb1, hb2, hg2, hA2⟩; have kd : w2.cell? ⟨p.g, 3, none⟩ = some (.slice (some ⟨p.kN, 0, none⟩) 2 p.kc) := hA2.n0.kids; have q0 := hA2.q0; have q1 := hA2.q1; have HK1 := Lib.hid (HC1.out _ hA2); have HG2 := Lib.hid hg2; clear hg2 hA2))
  refine wp_loop_rounds 3 ?_
  rw [rounds_succ]
  go_wp2_with (go_at_call 46; ((with_reducible refine HK1.out.mono ?_); rintro e1' w3 ⟨rfl, hg3, hA3⟩; have kd3 : w3.cell? ⟨p.g, 3, none⟩ = some (.slice (some ⟨p.kN, 0, none⟩) 2 p.kc) := hA3.n0.kids; have r0 := hA3.q0; have r1 := hA3.q1; have y1 : w3.cell? ⟨b, 1, none⟩ = some (.int .i64 1) := hg3.cell z1 (by simp; omega); have HK2 := Lib.hid (HC2.out _ hA3); have HG3 := Lib.hid (World.grownBy.trans HG2.out hg3); clear hg3 hA3))
  rw [rounds_succ]
  go_wp2_with (go_at_call 46; ((with_reducible refine HK2.out.mono ?_); rintro e1' w4 ⟨rfl, hg4, hA4⟩; have HA4 := Lib.hid hA4; have HG4 := Lib.hid (World.grownBy.trans HG3.out hg4); clear hg4 hA4))
  rw [rounds_succ]
  go_wp2
  go_ret
  exact ⟨rfl, HG4.out, HA4.out⟩
set_option maxRecDepth 100000 in
set_option maxHeartbeats 4000000 in
theorem a_row_tall_5 (p : Pl) (K : Nat) (hK : K < 600000) (W : World) (A : AInv p K W) (n : Int) :
    Calls Tryz.prog 53 #[.pointer (some ⟨p.pm, 0, none⟩), .pointer (some ⟨p.g, 0, none⟩), .int .i64 n, .int .i64 5] W (APost 2 p (K + 6) W) := by
  have HAL := Lib.hid (a_along_5 p K (by omega) W A)
  have HC1 : Hid (∀ w', AInv p (K + 4) w' → Calls Tryz.prog 46 #[.pointer (some ⟨p.pm, 0, none⟩), .int .i64 1, .int .i64 3] w' (APost 2 p (K + 5) w')) := Lib.hid fun w' A' => high_lit13 p (K + 4) (by omega) w' A'
  have HC2 : Hid (∀ w', AInv p (K + 5) w' → Calls Tryz.prog 46 #[.pointer (some ⟨p.pm, 0, none⟩), .int .i64 2, .int .i64 1] w' (APost 1 p (K + 6) w')) := Lib.hid fun w' A' => high_lit21 p (K + 5) (by omega) w' A'
  have hm1 : max (0 : Int) 2 = 2 := by decide
  have hm2 : max (2 : Int) 1 = 2 := by decide
  have lm := A.m.lm
  clear A
  go_enter Tryz.func53, Tryz.ntmps53
  go_wp2_with (go_at_call 54; ((with_reducible refine HAL.out.mono ?_); rintro e1' w2 ⟨b, rfl, z0, z1, hb1, hb2, hg2, hA2⟩; have kd : w2.cell? ⟨p.g, 3, none⟩ = some (.slice (some ⟨p.kN, 0, none⟩) 2 p.kc) := hA2.n0.kids; have q0 := hA2.q0; have q1 := hA2.q1; have HK1 := Lib.hid (HC1.out _ hA2); have HG2 := Lib.hid hg2; clear hg2 hA2))
  refine wp_loop_rounds 3 ?_
  rw [rounds_succ]
  go_wp2_with (go_at_call 46; ((with_reducible refine HK1.out.mono ?_); rintro e1' w3 ⟨rfl, hg3, hA3⟩; have kd3 : w3.cell? ⟨p.g, 3, none⟩ = some (.slice (some ⟨p.kN, 0, none⟩) 2 p.kc) := hA3.n0.kids; have r0 := hA3.q0; have r1 := hA3.q1; have y1 : w3.cell? ⟨b, 1, none⟩ = some (.int .i64 1) := hg3.cell z1 (by simp; omega); have HK2 := Lib.hid (HC2.out _ hA3); have HG3 := Lib.hid (World.grownBy.trans HG2.out hg3); clear hg3 hA3))
  rw [rounds_succ]
  go_wp2_with (go_at_call 46; ((with_reducible refine HK2.out.mono ?_); rintro e1' w4 ⟨rfl, hg4, hA4⟩; have HA4 := Lib.hid hA4; have HG4 := Lib.hid (World.grownBy.trans HG3.out hg4); clear hg4 hA4))
  rw [rounds_succ]
  go_wp2
  go_ret
  exact ⟨rfl, HG4.out, HA4.out⟩
end Go.Proofs.YthhomflonpjbmaaGreatDoor
/-
  The row's numbers: Least, Most, Tall at its node, and at no node.
-/
namespace Go.Proofs.YthhomflonpjbmaaGreatDoor
open Go.RowKit Go.Maps
theorem a0_least (p : Pl) (K : Nat) (hK : K < 500000) (W : World) (A : AInv p K W) : Calls Tryz.prog 11 #[.pointer (some ⟨p.pm, 0, none⟩), .int .i64 0] W (APost 5 p (K + 3) W) := by
  refine (least1_at_2 W p.pm p.g p.bk p.bm 3 p.cc K (K + 2) ff 0 (by omega) (by omega) _ 1 0 0 0 0 0 0 ⟨#[]⟩ A.m (by omega) (by omega) A.n0 (by omega) (by omega) (by omega) (by omega) (by omega) 5 0 (by omega) (by decide) (by decide) fun W' hg hM => ?_).mono fun e w' h => APost.of A h
  exact (a_row_least p K (by omega) W' (A.grown hg hM) 0).mono fun e w' h => h.to
theorem a0_most (p : Pl) (K : Nat) (hK : K < 500000) (W : World) (A : AInv p K W) : Calls Tryz.prog 12 #[.pointer (some ⟨p.pm, 0, none⟩), .int .i64 0] W (APost 8 p (K + 3) W) := by
  refine (most1_at_2 W p.pm p.g p.bk p.bm 3 p.cc K (K + 2) ff 0 (by omega) (by omega) _ 1 0 0 0 0 0 0 ⟨#[]⟩ A.m (by omega) (by omega) A.n0 (by omega) (by omega) (by omega) (by omega) (by omega) 8 0 (by omega) (by decide) (by decide) fun W' hg hM => ?_).mono fun e w' h => APost.of A h
  exact (a_row_most p K (by omega) W' (A.grown hg hM) 0).mono fun e w' h => h.to
theorem a0_tall8 (p : Pl) (K : Nat) (hK : K < 500000) (W : World) (A : AInv p K W) : Calls Tryz.prog 10 #[.pointer (some ⟨p.pm, 0, none⟩), .int .i64 0, .int .i64 8] W (APost 1 p (K + 7) W) := by
  refine (tall1_at_2 W p.pm p.g p.bk p.bm 3 p.cc K (K + 6) ff 0 (by omega) (by omega) _ 1 0 0 0 0 0 0 ⟨#[]⟩ A.m (by omega) (by omega) A.n0 (by omega) (by omega) (by omega) (by omega) (by omega) 8 8 (by omega) (by decide) 1 0 0 (by omega) (by decide) (by decide) (by decide) fun W' hg hM => ?_).mono fun e w' h => APost.of A h
  exact (a_row_tall_8 p K (by omega) W' (A.grown hg hM) 0).mono fun e w' h => h.to
theorem a0_tall5 (p : Pl) (K : Nat) (hK : K < 500000) (W : World) (A : AInv p K W) : Calls Tryz.prog 10 #[.pointer (some ⟨p.pm, 0, none⟩), .int .i64 0, .int .i64 5] W (APost 2 p (K + 7) W) := by
  refine (tall1_at_2 W p.pm p.g p.bk p.bm 3 p.cc K (K + 6) ff 0 (by omega) (by omega) _ 1 0 0 0 0 0 0 ⟨#[]⟩ A.m (by omega) (by omega) A.n0 (by omega) (by omega) (by omega) (by omega) (by omega) 5 5 (by omega) (by decide) 2 0 0 (by omega) (by decide) (by decide) (by decide) fun W' hg hM => ?_).mono fun e w' h => APost.of A h
  exact (a_row_tall_5 p K (by omega) W' (A.grown hg hM) 0).mono fun e w' h => h.to
set_option maxRecDepth 100000 in
set_option maxHeartbeats 4000000 in
theorem mof_out (w : World) (pm g nn cc : Nat) (n y x : Int) (fv : Value) (hn : (nn : Int) ≤ n) (c0 : w.cell? ⟨pm, 0, none⟩ = some (.slice (some ⟨g, 0, none⟩) nn cc)) : Calls Tryz.prog 22 #[.pointer (some ⟨pm, 0, none⟩), .agg #[.int .i64 n, .int .i64 y, .int .i64 x], fv] w (VBel (.int .i64 0) w) := by
  have e1 : (decide (n < 0)) = false := by simp; omega
  have e2 : (decide ((nn : Int) ≤ n)) = true := by simp; omega
  have lp : pm < w.heap.size := World.block_lt_of_cell? w ⟨pm, 0, none⟩ c0
  go_enter Tryz.func22, Tryz.ntmps22
  go_upto_region 1 with (fail)
  go_quiet (fail)
  go_wp2
  go_ret
  refine ⟨rfl, ?_⟩
  (repeat (first | exact Below.refl _ _ | assumption | refine below_drewN ?_ _ | refine Below.drew ?_ | (refine Below.alloc ?_ ?bs _; (case bs => first | omega | (simp; done) | (simp; omega))) | (refine Below.setCell ?_ ?bs _; (case bs => first | omega | (simp; done) | (simp; omega)))))
set_option maxRecDepth 100000 in
set_option maxHeartbeats 4000000 in
theorem a9_tall (p : Pl) (K : Nat) (W : World) (A : AInv p K W) : Calls Tryz.prog 10 #[.pointer (some ⟨p.pm, 0, none⟩), .int .i64 9, .int .i64 5] W (APost 0 p K W) := by
  have HS := Lib.hid fun W => side_any 5 (by omega) W
  rw [show min (max (5 : Int) 0) 4096 = 5 by decide] at HS
  have HO : Hid (∀ w' fv, Below W.heap.size W w' → Calls Tryz.prog 22 #[.pointer (some ⟨p.pm, 0, none⟩), .agg #[.int .i64 9, .int .i64 2, .int .i64 5], fv] w' (VBel (.int .i64 0) w')) := Lib.hid fun w' fv hb => mof_out w' p.pm p.g 3 p.cc 9 2 5 fv (by omega) (A.below hb).m.c0
  have HA := Lib.hid A
  clear A
  go_enter Tryz.func10, Tryz.ntmps10
  go_wp2_with (first | (go_at_call 21; ((with_reducible refine (HS.out _).mono ?_); rintro e1' w3 ⟨rfl, rfl⟩)) | (go_at_call 22; ((with_reducible refine (HO.out _ _ ?_).mono ?_); (repeat (first | exact Below.refl _ _ | assumption | refine below_drewN ?_ _ | refine Below.drew ?_ | (refine Below.alloc ?_ ?bs _; (case bs => first | omega | (simp; done) | (simp; omega))) | (refine Below.setCell ?_ ?bs _; (case bs => first | omega | (simp; done) | (simp; omega))))); rintro e1' w2 ⟨rfl, hb2⟩)))
  go_ret
  have hb : Below W.heap.size W w2 := Below.trans (by (repeat (first | exact Below.refl _ _ | assumption | refine below_drewN ?_ _ | refine Below.drew ?_ | (refine Below.alloc ?_ ?bs _; (case bs => first | omega | (simp; done) | (simp; omega))) | (refine Below.setCell ?_ ?bs _; (case bs => first | omega | (simp; done) | (simp; omega)))))) (hb2.mono (by simp <;> omega))
  exact ⟨rfl, grownBy_below hb _, HA.out.below hb⟩
end Go.Proofs.YthhomflonpjbmaaGreatDoor
/-
  The walk of the law's alive: a row of two texts is measured; nothing is no measure.
-/
namespace Go.Proofs.YthhomflonpjbmaaGreatDoor
open Go.RowKit Go.Maps
abbrev rowA (b : Nat) : Array Value := #[.int .i8 2, .string ⟨#[]⟩, .string ⟨#[]⟩, .slice (some ⟨b, 0, none⟩) 2 2, .int .i8 0, .int .i64 0, .int .i64 0, .int .i64 0, .int .i64 0, .int .i8 0, .int .i64 0, .int .i64 0, .int .i64 0, .int .i64 0, .int .i64 1, .int .i64 0, .int .i64 0, .int .i64 0, .int .i64 0, .int .i8 0, .int .i8 0, .int .i8 0, .string ⟨#[]⟩, .int .i8 0, .int .i32 0, .int .i32 0, .int .u8 0, .int .u8 0, .slice none 0 0, .int .i64 0, .int .i64 0, .int .i64 0, .int .i64 0, .int .u8 0, .int .i8 1, .string ⟨#[]⟩, .string ⟨#[]⟩, .slice none 0 0, .int .i8 0, .int .i64 0, .int .i64 0, .int .i64 0, .int .i64 0, .int .i8 0, .int .i64 0, .int .i64 0, .int .i64 0, .int .i64 0, .int .i64 0, .int .i64 0, .int .i64 0, .int .i64 0, .int .i64 0, .int .i8 0, .int .i8 0, .int .i8 0, .string ⟨#[97, 98, 32, 99, 100, 101]⟩, .int .i8 0, .int .i32 0, .int .i32 0, .int .u8 0, .int .u8 0, .slice none 0 0, .int .i64 0, .int .i64 0, .int .i64 0, .int .i64 0, .int .u8 0, .int .i8 1, .string ⟨#[]⟩, .string ⟨#[]⟩, .slice none 0 0, .int .i8 0, .int .i64 0, .int .i64 0, .int .i64 0, .int .i64 0, .int .i8 0, .int .i64 0, .int .i64 0, .int .i64 0, .int .i64 0, .int .i64 0, .int .i64 0, .int .i64 0, .int .i64 0, .int .i64 0, .int .i8 0, .int .i8 0, .int .i8 0, .string ⟨#[120]⟩, .int .i8 0, .int .i32 0, .int .i32 0, .int .u8 0, .int .u8 0, .slice none 0 0, .int .i64 0, .int .i64 0, .int .i64 0, .int .i64 0, .int .u8 0]
theorem three_made (w : World) : Three ((w.alloc (.cells #[.int .i64 1, .int .i64 2] 3)).alloc (.cells (rowA w.heap.size) 46)) (w.heap.size + 1) w.heap.size 2 ⟨#[]⟩ abT xT := by
  have hc : ∀ q, ((w.alloc (.cells #[.int .i64 1, .int .i64 2] 3)).alloc (.cells (rowA w.heap.size) 46)).cell? ⟨w.heap.size + 1, q, none⟩ = (rowA w.heap.size)[q]? := fun q => cell_newB _ _ _ _ _ (by simp)
  refine ⟨?_, ?_, ?_, ?_, ?_⟩
  · constructor <;> (rw [hc]; rfl)
  · constructor <;> (rw [hc]; rfl)
  · constructor <;> (rw [hc]; rfl)
  · exact (World.cell?_alloc_lt _ _ ⟨w.heap.size, 0, none⟩ (by simp)).trans (cell_newB _ _ _ _ _ rfl)
  · exact (World.cell?_alloc_lt _ _ ⟨w.heap.size, 1, none⟩ (by simp)).trans (cell_newB _ _ _ _ _ rfl)
theorem new_pl (w : World) (g kb kc c : Nat) (h : Three w g kb kc ⟨#[]⟩ abT xT) (hg : g < w.heap.size) (hkb : kb < w.heap.size) :
    Calls Tryz.prog 8 #[.agg #[.slice (some ⟨g, 0, none⟩) 3 c]] w (fun e W => ∃ p : Pl, e = .returned (.tuple #[.pointer (some ⟨p.pm, 0, none⟩), .int .i64 0]) ∧ AInv p 0 W ∧ Below w.heap.size w W ∧ w.heap.size ≤ p.bm) :=
  (new_three w g kb kc c _ _ _ h hg hkb (by decide) (by decide) (by decide)).mono fun e W ⟨pm, g', bk, bm, cc, kN, kc', k1, k2, he, hn, n0, n1, n2, q0, q1, hk⟩ =>
    ⟨⟨pm, g', bk, bm, cc, kN, kc', k1, k2⟩, he, ⟨hn.2.2.2.2.2 ff, n0, n1, n2, q0, q1, hk⟩, hn.1, hn.2.2.2.2.1⟩
/-- What is held in alive. -/
def LSt (W : World) (p : Pl) (K : Nat) (w : World) : Prop := AInv p K w ∧ Below W.heap.size W w ∧ W.heap.size ≤ p.bm
theorem LSt.inv {W : World} {p : Pl} {K : Nat} {w : World} (h : LSt W p K w) : AInv p K w := h.1
theorem LSt.bel {W : World} {p : Pl} {K : Nat} {w w' : World} (h : LSt W p K w) (hb : Below w.heap.size w w') : LSt W p K w' := ⟨h.1.below hb, h.2.1.trans (hb.mono h.2.1.size), h.2.2⟩
theorem LSt.post {W : World} {p : Pl} {K K' : Nat} {w w' : World} (h : LSt W p K w) (hg : w.grownBy w' (some p.bm)) (hA : AInv p K' w') : LSt W p K' w' := ⟨hA, h.2.1.trans (below_grownBy hg h.2.2 h.2.1.size), h.2.2⟩
set_option maxRecDepth 100000 in
set_option maxHeartbeats 4000000 in
theorem alive_any (w : World) : Calls Tryz.prog 9 #[] w (VBel (.bool true) w) := by
  have hb0 : Below w.heap.size w ((w.alloc (.cells #[.int .i64 1, .int .i64 2] 3)).alloc (.cells (rowA w.heap.size) 46)) := by (repeat (first | exact Below.refl _ _ | assumption | refine below_drewN ?_ _ | refine Below.drew ?_ | (refine Below.alloc ?_ ?bs _; (case bs => first | omega | (simp; done) | (simp; omega))) | (refine Below.setCell ?_ ?bs _; (case bs => first | omega | (simp; done) | (simp; omega)))))
  have HNW := Lib.hid (new_pl _ (w.heap.size + 1) w.heap.size 2 3 (three_made w) (by simp) (by simp; omega))
  have HB0 := Lib.hid hb0
  clear hb0
  go_enter Tryz.func9, Tryz.ntmps9
  go_upto_region 2 with (go_at_call 8; ((with_reducible refine HNW.out.mono ?_); rintro e1' w3 ⟨p, rfl, hA3, hb3, hm3⟩))
  have H3 : Hid (LSt w p 0 w3) := Lib.hid ⟨hA3, HB0.out.trans (hb3.mono HB0.out.size), by simp at hm3; omega⟩
  clear hA3 hb3 hm3 HNW HB0
  go_wp2_with (first | (go_at_call 8; ((with_reducible refine (new_empty _).mono ?_); rintro e1' w4 ⟨rfl, hb4⟩; have H4 := Lib.hid (H3.out.bel hb4); clear hb4)) | (go_at_call 11; ((with_reducible refine (least_nil _ _).mono ?_); rintro e1' w5 ⟨rfl, hb5⟩; have H5 := Lib.hid (H4.out.bel hb5); clear hb5)) | (go_at_call 10; ((with_reducible refine (tall_nil _ _ _ (by omega)).mono ?_); rintro e1' w6 ⟨rfl, hb6⟩; have H6 := Lib.hid (H5.out.bel hb6); clear hb6)) | (go_at_call 12; ((with_reducible refine (most_nil _ _).mono ?_); rintro e1' w7 ⟨rfl, hb7⟩; have H7 := Lib.hid (H6.out.bel hb7); clear hb7)) | (go_at_call 11; ((with_reducible refine (a0_least p 0 (by omega) _ H7.out.inv).mono ?_); rintro e1' w8 ⟨rfl, hg8, hA8⟩; have H8 := Lib.hid (H7.out.post hg8 hA8); clear hg8 hA8)) | (go_at_call 12; ((with_reducible refine (a0_most p (0 + 3) (by omega) _ H8.out.inv).mono ?_); rintro e1' w9 ⟨rfl, hg9, hA9⟩; have H9 := Lib.hid (H8.out.post hg9 hA9); clear hg9 hA9)) | (go_at_call 10; ((with_reducible refine (a0_tall8 p (0 + 3 + 3) (by omega) _ H9.out.inv).mono ?_); rintro e1' w10 ⟨rfl, hg10, hA10⟩; have H10 := Lib.hid (H9.out.post hg10 hA10); clear hg10 hA10)) | (go_at_call 10; ((with_reducible refine (a0_tall5 p (0 + 3 + 3 + 7) (by omega) _ H10.out.inv).mono ?_); rintro e1' w11 ⟨rfl, hg11, hA11⟩; have H11 := Lib.hid (H10.out.post hg11 hA11); clear hg11 hA11)) | (go_at_call 10; ((with_reducible refine (a9_tall p _ _ H11.out.inv).mono ?_); rintro e1' w12 ⟨rfl, hg12, hA12⟩; have H12 := Lib.hid (H11.out.post hg12 hA12); clear hg12 hA12)))
  go_ret
  exact ⟨rfl, H12.out.2.1⟩
end Go.Proofs.YthhomflonpjbmaaGreatDoor
/-
  The measure of one text: Least, Most, Tall by what wrap says.
-/
namespace Go.Proofs.YthhomflonpjbmaaGreatDoor
open Go.RowKit Go.Maps
/-- A text node. -/
structure TD where
  md : Int
  p0 : Int
  p1 : Int
  p2 : Int
  p3 : Int
  bd : Int
  t : ByteArray
structure TD.ok (d : TD) : Prop where
  m : d.md = 0 ∨ d.md = 1 ∨ d.md = 2
  h0 : 0 ≤ d.p0 ∧ d.p0 ≤ 4096
  h1 : 0 ≤ d.p1 ∧ d.p1 ≤ 4096
  h2 : 0 ≤ d.p2 ∧ d.p2 ≤ 4096
  h3 : 0 ≤ d.p3 ∧ d.p3 ≤ 4096
  hb : 0 ≤ d.bd ∧ d.bd ≤ 4
  hs : d.t.size ≤ 65536
def TD.fx (d : TD) : Int := d.p1 + d.p3 + (if d.bd = 0 then 0 else 2)
def TD.fy (d : TD) : Int := d.p0 + d.p2 + (if d.bd = 0 then 0 else 2)
theorem TD.ok.fx {d : TD} (h : d.ok) : 0 ≤ d.fx ∧ d.fx ≤ 10000 := by
  have := h.h1; have := h.h3
  unfold TD.fx; split <;> omega
theorem TD.ok.fy {d : TD} (h : d.ok) : 0 ≤ d.fy ∧ d.fy ≤ 10000 := by
  have := h.h0; have := h.h2
  unfold TD.fy; split <;> omega
theorem leastS_le (md : Int) (t : ByteArray) (hs : t.size ≤ 65536) : leastS md (flowS t.data.toList) ≤ 1000000 := by
  have h1 := (lstep_le md (flowS t.data.toList) (fun c hc => (flowS_ok _ c hc).1.1)).1
  have h2 := flowS_len t.data.toList
  rw [blen] at h2
  unfold leastS; omega
theorem tallS_le (md : Int) (iw : Nat) (t : ByteArray) (hs : t.size ≤ 65536) : tallS md iw t ≤ 1000000 := by
  unfold tallS
  split
  · omega
  · have h2 := flowS_len t.data.toList
    rw [blen] at h2
    by_cases h0 : flowS t.data.toList = []
    · rw [h0]; simp [rowsS, linesN]
    · rw [rowsS_eq _ h0]
      have h1 := rowsN_sum (flowS t.data.toList)
      have h3 := linesN_le md iw (rowsN (flowS t.data.toList))
      omega
/-- A text's numbers. -/
def tf (d : TD) (_ y x : Int) : Int :=
  if y = 0 then min 4096 (leastS d.md (flowS d.t.data.toList) + d.fx) else if y = 1 then min 4096 (leastS 2 (flowS d.t.data.toList) + d.fx) else min 4096 (tallS d.md (max 0 (x - d.fx)).toNat d.t + d.fy)
structure TP where
  pm : Nat
  g : Nat
  bk : Nat
  bm : Nat
  cc : Nat
  kids : Value
structure TInv (q : TP) (d : TD) (K : Nat) (W : World) : Prop where
  m : MInv W q.pm q.g q.bk q.bm 1 q.cc K (tf d)
  n : NodeIn W q.g 0 1 q.kids 0 d.p0 d.p1 d.p2 d.p3 d.bd d.md d.t
theorem TInv.grown {q : TP} {d : TD} {K K' : Nat} {W W' : World} (h : TInv q d K W) (hg : W.grownBy W' (some q.bm)) (hM : MInv W' q.pm q.g q.bk q.bm 1 q.cc K' (tf d)) : TInv q d K' W' := ⟨hM, h.n.grown hg (by simpa using h.m.ng)⟩
theorem TInv.below {q : TP} {d : TD} {K : Nat} {W W' : World} (h : TInv q d K W) (hb : Below W.heap.size W W') : TInv q d K W' := h.grown (grownBy_below hb _) (h.m.below hb)
theorem TInv.other {q : TP} {d : TD} {K b : Nat} {W W' : World} (h : TInv q d K W) (hg : W.grownBy W' (some b)) (h1 : q.pm ≠ b) (h2 : q.g ≠ b) (h3 : q.bk ≠ b) (h4 : q.bm ≠ b) : TInv q d K W' :=
  ⟨h.m.kept hg (by simpa using h1) (by simpa using h3) (by simpa using h4), h.n.grown hg (by simpa using h2)⟩
def TPost (v : Int) (q : TP) (d : TD) (K : Nat) (w : World) (e : Ending) (w' : World) : Prop := e = .returned (.int .i64 v) ∧ w.grownBy w' (some q.bm) ∧ TInv q d K w'
theorem TPost.of {v : Int} {q : TP} {d : TD} {K K' : Nat} {w : World} (T : TInv q d K w) {e : Ending} {w' : World} (h : MPost v w q.pm q.g q.bk q.bm 1 q.cc K' (tf d) e w') : TPost v q d K' w e w' := ⟨h.1, h.2.1, T.grown h.2.1 h.2.2⟩
theorem t_least (q : TP) (d : TD) (ok : d.ok) (K : Nat) (hK : K < 900000) (W : World) (T : TInv q d K W) : Calls Tryz.prog 11 #[.pointer (some ⟨q.pm, 0, none⟩), .int .i64 0] W (TPost (min 4096 (leastS d.md (flowS d.t.data.toList) + d.fx)) q d (K + 1) W) := by
  have hx := ok.fx
  have hl := leastS_le d.md d.t ok.hs
  refine (least1_at_1 W q.pm q.g q.bk q.bm 1 q.cc K K (tf d) 0 (by omega) (by omega) q.kids 0 d.p0 d.p1 d.p2 d.p3 d.bd d.md d.t T.m (Nat.le_refl _) (by omega) T.n ok.h0 ok.h1 ok.h2 ok.h3 ok.hb (leastS d.md (flowS d.t.data.toList)) d.fx (by omega) rfl (by simp [tf]; omega) fun W' hg hM => ?_).mono fun e w' h => TPost.of T h
  have T' := T.grown hg hM
  exact (text_least W' q.g 0 1 q.kids 0 d.p0 d.p1 d.p2 d.p3 d.bd d.md d.t T'.n T'.m.lg _ 0 (by have := ok.hs; omega)).mono fun e w' h => mpost_of_bel hM h
theorem t_most (q : TP) (d : TD) (ok : d.ok) (K : Nat) (hK : K < 900000) (W : World) (T : TInv q d K W) : Calls Tryz.prog 12 #[.pointer (some ⟨q.pm, 0, none⟩), .int .i64 0] W (TPost (min 4096 (leastS 2 (flowS d.t.data.toList) + d.fx)) q d (K + 1) W) := by
  have hx := ok.fx
  have hl := leastS_le 2 d.t ok.hs
  refine (most1_at_1 W q.pm q.g q.bk q.bm 1 q.cc K K (tf d) 0 (by omega) (by omega) q.kids 0 d.p0 d.p1 d.p2 d.p3 d.bd d.md d.t T.m (Nat.le_refl _) (by omega) T.n ok.h0 ok.h1 ok.h2 ok.h3 ok.hb (leastS 2 (flowS d.t.data.toList)) d.fx (by omega) rfl (by simp [tf]; omega) fun W' hg hM => ?_).mono fun e w' h => TPost.of T h
  have T' := T.grown hg hM
  exact (text_most W' q.g 0 1 q.kids 0 d.p0 d.p1 d.p2 d.p3 d.bd d.md d.t T'.n T'.m.lg _ 0 (by have := ok.hs; omega)).mono fun e w' h => mpost_of_bel hM h
theorem t_tall (q : TP) (d : TD) (ok : d.ok) (K : Nat) (hK : K < 900000) (W : World) (T : TInv q d K W) (x x1 : Int) (hx : -9223372036854775808 ≤ x ∧ x ≤ 9223372036854775807) (hx1 : min (max x 0) 4096 = x1) :
    Calls Tryz.prog 10 #[.pointer (some ⟨q.pm, 0, none⟩), .int .i64 0, .int .i64 x] W (TPost (min 4096 (tallS d.md (max 0 (x1 - d.fx)).toNat d.t + d.fy)) q d (K + 1) W) := by
  have hfx := ok.fx
  have hfy := ok.fy
  have hl := tallS_le d.md (max 0 (x1 - d.fx)).toNat d.t ok.hs
  refine (tall1_at_1 W q.pm q.g q.bk q.bm 1 q.cc K K (tf d) 0 (by omega) (by omega) q.kids 0 d.p0 d.p1 d.p2 d.p3 d.bd d.md d.t T.m (Nat.le_refl _) (by omega) T.n ok.h0 ok.h1 ok.h2 ok.h3 ok.hb x x1 hx hx1 (tallS d.md (max 0 (x1 - d.fx)).toNat d.t) d.fx d.fy (by omega) rfl rfl (by simp only [tf]; simp; omega) fun W' hg hM => ?_).mono fun e w' h => TPost.of T h
  have T' := T.grown hg hM
  have := text_tall W' q.g 0 1 q.kids 0 d.p0 d.p1 d.p2 d.p3 d.bd d.md d.t T'.n T'.m.lg (.pointer (some ⟨q.pm, 0, none⟩)) 0 (max 0 (x1 - d.fx)).toNat ok.m (by omega) (by have := ok.hs; omega)
  rw [Int.toNat_of_nonneg (by omega)] at this
  exact this.mono fun e w' h => mpost_of_bel hM h
/-- A new measure of one text. -/
theorem new_td (w : World) (g o c : Nat) (d : TD) (ok : d.ok) (h : NodeAt w g o 1 (.slice none 0 0) 0 d.p0 d.p1 d.p2 d.p3 d.bd d.md d.t) (hg : g < w.heap.size) :
    Calls Tryz.prog 8 #[.agg #[.slice (some ⟨g, o, none⟩) 1 c]] w (fun e W => ∃ q : TP, e = .returned (.tuple #[.pointer (some ⟨q.pm, 0, none⟩), .int .i64 0]) ∧ TInv q d 0 W ∧ Below w.heap.size w W ∧ w.heap.size ≤ q.pm ∧ w.heap.size ≤ q.g ∧ w.heap.size ≤ q.bk ∧ w.heap.size ≤ q.bm) := by
  have hm : 0 ≤ d.md ∧ d.md ≤ 2 := by rcases ok.m with h | h | h <;> omega
  exact (new_one w g o c 0 d.p0 d.p1 d.p2 d.p3 d.bd d.md d.t h hg ok.h0 ok.h1 ok.h2 ok.h3 (by omega) ok.hb hm (by have := ok.hs; omega)).mono fun e W ⟨pm, g', bk, bm, cc, kids, he, hn, n⟩ =>
    ⟨⟨pm, g', bk, bm, cc, kids⟩, he, ⟨hn.2.2.2.2.2 (tf d), n⟩, hn.1, hn.2.1, hn.2.2.1, hn.2.2.2.1, hn.2.2.2.2.1⟩
end Go.Proofs.YthhomflonpjbmaaGreatDoor
