/-
  The walks of a measure's closures: a node's inner size, and its frame.
-/
import Derived.Test.YthhomflonpjbmaaGreatDoorQt22
import Derived.Test.YthhomflonpjbmaaGreatDoorQt19
namespace Go.Proofs.YthhomflonpjbmaaGreatDoor
open Go.RowKit Go.Maps
theorem mpost_of_bel {v : Int} {W : World} {pm g bk bm nn cc K : Nat} {f : Int → Int → Int → Int} (M : MInv W pm g bk bm nn cc K f) {e : Ending} {w' : World} (h : VBel (.int .i64 v) W e w') : MPost v W pm g bk bm nn cc K f e w' :=
  ⟨h.1, grownBy_below h.2 _, M.below h.2⟩
/-- What is held while a kind's function is called: the closure's cells, the node's kind, the table's row, the measure. -/
abbrev CSt (w : World) (b1 b2 : Nat) (n : Int) (o : Nat) (kd : Int) (pm g bk bm nn cc K1 : Nat) (f : Int → Int → Int → Int) (r : Nat) (fn : Value) (W : World) : Prop :=
  W.cell? ⟨b1, 0, none⟩ = some (.pointer (some ⟨pm, 0, none⟩)) ∧ W.cell? ⟨b2, 0, none⟩ = some (.int .i64 n) ∧ W.cell? ⟨pm, 1, none⟩ = some (.slice (some ⟨bk, 0, none⟩) 12 12) ∧ W.cell? ⟨g, o, none⟩ = some (.int .i8 kd) ∧ W.cell? ⟨bk, r, none⟩ = some fn ∧
    w.grownBy W (some bm) ∧ MInv W pm g bk bm nn cc K1 f
theorem CSt.drew {w : World} {b1 b2 : Nat} {n : Int} {o : Nat} {kd : Int} {pm g bk bm nn cc K1 : Nat} {f : Int → Int → Int → Int} {r : Nat} {fn : Value} {W : World} (h : CSt w b1 b2 n o kd pm g bk bm nn cc K1 f r fn W) : CSt w b1 b2 n o kd pm g bk bm nn cc K1 f r fn W.drew :=
  ⟨h.1, h.2.1, h.2.2.1, h.2.2.2.1, h.2.2.2.2.1, World.grownBy.trans h.2.2.2.2.2.1 (grownBy_drew _ _), h.2.2.2.2.2.2.kept (grownBy_drew _ none) (by simp) (by simp) (by simp)⟩
theorem CSt.call {w : World} {b1 b2 : Nat} {n : Int} {o : Nat} {kd : Int} {pm g bk bm nn cc K1 : Nat} {f : Int → Int → Int → Int} {r : Nat} {fn : Value} {W W' : World} (h : CSt w b1 b2 n o kd pm g bk bm nn cc K1 f r fn W) (h1 : b1 ≠ bm) (h2 : b2 ≠ bm) (hg : W.grownBy W' (some bm)) (hM : MInv W' pm g bk bm nn cc K1 f) : CSt w b1 b2 n o kd pm g bk bm nn cc K1 f r fn W' :=
  ⟨hg.cell h.1 (by simpa using h1), hg.cell h.2.1 (by simpa using h2), hM.c1, hg.cell h.2.2.2.1 (by simpa using hM.ng), hg.cell h.2.2.2.2.1 (by simpa using hM.nk), World.grownBy.trans h.2.2.2.2.2.1 hg, hM⟩
abbrev CSt3 (w : World) (b3 : Nat) (x : Int) (b1 b2 : Nat) (n : Int) (o : Nat) (kd : Int) (pm g bk bm nn cc K1 : Nat) (f : Int → Int → Int → Int) (r : Nat) (fn : Value) (W : World) : Prop :=
  W.cell? ⟨b3, 0, none⟩ = some (.int .i64 x) ∧ CSt w b1 b2 n o kd pm g bk bm nn cc K1 f r fn W
theorem CSt3.drew {w : World} {b3 : Nat} {x : Int} {b1 b2 : Nat} {n : Int} {o : Nat} {kd : Int} {pm g bk bm nn cc K1 : Nat} {f : Int → Int → Int → Int} {r : Nat} {fn : Value} {W : World} (h : CSt3 w b3 x b1 b2 n o kd pm g bk bm nn cc K1 f r fn W) : CSt3 w b3 x b1 b2 n o kd pm g bk bm nn cc K1 f r fn W.drew := ⟨h.1, h.2.drew⟩
theorem CSt3.call {w : World} {b3 : Nat} {x : Int} {b1 b2 : Nat} {n : Int} {o : Nat} {kd : Int} {pm g bk bm nn cc K1 : Nat} {f : Int → Int → Int → Int} {r : Nat} {fn : Value} {W W' : World} (h : CSt3 w b3 x b1 b2 n o kd pm g bk bm nn cc K1 f r fn W) (h1 : b1 ≠ bm) (h2 : b2 ≠ bm) (h3 : b3 ≠ bm) (hg : W.grownBy W' (some bm)) (hM : MInv W' pm g bk bm nn cc K1 f) : CSt3 w b3 x b1 b2 n o kd pm g bk bm nn cc K1 f r fn W' :=
  ⟨hg.cell h.1 (by simpa using h3), h.2.call h1 h2 hg hM⟩
set_option maxRecDepth 100000 in
set_option maxHeartbeats 4000000 in
theorem least1_1 (w : World) (pm g bk bm nn cc K K1 : Nat) (f : Int → Int → Int → Int) (b1 b2 o : Nat) (n : Int) (kids : Value) (gap p0 p1 p2 p3 bd md : Int) (t : ByteArray) (M : MInv w pm g bk bm nn cc K f) (hK : K ≤ K1) (N : NodeIn w g o 1 kids gap p0 p1 p2 p3 bd md t)
    (hp0 : 0 ≤ p0 ∧ p0 ≤ 4096) (hp1 : 0 ≤ p1 ∧ p1 ≤ 4096) (hp2 : 0 ≤ p2 ∧ p2 ≤ 4096) (hp3 : 0 ≤ p3 ∧ p3 ≤ 4096) (hbd : 0 ≤ bd ∧ bd ≤ 4) (hc1 : w.cell? ⟨b1, 0, none⟩ = some (.pointer (some ⟨pm, 0, none⟩))) (hc2 : w.cell? ⟨b2, 0, none⟩ = some (.int .i64 n)) (hb1 : b1 ≠ bm) (hb2 : b2 ≠ bm)
    (v0 fx : Int) (hv0 : 0 ≤ v0 ∧ v0 ≤ 1000000000) (hfx : p1 + p3 + (if bd = 0 then 0 else 2) = fx)
    (HF : ∀ W, w.grownBy W (some bm) → MInv W pm g bk bm nn cc K f → Calls Tryz.prog 48 #[.pointer (some ⟨pm, 0, none⟩), .pointer (some ⟨g, o, none⟩), .int .i64 n] W (MPost v0 W pm g bk bm nn cc K1 f)) :
    Calls Tryz.prog 25 #[.pointer (some ⟨g, o, none⟩), .pointer (some ⟨b1, 0, none⟩), .pointer (some ⟨b2, 0, none⟩)] w (MPost (v0 + fx) w pm g bk bm nn cc K1 f) := by
  have HFR := Lib.hid (frame_text w g o 1 (by omega) kids gap p0 p1 p2 p3 bd md t N hp0 hp1 hp2 hp3 hbd)
  have hfr : fx ≤ 10000 ∧ 0 ≤ fx := by subst hfx; split <;> omega
  rw [hfx] at HFR
  generalize (p0 + p2 + if bd = 0 then 0 else 2) = fy at HFR
  have HS0 : Hid (∀ w2, Below w.heap.size w w2 → CSt w b1 b2 n o 1 pm g bk bm nn cc K f 3 (.func (.func 48) #[] #[]) w2) := Lib.hid fun w2 hb => ⟨(hb.cell (p := ⟨b1, 0, none⟩) (World.block_lt_of_cell? w _ hc1)).trans hc1, (hb.cell (p := ⟨b2, 0, none⟩) (World.block_lt_of_cell? w _ hc2)).trans hc2, (M.below hb).c1, (N.below hb M.lg).kd, (M.below hb).k3, grownBy_below hb _, M.below hb⟩
  have HH := Lib.hid HF
  have hwr : IntKind.i64.wrap (v0 + fx) = v0 + fx := by rw [IntKind.wrap_i64]; omega
  clear HF hfx hp0 hp1 hp2 hp3 hbd N M hc1 hc2
  go_enter Tryz.func25, Tryz.ntmps25
  go_upto_region 2 with (go_at_call 24; ((with_reducible refine (HFR.out).mono ?_); rintro e1' w2 ⟨rfl, hb2⟩))
  have S0 := HS0.out w2 hb2
  have HCALL := Lib.hid (HH.out w2.drew (World.grownBy.trans S0.2.2.2.2.2.1 (grownBy_drew _ _)) S0.drew.2.2.2.2.2.2)
  have S1 : CSt w b1 b2 n o 1 pm g bk bm nn cc K1 f 3 (.func (.func 48) #[] #[]) w2 := ⟨S0.1, S0.2.1, S0.2.2.1, S0.2.2.2.1, S0.2.2.2.2.1, S0.2.2.2.2.2.1, S0.2.2.2.2.2.2.mono hK⟩
  have HS1 := Lib.hid S1.drew
  clear S0 HS0 HH HFR hb2
  obtain ⟨s1, s2, s3, s4, s5, s6, s7⟩ := S1
  go_region_held3 (fun W => W.cell? ⟨b1, 0, none⟩ = some (.pointer (some ⟨pm, 0, none⟩)) ∧ W.cell? ⟨b2, 0, none⟩ = some (.int .i64 n) ∧ W.cell? ⟨pm, 1, none⟩ = some (.slice (some ⟨bk, 0, none⟩) 12 12) ∧ W.cell? ⟨g, o, none⟩ = some (.int .i8 1) ∧ W.cell? ⟨bk, 3, none⟩ = some (.func (.func 48) #[] #[]) ∧ w.grownBy W (some bm) ∧ MInv W pm g bk bm nn cc K1 f)
    ((first | (refine CSt.drew ?_; (refine ⟨?_, ?_, ?_, ?_, ?_, ?_, ?_⟩ <;> assumption)) | (refine ⟨?_, ?_, ?_, ?_, ?_, ?_, ?_⟩ <;> assumption)))
    (first | (go_at_call 48; ((with_reducible refine HCALL.out.mono ?_); rintro e1' w3 ⟨rfl, hg2, hM2⟩; have HS2 := Lib.hid (CSt.call HS1.out hb1 hb2 hg2 hM2); obtain ⟨u1, u2, u3, u4, u5, u6, u7⟩ := HS2.out)))
  all_goals
    go_wp2
    go_ret
    exact ⟨rfl, HS2.out.2.2.2.2.2.1, HS2.out.2.2.2.2.2.2⟩
set_option maxRecDepth 100000 in
set_option maxHeartbeats 4000000 in
theorem most1_1 (w : World) (pm g bk bm nn cc K K1 : Nat) (f : Int → Int → Int → Int) (b1 b2 o : Nat) (n : Int) (kids : Value) (gap p0 p1 p2 p3 bd md : Int) (t : ByteArray) (M : MInv w pm g bk bm nn cc K f) (hK : K ≤ K1) (N : NodeIn w g o 1 kids gap p0 p1 p2 p3 bd md t)
    (hp0 : 0 ≤ p0 ∧ p0 ≤ 4096) (hp1 : 0 ≤ p1 ∧ p1 ≤ 4096) (hp2 : 0 ≤ p2 ∧ p2 ≤ 4096) (hp3 : 0 ≤ p3 ∧ p3 ≤ 4096) (hbd : 0 ≤ bd ∧ bd ≤ 4) (hc1 : w.cell? ⟨b1, 0, none⟩ = some (.pointer (some ⟨pm, 0, none⟩))) (hc2 : w.cell? ⟨b2, 0, none⟩ = some (.int .i64 n)) (hb1 : b1 ≠ bm) (hb2 : b2 ≠ bm)
    (v0 fx : Int) (hv0 : 0 ≤ v0 ∧ v0 ≤ 1000000000) (hfx : p1 + p3 + (if bd = 0 then 0 else 2) = fx)
    (HF : ∀ W, w.grownBy W (some bm) → MInv W pm g bk bm nn cc K f → Calls Tryz.prog 49 #[.pointer (some ⟨pm, 0, none⟩), .pointer (some ⟨g, o, none⟩), .int .i64 n] W (MPost v0 W pm g bk bm nn cc K1 f)) :
    Calls Tryz.prog 26 #[.pointer (some ⟨g, o, none⟩), .pointer (some ⟨b1, 0, none⟩), .pointer (some ⟨b2, 0, none⟩)] w (MPost (v0 + fx) w pm g bk bm nn cc K1 f) := by
  have HFR := Lib.hid (frame_text w g o 1 (by omega) kids gap p0 p1 p2 p3 bd md t N hp0 hp1 hp2 hp3 hbd)
  have hfr : fx ≤ 10000 ∧ 0 ≤ fx := by subst hfx; split <;> omega
  rw [hfx] at HFR
  generalize (p0 + p2 + if bd = 0 then 0 else 2) = fy at HFR
  have HS0 : Hid (∀ w2, Below w.heap.size w w2 → CSt w b1 b2 n o 1 pm g bk bm nn cc K f 4 (.func (.func 49) #[] #[]) w2) := Lib.hid fun w2 hb => ⟨(hb.cell (p := ⟨b1, 0, none⟩) (World.block_lt_of_cell? w _ hc1)).trans hc1, (hb.cell (p := ⟨b2, 0, none⟩) (World.block_lt_of_cell? w _ hc2)).trans hc2, (M.below hb).c1, (N.below hb M.lg).kd, (M.below hb).k4, grownBy_below hb _, M.below hb⟩
  have HH := Lib.hid HF
  have hwr : IntKind.i64.wrap (v0 + fx) = v0 + fx := by rw [IntKind.wrap_i64]; omega
  clear HF hfx hp0 hp1 hp2 hp3 hbd N M hc1 hc2
  go_enter Tryz.func26, Tryz.ntmps26
  go_upto_region 2 with (go_at_call 24; ((with_reducible refine (HFR.out).mono ?_); rintro e1' w2 ⟨rfl, hb2⟩))
  have S0 := HS0.out w2 hb2
  have HCALL := Lib.hid (HH.out w2.drew (World.grownBy.trans S0.2.2.2.2.2.1 (grownBy_drew _ _)) S0.drew.2.2.2.2.2.2)
  have S1 : CSt w b1 b2 n o 1 pm g bk bm nn cc K1 f 4 (.func (.func 49) #[] #[]) w2 := ⟨S0.1, S0.2.1, S0.2.2.1, S0.2.2.2.1, S0.2.2.2.2.1, S0.2.2.2.2.2.1, S0.2.2.2.2.2.2.mono hK⟩
  have HS1 := Lib.hid S1.drew
  clear S0 HS0 HH HFR hb2
  obtain ⟨s1, s2, s3, s4, s5, s6, s7⟩ := S1
  go_region_held3 (fun W => W.cell? ⟨b1, 0, none⟩ = some (.pointer (some ⟨pm, 0, none⟩)) ∧ W.cell? ⟨b2, 0, none⟩ = some (.int .i64 n) ∧ W.cell? ⟨pm, 1, none⟩ = some (.slice (some ⟨bk, 0, none⟩) 12 12) ∧ W.cell? ⟨g, o, none⟩ = some (.int .i8 1) ∧ W.cell? ⟨bk, 4, none⟩ = some (.func (.func 49) #[] #[]) ∧ w.grownBy W (some bm) ∧ MInv W pm g bk bm nn cc K1 f)
    ((first | (refine CSt.drew ?_; (refine ⟨?_, ?_, ?_, ?_, ?_, ?_, ?_⟩ <;> assumption)) | (refine ⟨?_, ?_, ?_, ?_, ?_, ?_, ?_⟩ <;> assumption)))
    (first | (go_at_call 49; ((with_reducible refine HCALL.out.mono ?_); rintro e1' w3 ⟨rfl, hg2, hM2⟩; have HS2 := Lib.hid (CSt.call HS1.out hb1 hb2 hg2 hM2); obtain ⟨u1, u2, u3, u4, u5, u6, u7⟩ := HS2.out)))
  all_goals
    go_wp2
    go_ret
    exact ⟨rfl, HS2.out.2.2.2.2.2.1, HS2.out.2.2.2.2.2.2⟩
set_option maxRecDepth 100000 in
set_option maxHeartbeats 4000000 in
theorem least1_2 (w : World) (pm g bk bm nn cc K K1 : Nat) (f : Int → Int → Int → Int) (b1 b2 o : Nat) (n : Int) (kids : Value) (gap p0 p1 p2 p3 bd md : Int) (t : ByteArray) (M : MInv w pm g bk bm nn cc K f) (hK : K ≤ K1) (N : NodeIn w g o 2 kids gap p0 p1 p2 p3 bd md t)
    (hp0 : 0 ≤ p0 ∧ p0 ≤ 4096) (hp1 : 0 ≤ p1 ∧ p1 ≤ 4096) (hp2 : 0 ≤ p2 ∧ p2 ≤ 4096) (hp3 : 0 ≤ p3 ∧ p3 ≤ 4096) (hbd : 0 ≤ bd ∧ bd ≤ 4) (hc1 : w.cell? ⟨b1, 0, none⟩ = some (.pointer (some ⟨pm, 0, none⟩))) (hc2 : w.cell? ⟨b2, 0, none⟩ = some (.int .i64 n)) (hb1 : b1 ≠ bm) (hb2 : b2 ≠ bm)
    (v0 fx : Int) (hv0 : 0 ≤ v0 ∧ v0 ≤ 1000000000) (hfx : p1 + p3 + (if bd = 0 then 0 else 2) = fx)
    (HF : ∀ W, w.grownBy W (some bm) → MInv W pm g bk bm nn cc K f → Calls Tryz.prog 51 #[.pointer (some ⟨pm, 0, none⟩), .pointer (some ⟨g, o, none⟩), .int .i64 n] W (MPost v0 W pm g bk bm nn cc K1 f)) :
    Calls Tryz.prog 25 #[.pointer (some ⟨g, o, none⟩), .pointer (some ⟨b1, 0, none⟩), .pointer (some ⟨b2, 0, none⟩)] w (MPost (v0 + fx) w pm g bk bm nn cc K1 f) := by
  have HFR := Lib.hid (frame_text w g o 2 (by omega) kids gap p0 p1 p2 p3 bd md t N hp0 hp1 hp2 hp3 hbd)
  have hfr : fx ≤ 10000 ∧ 0 ≤ fx := by subst hfx; split <;> omega
  rw [hfx] at HFR
  generalize (p0 + p2 + if bd = 0 then 0 else 2) = fy at HFR
  have HS0 : Hid (∀ w2, Below w.heap.size w w2 → CSt w b1 b2 n o 2 pm g bk bm nn cc K f 6 (.func (.func 51) #[] #[]) w2) := Lib.hid fun w2 hb => ⟨(hb.cell (p := ⟨b1, 0, none⟩) (World.block_lt_of_cell? w _ hc1)).trans hc1, (hb.cell (p := ⟨b2, 0, none⟩) (World.block_lt_of_cell? w _ hc2)).trans hc2, (M.below hb).c1, (N.below hb M.lg).kd, (M.below hb).k6, grownBy_below hb _, M.below hb⟩
  have HH := Lib.hid HF
  have hwr : IntKind.i64.wrap (v0 + fx) = v0 + fx := by rw [IntKind.wrap_i64]; omega
  clear HF hfx hp0 hp1 hp2 hp3 hbd N M hc1 hc2
  go_enter Tryz.func25, Tryz.ntmps25
  go_upto_region 2 with (go_at_call 24; ((with_reducible refine (HFR.out).mono ?_); rintro e1' w2 ⟨rfl, hb2⟩))
  have S0 := HS0.out w2 hb2
  have HCALL := Lib.hid (HH.out w2.drew (World.grownBy.trans S0.2.2.2.2.2.1 (grownBy_drew _ _)) S0.drew.2.2.2.2.2.2)
  have S1 : CSt w b1 b2 n o 2 pm g bk bm nn cc K1 f 6 (.func (.func 51) #[] #[]) w2 := ⟨S0.1, S0.2.1, S0.2.2.1, S0.2.2.2.1, S0.2.2.2.2.1, S0.2.2.2.2.2.1, S0.2.2.2.2.2.2.mono hK⟩
  have HS1 := Lib.hid S1.drew
  clear S0 HS0 HH HFR hb2
  obtain ⟨s1, s2, s3, s4, s5, s6, s7⟩ := S1
  go_region_held3 (fun W => W.cell? ⟨b1, 0, none⟩ = some (.pointer (some ⟨pm, 0, none⟩)) ∧ W.cell? ⟨b2, 0, none⟩ = some (.int .i64 n) ∧ W.cell? ⟨pm, 1, none⟩ = some (.slice (some ⟨bk, 0, none⟩) 12 12) ∧ W.cell? ⟨g, o, none⟩ = some (.int .i8 2) ∧ W.cell? ⟨bk, 6, none⟩ = some (.func (.func 51) #[] #[]) ∧ w.grownBy W (some bm) ∧ MInv W pm g bk bm nn cc K1 f)
    ((first | (refine CSt.drew ?_; (refine ⟨?_, ?_, ?_, ?_, ?_, ?_, ?_⟩ <;> assumption)) | (refine ⟨?_, ?_, ?_, ?_, ?_, ?_, ?_⟩ <;> assumption)))
    (first | (go_at_call 51; ((with_reducible refine HCALL.out.mono ?_); rintro e1' w3 ⟨rfl, hg2, hM2⟩; have HS2 := Lib.hid (CSt.call HS1.out hb1 hb2 hg2 hM2); obtain ⟨u1, u2, u3, u4, u5, u6, u7⟩ := HS2.out)))
  all_goals
    go_wp2
    go_ret
    exact ⟨rfl, HS2.out.2.2.2.2.2.1, HS2.out.2.2.2.2.2.2⟩
set_option maxRecDepth 100000 in
set_option maxHeartbeats 4000000 in
theorem most1_2 (w : World) (pm g bk bm nn cc K K1 : Nat) (f : Int → Int → Int → Int) (b1 b2 o : Nat) (n : Int) (kids : Value) (gap p0 p1 p2 p3 bd md : Int) (t : ByteArray) (M : MInv w pm g bk bm nn cc K f) (hK : K ≤ K1) (N : NodeIn w g o 2 kids gap p0 p1 p2 p3 bd md t)
    (hp0 : 0 ≤ p0 ∧ p0 ≤ 4096) (hp1 : 0 ≤ p1 ∧ p1 ≤ 4096) (hp2 : 0 ≤ p2 ∧ p2 ≤ 4096) (hp3 : 0 ≤ p3 ∧ p3 ≤ 4096) (hbd : 0 ≤ bd ∧ bd ≤ 4) (hc1 : w.cell? ⟨b1, 0, none⟩ = some (.pointer (some ⟨pm, 0, none⟩))) (hc2 : w.cell? ⟨b2, 0, none⟩ = some (.int .i64 n)) (hb1 : b1 ≠ bm) (hb2 : b2 ≠ bm)
    (v0 fx : Int) (hv0 : 0 ≤ v0 ∧ v0 ≤ 1000000000) (hfx : p1 + p3 + (if bd = 0 then 0 else 2) = fx)
    (HF : ∀ W, w.grownBy W (some bm) → MInv W pm g bk bm nn cc K f → Calls Tryz.prog 52 #[.pointer (some ⟨pm, 0, none⟩), .pointer (some ⟨g, o, none⟩), .int .i64 n] W (MPost v0 W pm g bk bm nn cc K1 f)) :
    Calls Tryz.prog 26 #[.pointer (some ⟨g, o, none⟩), .pointer (some ⟨b1, 0, none⟩), .pointer (some ⟨b2, 0, none⟩)] w (MPost (v0 + fx) w pm g bk bm nn cc K1 f) := by
  have HFR := Lib.hid (frame_text w g o 2 (by omega) kids gap p0 p1 p2 p3 bd md t N hp0 hp1 hp2 hp3 hbd)
  have hfr : fx ≤ 10000 ∧ 0 ≤ fx := by subst hfx; split <;> omega
  rw [hfx] at HFR
  generalize (p0 + p2 + if bd = 0 then 0 else 2) = fy at HFR
  have HS0 : Hid (∀ w2, Below w.heap.size w w2 → CSt w b1 b2 n o 2 pm g bk bm nn cc K f 7 (.func (.func 52) #[] #[]) w2) := Lib.hid fun w2 hb => ⟨(hb.cell (p := ⟨b1, 0, none⟩) (World.block_lt_of_cell? w _ hc1)).trans hc1, (hb.cell (p := ⟨b2, 0, none⟩) (World.block_lt_of_cell? w _ hc2)).trans hc2, (M.below hb).c1, (N.below hb M.lg).kd, (M.below hb).k7, grownBy_below hb _, M.below hb⟩
  have HH := Lib.hid HF
  have hwr : IntKind.i64.wrap (v0 + fx) = v0 + fx := by rw [IntKind.wrap_i64]; omega
  clear HF hfx hp0 hp1 hp2 hp3 hbd N M hc1 hc2
  go_enter Tryz.func26, Tryz.ntmps26
  go_upto_region 2 with (go_at_call 24; ((with_reducible refine (HFR.out).mono ?_); rintro e1' w2 ⟨rfl, hb2⟩))
  have S0 := HS0.out w2 hb2
  have HCALL := Lib.hid (HH.out w2.drew (World.grownBy.trans S0.2.2.2.2.2.1 (grownBy_drew _ _)) S0.drew.2.2.2.2.2.2)
  have S1 : CSt w b1 b2 n o 2 pm g bk bm nn cc K1 f 7 (.func (.func 52) #[] #[]) w2 := ⟨S0.1, S0.2.1, S0.2.2.1, S0.2.2.2.1, S0.2.2.2.2.1, S0.2.2.2.2.2.1, S0.2.2.2.2.2.2.mono hK⟩
  have HS1 := Lib.hid S1.drew
  clear S0 HS0 HH HFR hb2
  obtain ⟨s1, s2, s3, s4, s5, s6, s7⟩ := S1
  go_region_held3 (fun W => W.cell? ⟨b1, 0, none⟩ = some (.pointer (some ⟨pm, 0, none⟩)) ∧ W.cell? ⟨b2, 0, none⟩ = some (.int .i64 n) ∧ W.cell? ⟨pm, 1, none⟩ = some (.slice (some ⟨bk, 0, none⟩) 12 12) ∧ W.cell? ⟨g, o, none⟩ = some (.int .i8 2) ∧ W.cell? ⟨bk, 7, none⟩ = some (.func (.func 52) #[] #[]) ∧ w.grownBy W (some bm) ∧ MInv W pm g bk bm nn cc K1 f)
    ((first | (refine CSt.drew ?_; (refine ⟨?_, ?_, ?_, ?_, ?_, ?_, ?_⟩ <;> assumption)) | (refine ⟨?_, ?_, ?_, ?_, ?_, ?_, ?_⟩ <;> assumption)))
    (first | (go_at_call 52; ((with_reducible refine HCALL.out.mono ?_); rintro e1' w3 ⟨rfl, hg2, hM2⟩; have HS2 := Lib.hid (CSt.call HS1.out hb1 hb2 hg2 hM2); obtain ⟨u1, u2, u3, u4, u5, u6, u7⟩ := HS2.out)))
  all_goals
    go_wp2
    go_ret
    exact ⟨rfl, HS2.out.2.2.2.2.2.1, HS2.out.2.2.2.2.2.2⟩
set_option maxRecDepth 100000 in
set_option maxHeartbeats 4000000 in
theorem tall1_1 (w : World) (pm g bk bm nn cc K K1 : Nat) (f : Int → Int → Int → Int) (b1 b2 b3 o : Nat) (n : Int) (kids : Value) (gap p0 p1 p2 p3 bd md : Int) (t : ByteArray) (M : MInv w pm g bk bm nn cc K f) (hK : K ≤ K1) (N : NodeIn w g o 1 kids gap p0 p1 p2 p3 bd md t)
    (hp0 : 0 ≤ p0 ∧ p0 ≤ 4096) (hp1 : 0 ≤ p1 ∧ p1 ≤ 4096) (hp2 : 0 ≤ p2 ∧ p2 ≤ 4096) (hp3 : 0 ≤ p3 ∧ p3 ≤ 4096) (hbd : 0 ≤ bd ∧ bd ≤ 4) (hc1 : w.cell? ⟨b1, 0, none⟩ = some (.pointer (some ⟨pm, 0, none⟩))) (hc2 : w.cell? ⟨b2, 0, none⟩ = some (.int .i64 n)) (hb1 : b1 ≠ bm) (hb2 : b2 ≠ bm) (hb3 : b3 ≠ bm) (x : Int) (hx : 0 ≤ x ∧ x ≤ 4096) (hc3 : w.cell? ⟨b3, 0, none⟩ = some (.int .i64 x))
    (v0 fx fy : Int) (hv0 : 0 ≤ v0 ∧ v0 ≤ 1000000000) (hfx : p1 + p3 + (if bd = 0 then 0 else 2) = fx) (hfy : p0 + p2 + (if bd = 0 then 0 else 2) = fy)
    (HF : ∀ W, w.grownBy W (some bm) → MInv W pm g bk bm nn cc K f → Calls Tryz.prog 50 #[.pointer (some ⟨pm, 0, none⟩), .pointer (some ⟨g, o, none⟩), .int .i64 n, .int .i64 (max 0 (x - fx))] W (MPost v0 W pm g bk bm nn cc K1 f)) :
    Calls Tryz.prog 23 #[.pointer (some ⟨g, o, none⟩), .pointer (some ⟨b1, 0, none⟩), .pointer (some ⟨b2, 0, none⟩), .pointer (some ⟨b3, 0, none⟩)] w (MPost (v0 + fy) w pm g bk bm nn cc K1 f) := by
  have HFR := Lib.hid (frame_text w g o 1 (by omega) kids gap p0 p1 p2 p3 bd md t N hp0 hp1 hp2 hp3 hbd)
  have hfr : fx ≤ 10000 ∧ 0 ≤ fx := by subst hfx; split <;> omega
  have hfq : fy ≤ 10000 ∧ 0 ≤ fy := by subst hfy; split <;> omega
  rw [hfx, hfy] at HFR
  have HS0 : Hid (∀ w2, Below w.heap.size w w2 → CSt3 w b3 x b1 b2 n o 1 pm g bk bm nn cc K f 5 (.func (.func 50) #[] #[]) w2) := Lib.hid fun w2 hb => ⟨(hb.cell (p := ⟨b3, 0, none⟩) (World.block_lt_of_cell? w _ hc3)).trans hc3, (hb.cell (p := ⟨b1, 0, none⟩) (World.block_lt_of_cell? w _ hc1)).trans hc1, (hb.cell (p := ⟨b2, 0, none⟩) (World.block_lt_of_cell? w _ hc2)).trans hc2, (M.below hb).c1, (N.below hb M.lg).kd, (M.below hb).k5, grownBy_below hb _, M.below hb⟩
  have HH := Lib.hid HF
  have hwr : IntKind.i64.wrap (v0 + fy) = v0 + fy := by rw [IntKind.wrap_i64]; omega
  have hws : IntKind.i64.wrap (x - fx) = x - fx := by rw [IntKind.wrap_i64]; omega
  clear HF hfx hfy hp0 hp1 hp2 hp3 hbd N M hc1 hc2 hc3
  go_enter Tryz.func23, Tryz.ntmps23
  go_upto_region 2 with (go_at_call 24; ((with_reducible refine (HFR.out).mono ?_); rintro e1' w2 ⟨rfl, hb2⟩))
  have S0 := HS0.out w2 hb2
  have HCALL := Lib.hid (HH.out w2.drew (World.grownBy.trans S0.2.2.2.2.2.2.1 (grownBy_drew _ _)) S0.drew.2.2.2.2.2.2.2)
  have S1 : CSt3 w b3 x b1 b2 n o 1 pm g bk bm nn cc K1 f 5 (.func (.func 50) #[] #[]) w2 := ⟨S0.1, S0.2.1, S0.2.2.1, S0.2.2.2.1, S0.2.2.2.2.1, S0.2.2.2.2.2.1, S0.2.2.2.2.2.2.1, S0.2.2.2.2.2.2.2.mono hK⟩
  have HS1 := Lib.hid S1.drew
  clear S0 HS0 HH HFR hb2
  obtain ⟨s0, s1, s2, s3, s4, s5, s6, s7⟩ := S1
  go_region_held3 (fun W => W.cell? ⟨b3, 0, none⟩ = some (.int .i64 x) ∧ W.cell? ⟨b1, 0, none⟩ = some (.pointer (some ⟨pm, 0, none⟩)) ∧ W.cell? ⟨b2, 0, none⟩ = some (.int .i64 n) ∧ W.cell? ⟨pm, 1, none⟩ = some (.slice (some ⟨bk, 0, none⟩) 12 12) ∧ W.cell? ⟨g, o, none⟩ = some (.int .i8 1) ∧ W.cell? ⟨bk, 5, none⟩ = some (.func (.func 50) #[] #[]) ∧ w.grownBy W (some bm) ∧ MInv W pm g bk bm nn cc K1 f)
    ((first | (refine CSt3.drew ?_; (refine ⟨?_, ?_, ?_, ?_, ?_, ?_, ?_, ?_⟩ <;> assumption)) | (refine ⟨?_, ?_, ?_, ?_, ?_, ?_, ?_, ?_⟩ <;> assumption)))
    (first | (go_at_call 50; ((with_reducible refine HCALL.out.mono ?_); rintro e1' w3 ⟨rfl, hg2, hM2⟩; have HS2 := Lib.hid (CSt3.call HS1.out hb1 hb2 hb3 hg2 hM2); obtain ⟨u0, u1, u2, u3, u4, u5, u6, u7⟩ := HS2.out)))
  all_goals
    go_wp2
    go_ret
    exact ⟨rfl, HS2.out.2.2.2.2.2.2.1, HS2.out.2.2.2.2.2.2.2⟩
set_option maxRecDepth 100000 in
set_option maxHeartbeats 4000000 in
theorem tall1_2 (w : World) (pm g bk bm nn cc K K1 : Nat) (f : Int → Int → Int → Int) (b1 b2 b3 o : Nat) (n : Int) (kids : Value) (gap p0 p1 p2 p3 bd md : Int) (t : ByteArray) (M : MInv w pm g bk bm nn cc K f) (hK : K ≤ K1) (N : NodeIn w g o 2 kids gap p0 p1 p2 p3 bd md t)
    (hp0 : 0 ≤ p0 ∧ p0 ≤ 4096) (hp1 : 0 ≤ p1 ∧ p1 ≤ 4096) (hp2 : 0 ≤ p2 ∧ p2 ≤ 4096) (hp3 : 0 ≤ p3 ∧ p3 ≤ 4096) (hbd : 0 ≤ bd ∧ bd ≤ 4) (hc1 : w.cell? ⟨b1, 0, none⟩ = some (.pointer (some ⟨pm, 0, none⟩))) (hc2 : w.cell? ⟨b2, 0, none⟩ = some (.int .i64 n)) (hb1 : b1 ≠ bm) (hb2 : b2 ≠ bm) (hb3 : b3 ≠ bm) (x : Int) (hx : 0 ≤ x ∧ x ≤ 4096) (hc3 : w.cell? ⟨b3, 0, none⟩ = some (.int .i64 x))
    (v0 fx fy : Int) (hv0 : 0 ≤ v0 ∧ v0 ≤ 1000000000) (hfx : p1 + p3 + (if bd = 0 then 0 else 2) = fx) (hfy : p0 + p2 + (if bd = 0 then 0 else 2) = fy)
    (HF : ∀ W, w.grownBy W (some bm) → MInv W pm g bk bm nn cc K f → Calls Tryz.prog 53 #[.pointer (some ⟨pm, 0, none⟩), .pointer (some ⟨g, o, none⟩), .int .i64 n, .int .i64 (max 0 (x - fx))] W (MPost v0 W pm g bk bm nn cc K1 f)) :
    Calls Tryz.prog 23 #[.pointer (some ⟨g, o, none⟩), .pointer (some ⟨b1, 0, none⟩), .pointer (some ⟨b2, 0, none⟩), .pointer (some ⟨b3, 0, none⟩)] w (MPost (v0 + fy) w pm g bk bm nn cc K1 f) := by
  have HFR := Lib.hid (frame_text w g o 2 (by omega) kids gap p0 p1 p2 p3 bd md t N hp0 hp1 hp2 hp3 hbd)
  have hfr : fx ≤ 10000 ∧ 0 ≤ fx := by subst hfx; split <;> omega
  have hfq : fy ≤ 10000 ∧ 0 ≤ fy := by subst hfy; split <;> omega
  rw [hfx, hfy] at HFR
  have HS0 : Hid (∀ w2, Below w.heap.size w w2 → CSt3 w b3 x b1 b2 n o 2 pm g bk bm nn cc K f 8 (.func (.func 53) #[] #[]) w2) := Lib.hid fun w2 hb => ⟨(hb.cell (p := ⟨b3, 0, none⟩) (World.block_lt_of_cell? w _ hc3)).trans hc3, (hb.cell (p := ⟨b1, 0, none⟩) (World.block_lt_of_cell? w _ hc1)).trans hc1, (hb.cell (p := ⟨b2, 0, none⟩) (World.block_lt_of_cell? w _ hc2)).trans hc2, (M.below hb).c1, (N.below hb M.lg).kd, (M.below hb).k8, grownBy_below hb _, M.below hb⟩
  have HH := Lib.hid HF
  have hwr : IntKind.i64.wrap (v0 + fy) = v0 + fy := by rw [IntKind.wrap_i64]; omega
  have hws : IntKind.i64.wrap (x - fx) = x - fx := by rw [IntKind.wrap_i64]; omega
  clear HF hfx hfy hp0 hp1 hp2 hp3 hbd N M hc1 hc2 hc3
  go_enter Tryz.func23, Tryz.ntmps23
  go_upto_region 2 with (go_at_call 24; ((with_reducible refine (HFR.out).mono ?_); rintro e1' w2 ⟨rfl, hb2⟩))
  have S0 := HS0.out w2 hb2
  have HCALL := Lib.hid (HH.out w2.drew (World.grownBy.trans S0.2.2.2.2.2.2.1 (grownBy_drew _ _)) S0.drew.2.2.2.2.2.2.2)
  have S1 : CSt3 w b3 x b1 b2 n o 2 pm g bk bm nn cc K1 f 8 (.func (.func 53) #[] #[]) w2 := ⟨S0.1, S0.2.1, S0.2.2.1, S0.2.2.2.1, S0.2.2.2.2.1, S0.2.2.2.2.2.1, S0.2.2.2.2.2.2.1, S0.2.2.2.2.2.2.2.mono hK⟩
  have HS1 := Lib.hid S1.drew
  clear S0 HS0 HH HFR hb2
  obtain ⟨s0, s1, s2, s3, s4, s5, s6, s7⟩ := S1
  go_region_held3 (fun W => W.cell? ⟨b3, 0, none⟩ = some (.int .i64 x) ∧ W.cell? ⟨b1, 0, none⟩ = some (.pointer (some ⟨pm, 0, none⟩)) ∧ W.cell? ⟨b2, 0, none⟩ = some (.int .i64 n) ∧ W.cell? ⟨pm, 1, none⟩ = some (.slice (some ⟨bk, 0, none⟩) 12 12) ∧ W.cell? ⟨g, o, none⟩ = some (.int .i8 2) ∧ W.cell? ⟨bk, 8, none⟩ = some (.func (.func 53) #[] #[]) ∧ w.grownBy W (some bm) ∧ MInv W pm g bk bm nn cc K1 f)
    ((first | (refine CSt3.drew ?_; (refine ⟨?_, ?_, ?_, ?_, ?_, ?_, ?_, ?_⟩ <;> assumption)) | (refine ⟨?_, ?_, ?_, ?_, ?_, ?_, ?_, ?_⟩ <;> assumption)))
    (first | (go_at_call 53; ((with_reducible refine HCALL.out.mono ?_); rintro e1' w3 ⟨rfl, hg2, hM2⟩; have HS2 := Lib.hid (CSt3.call HS1.out hb1 hb2 hb3 hg2 hM2); obtain ⟨u0, u1, u2, u3, u4, u5, u6, u7⟩ := HS2.out)))
  all_goals
    go_wp2
    go_ret
    exact ⟨rfl, HS2.out.2.2.2.2.2.2.1, HS2.out.2.2.2.2.2.2.2⟩
end Go.Proofs.YthhomflonpjbmaaGreatDoor
/-
  The walks of Least, Most, Tall at a text or a row, the kind's function by its contract.
-/
namespace Go.Proofs.YthhomflonpjbmaaGreatDoor
open Go.RowKit Go.Maps
theorem cell_newB (w : World) (cs : Array Value) (t b j : Nat) (hb : b = w.heap.size) : (w.alloc (.cells cs t)).cell? ⟨b, j, none⟩ = cs[j]? := by subst hb; exact World.cell?_alloc_new _ _ _ _
set_option maxRecDepth 100000 in
set_option maxHeartbeats 4000000 in
theorem least1_at_1 (w : World) (pm g bk bm nn cc K K1 : Nat) (f : Int → Int → Int → Int) (n : Int) (hn : 0 ≤ n ∧ n < nn) (hnb : n ≤ 1000000) (kids : Value) (gap p0 p1 p2 p3 bd md : Int) (t : ByteArray) (M : MInv w pm g bk bm nn cc K f) (hK : K ≤ K1) (hK1 : K1 < 1000000) (N : NodeIn w g (n.toNat * 34) 1 kids gap p0 p1 p2 p3 bd md t)
    (hp0 : 0 ≤ p0 ∧ p0 ≤ 4096) (hp1 : 0 ≤ p1 ∧ p1 ≤ 4096) (hp2 : 0 ≤ p2 ∧ p2 ≤ 4096) (hp3 : 0 ≤ p3 ∧ p3 ≤ 4096) (hbd : 0 ≤ bd ∧ bd ≤ 4)
    (v0 fx : Int) (hv0 : 0 ≤ v0 ∧ v0 ≤ 1000000000) (hfx : p1 + p3 + (if bd = 0 then 0 else 2) = fx) (hfv : min (max (v0 + fx) 0) 4096 = f n 0 0)
    (HF : ∀ W, w.grownBy W (some bm) → MInv W pm g bk bm nn cc K f → Calls Tryz.prog 48 #[.pointer (some ⟨pm, 0, none⟩), .pointer (some ⟨g, n.toNat * 34, none⟩), .int .i64 n] W (MPost v0 W pm g bk bm nn cc K1 f)) :
    Calls Tryz.prog 11 #[.pointer (some ⟨pm, 0, none⟩), .int .i64 n] w (MPost (f n 0 0) w pm g bk bm nn cc (K1 + 1) f) := by
  have hfr : fx ≤ 10000 ∧ 0 ≤ fx := by rw [← hfx]; split <;> omega
  have hb : Below w.heap.size w ((w.alloc (.cells #[.pointer (some ⟨pm, 0, none⟩)] 27)).alloc (.cells #[.int .i64 n] 3)) := by (repeat (first | exact Below.refl _ _ | assumption | refine below_drewN ?_ _ | refine Below.drew ?_ | (refine Below.alloc ?_ ?bs _; (case bs => first | omega | (simp; done) | (simp; omega))) | (refine Below.setCell ?_ ?bs _; (case bs => first | omega | (simp; done) | (simp; omega)))))
  have lm := M.lm
  have HOF := Lib.hid (mof_any _ pm g bk bm nn cc K K1 f n 0 0 hn (WalkArith.wf_i64 (by omega)) (by decide) (by decide) 25 #[.pointer (some ⟨w.heap.size, 0, none⟩), .pointer (some ⟨w.heap.size + 1, 0, none⟩)] (fun _ _ => by kernel_rfl) (M.below hb) hK hK1 (v0 + fx) ⟨by omega, by omega⟩ hfv (fun W hg hM => by
    have hc1 : W.cell? ⟨w.heap.size, 0, none⟩ = some (.pointer (some ⟨pm, 0, none⟩)) := hg.cell (by simp) (by simp; omega)
    have hc2 : W.cell? ⟨w.heap.size + 1, 0, none⟩ = some (.int .i64 n) := hg.cell (by simp) (by simp; omega)
    have hg' := World.grownBy.trans (grownBy_below hb (some bm)) hg
    exact least1_1 W pm g bk bm nn cc K K1 f w.heap.size (w.heap.size + 1) (n.toNat * 34) n kids gap p0 p1 p2 p3 bd md t hM hK ((N.below hb M.lg).grown hg (by simpa using M.ng)) hp0 hp1 hp2 hp3 hbd hc1 hc2 (by omega) (by omega) v0 fx hv0 hfx (fun W' hg2 hM2 => HF W' (World.grownBy.trans hg' hg2) hM2)))
  have HB := Lib.hid hb
  clear HF hfv hfx N M hp0 hp1 hp2 hp3 hbd hb
  go_enter Tryz.func11, Tryz.ntmps11
  go_wp2_with (go_at_call 22; ((with_reducible refine (HOF.out).mono ?_); rintro e1' w2 ⟨rfl, hg2, hM2⟩))
  go_ret
  exact ⟨rfl, World.grownBy.trans (grownBy_below HB.out (some bm)) hg2, hM2⟩
set_option maxRecDepth 100000 in
set_option maxHeartbeats 4000000 in
theorem least1_at_2 (w : World) (pm g bk bm nn cc K K1 : Nat) (f : Int → Int → Int → Int) (n : Int) (hn : 0 ≤ n ∧ n < nn) (hnb : n ≤ 1000000) (kids : Value) (gap p0 p1 p2 p3 bd md : Int) (t : ByteArray) (M : MInv w pm g bk bm nn cc K f) (hK : K ≤ K1) (hK1 : K1 < 1000000) (N : NodeIn w g (n.toNat * 34) 2 kids gap p0 p1 p2 p3 bd md t)
    (hp0 : 0 ≤ p0 ∧ p0 ≤ 4096) (hp1 : 0 ≤ p1 ∧ p1 ≤ 4096) (hp2 : 0 ≤ p2 ∧ p2 ≤ 4096) (hp3 : 0 ≤ p3 ∧ p3 ≤ 4096) (hbd : 0 ≤ bd ∧ bd ≤ 4)
    (v0 fx : Int) (hv0 : 0 ≤ v0 ∧ v0 ≤ 1000000000) (hfx : p1 + p3 + (if bd = 0 then 0 else 2) = fx) (hfv : min (max (v0 + fx) 0) 4096 = f n 0 0)
    (HF : ∀ W, w.grownBy W (some bm) → MInv W pm g bk bm nn cc K f → Calls Tryz.prog 51 #[.pointer (some ⟨pm, 0, none⟩), .pointer (some ⟨g, n.toNat * 34, none⟩), .int .i64 n] W (MPost v0 W pm g bk bm nn cc K1 f)) :
    Calls Tryz.prog 11 #[.pointer (some ⟨pm, 0, none⟩), .int .i64 n] w (MPost (f n 0 0) w pm g bk bm nn cc (K1 + 1) f) := by
  have hfr : fx ≤ 10000 ∧ 0 ≤ fx := by rw [← hfx]; split <;> omega
  have hb : Below w.heap.size w ((w.alloc (.cells #[.pointer (some ⟨pm, 0, none⟩)] 27)).alloc (.cells #[.int .i64 n] 3)) := by (repeat (first | exact Below.refl _ _ | assumption | refine below_drewN ?_ _ | refine Below.drew ?_ | (refine Below.alloc ?_ ?bs _; (case bs => first | omega | (simp; done) | (simp; omega))) | (refine Below.setCell ?_ ?bs _; (case bs => first | omega | (simp; done) | (simp; omega)))))
  have lm := M.lm
  have HOF := Lib.hid (mof_any _ pm g bk bm nn cc K K1 f n 0 0 hn (WalkArith.wf_i64 (by omega)) (by decide) (by decide) 25 #[.pointer (some ⟨w.heap.size, 0, none⟩), .pointer (some ⟨w.heap.size + 1, 0, none⟩)] (fun _ _ => by kernel_rfl) (M.below hb) hK hK1 (v0 + fx) ⟨by omega, by omega⟩ hfv (fun W hg hM => by
    have hc1 : W.cell? ⟨w.heap.size, 0, none⟩ = some (.pointer (some ⟨pm, 0, none⟩)) := hg.cell (by simp) (by simp; omega)
    have hc2 : W.cell? ⟨w.heap.size + 1, 0, none⟩ = some (.int .i64 n) := hg.cell (by simp) (by simp; omega)
    have hg' := World.grownBy.trans (grownBy_below hb (some bm)) hg
    exact least1_2 W pm g bk bm nn cc K K1 f w.heap.size (w.heap.size + 1) (n.toNat * 34) n kids gap p0 p1 p2 p3 bd md t hM hK ((N.below hb M.lg).grown hg (by simpa using M.ng)) hp0 hp1 hp2 hp3 hbd hc1 hc2 (by omega) (by omega) v0 fx hv0 hfx (fun W' hg2 hM2 => HF W' (World.grownBy.trans hg' hg2) hM2)))
  have HB := Lib.hid hb
  clear HF hfv hfx N M hp0 hp1 hp2 hp3 hbd hb
  go_enter Tryz.func11, Tryz.ntmps11
  go_wp2_with (go_at_call 22; ((with_reducible refine (HOF.out).mono ?_); rintro e1' w2 ⟨rfl, hg2, hM2⟩))
  go_ret
  exact ⟨rfl, World.grownBy.trans (grownBy_below HB.out (some bm)) hg2, hM2⟩
set_option maxRecDepth 100000 in
set_option maxHeartbeats 4000000 in
theorem most1_at_1 (w : World) (pm g bk bm nn cc K K1 : Nat) (f : Int → Int → Int → Int) (n : Int) (hn : 0 ≤ n ∧ n < nn) (hnb : n ≤ 1000000) (kids : Value) (gap p0 p1 p2 p3 bd md : Int) (t : ByteArray) (M : MInv w pm g bk bm nn cc K f) (hK : K ≤ K1) (hK1 : K1 < 1000000) (N : NodeIn w g (n.toNat * 34) 1 kids gap p0 p1 p2 p3 bd md t)
    (hp0 : 0 ≤ p0 ∧ p0 ≤ 4096) (hp1 : 0 ≤ p1 ∧ p1 ≤ 4096) (hp2 : 0 ≤ p2 ∧ p2 ≤ 4096) (hp3 : 0 ≤ p3 ∧ p3 ≤ 4096) (hbd : 0 ≤ bd ∧ bd ≤ 4)
    (v0 fx : Int) (hv0 : 0 ≤ v0 ∧ v0 ≤ 1000000000) (hfx : p1 + p3 + (if bd = 0 then 0 else 2) = fx) (hfv : min (max (v0 + fx) 0) 4096 = f n 1 0)
    (HF : ∀ W, w.grownBy W (some bm) → MInv W pm g bk bm nn cc K f → Calls Tryz.prog 49 #[.pointer (some ⟨pm, 0, none⟩), .pointer (some ⟨g, n.toNat * 34, none⟩), .int .i64 n] W (MPost v0 W pm g bk bm nn cc K1 f)) :
    Calls Tryz.prog 12 #[.pointer (some ⟨pm, 0, none⟩), .int .i64 n] w (MPost (f n 1 0) w pm g bk bm nn cc (K1 + 1) f) := by
  have hfr : fx ≤ 10000 ∧ 0 ≤ fx := by rw [← hfx]; split <;> omega
  have hb : Below w.heap.size w ((w.alloc (.cells #[.pointer (some ⟨pm, 0, none⟩)] 27)).alloc (.cells #[.int .i64 n] 3)) := by (repeat (first | exact Below.refl _ _ | assumption | refine below_drewN ?_ _ | refine Below.drew ?_ | (refine Below.alloc ?_ ?bs _; (case bs => first | omega | (simp; done) | (simp; omega))) | (refine Below.setCell ?_ ?bs _; (case bs => first | omega | (simp; done) | (simp; omega)))))
  have lm := M.lm
  have HOF := Lib.hid (mof_any _ pm g bk bm nn cc K K1 f n 1 0 hn (WalkArith.wf_i64 (by omega)) (by decide) (by decide) 26 #[.pointer (some ⟨w.heap.size, 0, none⟩), .pointer (some ⟨w.heap.size + 1, 0, none⟩)] (fun _ _ => by kernel_rfl) (M.below hb) hK hK1 (v0 + fx) ⟨by omega, by omega⟩ hfv (fun W hg hM => by
    have hc1 : W.cell? ⟨w.heap.size, 0, none⟩ = some (.pointer (some ⟨pm, 0, none⟩)) := hg.cell (by simp) (by simp; omega)
    have hc2 : W.cell? ⟨w.heap.size + 1, 0, none⟩ = some (.int .i64 n) := hg.cell (by simp) (by simp; omega)
    have hg' := World.grownBy.trans (grownBy_below hb (some bm)) hg
    exact most1_1 W pm g bk bm nn cc K K1 f w.heap.size (w.heap.size + 1) (n.toNat * 34) n kids gap p0 p1 p2 p3 bd md t hM hK ((N.below hb M.lg).grown hg (by simpa using M.ng)) hp0 hp1 hp2 hp3 hbd hc1 hc2 (by omega) (by omega) v0 fx hv0 hfx (fun W' hg2 hM2 => HF W' (World.grownBy.trans hg' hg2) hM2)))
  have HB := Lib.hid hb
  clear HF hfv hfx N M hp0 hp1 hp2 hp3 hbd hb
  go_enter Tryz.func12, Tryz.ntmps12
  go_wp2_with (go_at_call 22; ((with_reducible refine (HOF.out).mono ?_); rintro e1' w2 ⟨rfl, hg2, hM2⟩))
  go_ret
  exact ⟨rfl, World.grownBy.trans (grownBy_below HB.out (some bm)) hg2, hM2⟩
set_option maxRecDepth 100000 in
set_option maxHeartbeats 4000000 in
theorem most1_at_2 (w : World) (pm g bk bm nn cc K K1 : Nat) (f : Int → Int → Int → Int) (n : Int) (hn : 0 ≤ n ∧ n < nn) (hnb : n ≤ 1000000) (kids : Value) (gap p0 p1 p2 p3 bd md : Int) (t : ByteArray) (M : MInv w pm g bk bm nn cc K f) (hK : K ≤ K1) (hK1 : K1 < 1000000) (N : NodeIn w g (n.toNat * 34) 2 kids gap p0 p1 p2 p3 bd md t)
    (hp0 : 0 ≤ p0 ∧ p0 ≤ 4096) (hp1 : 0 ≤ p1 ∧ p1 ≤ 4096) (hp2 : 0 ≤ p2 ∧ p2 ≤ 4096) (hp3 : 0 ≤ p3 ∧ p3 ≤ 4096) (hbd : 0 ≤ bd ∧ bd ≤ 4)
    (v0 fx : Int) (hv0 : 0 ≤ v0 ∧ v0 ≤ 1000000000) (hfx : p1 + p3 + (if bd = 0 then 0 else 2) = fx) (hfv : min (max (v0 + fx) 0) 4096 = f n 1 0)
    (HF : ∀ W, w.grownBy W (some bm) → MInv W pm g bk bm nn cc K f → Calls Tryz.prog 52 #[.pointer (some ⟨pm, 0, none⟩), .pointer (some ⟨g, n.toNat * 34, none⟩), .int .i64 n] W (MPost v0 W pm g bk bm nn cc K1 f)) :
    Calls Tryz.prog 12 #[.pointer (some ⟨pm, 0, none⟩), .int .i64 n] w (MPost (f n 1 0) w pm g bk bm nn cc (K1 + 1) f) := by
  have hfr : fx ≤ 10000 ∧ 0 ≤ fx := by rw [← hfx]; split <;> omega
  have hb : Below w.heap.size w ((w.alloc (.cells #[.pointer (some ⟨pm, 0, none⟩)] 27)).alloc (.cells #[.int .i64 n] 3)) := by (repeat (first | exact Below.refl _ _ | assumption | refine below_drewN ?_ _ | refine Below.drew ?_ | (refine Below.alloc ?_ ?bs _; (case bs => first | omega | (simp; done) | (simp; omega))) | (refine Below.setCell ?_ ?bs _; (case bs => first | omega | (simp; done) | (simp; omega)))))
  have lm := M.lm
  have HOF := Lib.hid (mof_any _ pm g bk bm nn cc K K1 f n 1 0 hn (WalkArith.wf_i64 (by omega)) (by decide) (by decide) 26 #[.pointer (some ⟨w.heap.size, 0, none⟩), .pointer (some ⟨w.heap.size + 1, 0, none⟩)] (fun _ _ => by kernel_rfl) (M.below hb) hK hK1 (v0 + fx) ⟨by omega, by omega⟩ hfv (fun W hg hM => by
    have hc1 : W.cell? ⟨w.heap.size, 0, none⟩ = some (.pointer (some ⟨pm, 0, none⟩)) := hg.cell (by simp) (by simp; omega)
    have hc2 : W.cell? ⟨w.heap.size + 1, 0, none⟩ = some (.int .i64 n) := hg.cell (by simp) (by simp; omega)
    have hg' := World.grownBy.trans (grownBy_below hb (some bm)) hg
    exact most1_2 W pm g bk bm nn cc K K1 f w.heap.size (w.heap.size + 1) (n.toNat * 34) n kids gap p0 p1 p2 p3 bd md t hM hK ((N.below hb M.lg).grown hg (by simpa using M.ng)) hp0 hp1 hp2 hp3 hbd hc1 hc2 (by omega) (by omega) v0 fx hv0 hfx (fun W' hg2 hM2 => HF W' (World.grownBy.trans hg' hg2) hM2)))
  have HB := Lib.hid hb
  clear HF hfv hfx N M hp0 hp1 hp2 hp3 hbd hb
  go_enter Tryz.func12, Tryz.ntmps12
  go_wp2_with (go_at_call 22; ((with_reducible refine (HOF.out).mono ?_); rintro e1' w2 ⟨rfl, hg2, hM2⟩))
  go_ret
  exact ⟨rfl, World.grownBy.trans (grownBy_below HB.out (some bm)) hg2, hM2⟩
set_option maxRecDepth 100000 in
set_option maxHeartbeats 4000000 in
theorem tall1_at_1 (w : World) (pm g bk bm nn cc K K1 : Nat) (f : Int → Int → Int → Int) (n : Int) (hn : 0 ≤ n ∧ n < nn) (hnb : n ≤ 1000000) (kids : Value) (gap p0 p1 p2 p3 bd md : Int) (t : ByteArray) (M : MInv w pm g bk bm nn cc K f) (hK : K ≤ K1) (hK1 : K1 < 1000000) (N : NodeIn w g (n.toNat * 34) 1 kids gap p0 p1 p2 p3 bd md t)
    (hp0 : 0 ≤ p0 ∧ p0 ≤ 4096) (hp1 : 0 ≤ p1 ∧ p1 ≤ 4096) (hp2 : 0 ≤ p2 ∧ p2 ≤ 4096) (hp3 : 0 ≤ p3 ∧ p3 ≤ 4096) (hbd : 0 ≤ bd ∧ bd ≤ 4)
    (x x1 : Int) (hx : -9223372036854775808 ≤ x ∧ x ≤ 9223372036854775807) (hx1 : min (max x 0) 4096 = x1) (v0 fx fy : Int) (hv0 : 0 ≤ v0 ∧ v0 ≤ 1000000000) (hfx : p1 + p3 + (if bd = 0 then 0 else 2) = fx) (hfy : p0 + p2 + (if bd = 0 then 0 else 2) = fy) (hfv : min (max (v0 + fy) 0) 4096 = f n 2 x1)
    (HF : ∀ W, w.grownBy W (some bm) → MInv W pm g bk bm nn cc K f → Calls Tryz.prog 50 #[.pointer (some ⟨pm, 0, none⟩), .pointer (some ⟨g, n.toNat * 34, none⟩), .int .i64 n, .int .i64 (max 0 (x1 - fx))] W (MPost v0 W pm g bk bm nn cc K1 f)) :
    Calls Tryz.prog 10 #[.pointer (some ⟨pm, 0, none⟩), .int .i64 n, .int .i64 x] w (MPost (f n 2 x1) w pm g bk bm nn cc (K1 + 1) f) := by
  have hfr : fx ≤ 10000 ∧ 0 ≤ fx := by rw [← hfx]; split <;> omega
  have hfq : fy ≤ 10000 ∧ 0 ≤ fy := by rw [← hfy]; split <;> omega
  have hxb : 0 ≤ x1 ∧ x1 ≤ 4096 := by omega
  have HS := Lib.hid fun W => side_any x hx W
  rw [hx1] at HS
  have hb : Below w.heap.size w (((w.alloc (.cells #[.pointer (some ⟨pm, 0, none⟩)] 27)).alloc (.cells #[.int .i64 n] 3)).alloc (.cells #[.int .i64 x1] 3)) := by (repeat (first | exact Below.refl _ _ | assumption | refine below_drewN ?_ _ | refine Below.drew ?_ | (refine Below.alloc ?_ ?bs _; (case bs => first | omega | (simp; done) | (simp; omega))) | (refine Below.setCell ?_ ?bs _; (case bs => first | omega | (simp; done) | (simp; omega)))))
  have lm := M.lm
  have k1 : (((w.alloc (.cells #[.pointer (some ⟨pm, 0, none⟩)] 27)).alloc (.cells #[.int .i64 n] 3)).alloc (.cells #[.int .i64 x1] 3)).cell? ⟨w.heap.size, 0, none⟩ = some (.pointer (some ⟨pm, 0, none⟩)) := by
    rw [World.cell?_alloc_lt _ _ ⟨w.heap.size, 0, none⟩ (by simp; omega), World.cell?_alloc_lt _ _ ⟨w.heap.size, 0, none⟩ (by simp)]; exact World.cell?_alloc_new _ _ _ _
  have k2 : (((w.alloc (.cells #[.pointer (some ⟨pm, 0, none⟩)] 27)).alloc (.cells #[.int .i64 n] 3)).alloc (.cells #[.int .i64 x1] 3)).cell? ⟨w.heap.size + 1, 0, none⟩ = some (.int .i64 n) := by
    rw [World.cell?_alloc_lt _ _ ⟨w.heap.size + 1, 0, none⟩ (by simp)]; exact cell_newB _ _ _ _ _ (by simp)
  have k3 : (((w.alloc (.cells #[.pointer (some ⟨pm, 0, none⟩)] 27)).alloc (.cells #[.int .i64 n] 3)).alloc (.cells #[.int .i64 x1] 3)).cell? ⟨w.heap.size + 2, 0, none⟩ = some (.int .i64 x1) := cell_newB _ _ _ _ _ (by simp)
  have HOF := Lib.hid (mof_any _ pm g bk bm nn cc K K1 f n 2 x1 hn (WalkArith.wf_i64 (by omega)) (by decide) (WalkArith.wf_i64 (by omega)) 23 #[.pointer (some ⟨w.heap.size, 0, none⟩), .pointer (some ⟨w.heap.size + 1, 0, none⟩), .pointer (some ⟨w.heap.size + 2, 0, none⟩)] (fun _ _ => by kernel_rfl) (M.below hb) hK hK1 (v0 + fy) ⟨by omega, by omega⟩ hfv (fun W hg hM => by
    have hc1 : W.cell? ⟨w.heap.size, 0, none⟩ = some (.pointer (some ⟨pm, 0, none⟩)) := hg.cell k1 (by simp; omega)
    have hc2 : W.cell? ⟨w.heap.size + 1, 0, none⟩ = some (.int .i64 n) := hg.cell k2 (by simp; omega)
    have hc3 : W.cell? ⟨w.heap.size + 2, 0, none⟩ = some (.int .i64 x1) := hg.cell k3 (by simp; omega)
    have hg' := World.grownBy.trans (grownBy_below hb (some bm)) hg
    exact tall1_1 W pm g bk bm nn cc K K1 f w.heap.size (w.heap.size + 1) (w.heap.size + 2) (n.toNat * 34) n kids gap p0 p1 p2 p3 bd md t hM hK ((N.below hb M.lg).grown hg (by simpa using M.ng)) hp0 hp1 hp2 hp3 hbd hc1 hc2 (by omega) (by omega) (by omega) x1 hxb hc3 v0 fx fy hv0 hfx hfy (fun W' hg2 hM2 => HF W' (World.grownBy.trans hg' hg2) hM2)))
  have HB := Lib.hid hb
  clear k1 k2 k3 HF hfv hfx hfy hx hx1 N M hp0 hp1 hp2 hp3 hbd hb
  go_enter Tryz.func10, Tryz.ntmps10
  go_wp2_with (first | (go_at_call 21; ((with_reducible refine (HS.out _).mono ?_); rintro e1' w3 ⟨rfl, rfl⟩)) | (go_at_call 22; ((with_reducible refine (HOF.out).mono ?_); rintro e1' w2 ⟨rfl, hg2, hM2⟩)))
  go_ret
  exact ⟨rfl, World.grownBy.trans (grownBy_below HB.out (some bm)) hg2, hM2⟩
set_option maxRecDepth 100000 in
set_option maxHeartbeats 4000000 in
theorem tall1_at_2 (w : World) (pm g bk bm nn cc K K1 : Nat) (f : Int → Int → Int → Int) (n : Int) (hn : 0 ≤ n ∧ n < nn) (hnb : n ≤ 1000000) (kids : Value) (gap p0 p1 p2 p3 bd md : Int) (t : ByteArray) (M : MInv w pm g bk bm nn cc K f) (hK : K ≤ K1) (hK1 : K1 < 1000000) (N : NodeIn w g (n.toNat * 34) 2 kids gap p0 p1 p2 p3 bd md t)
    (hp0 : 0 ≤ p0 ∧ p0 ≤ 4096) (hp1 : 0 ≤ p1 ∧ p1 ≤ 4096) (hp2 : 0 ≤ p2 ∧ p2 ≤ 4096) (hp3 : 0 ≤ p3 ∧ p3 ≤ 4096) (hbd : 0 ≤ bd ∧ bd ≤ 4)
    (x x1 : Int) (hx : -9223372036854775808 ≤ x ∧ x ≤ 9223372036854775807) (hx1 : min (max x 0) 4096 = x1) (v0 fx fy : Int) (hv0 : 0 ≤ v0 ∧ v0 ≤ 1000000000) (hfx : p1 + p3 + (if bd = 0 then 0 else 2) = fx) (hfy : p0 + p2 + (if bd = 0 then 0 else 2) = fy) (hfv : min (max (v0 + fy) 0) 4096 = f n 2 x1)
    (HF : ∀ W, w.grownBy W (some bm) → MInv W pm g bk bm nn cc K f → Calls Tryz.prog 53 #[.pointer (some ⟨pm, 0, none⟩), .pointer (some ⟨g, n.toNat * 34, none⟩), .int .i64 n, .int .i64 (max 0 (x1 - fx))] W (MPost v0 W pm g bk bm nn cc K1 f)) :
    Calls Tryz.prog 10 #[.pointer (some ⟨pm, 0, none⟩), .int .i64 n, .int .i64 x] w (MPost (f n 2 x1) w pm g bk bm nn cc (K1 + 1) f) := by
  have hfr : fx ≤ 10000 ∧ 0 ≤ fx := by rw [← hfx]; split <;> omega
  have hfq : fy ≤ 10000 ∧ 0 ≤ fy := by rw [← hfy]; split <;> omega
  have hxb : 0 ≤ x1 ∧ x1 ≤ 4096 := by omega
  have HS := Lib.hid fun W => side_any x hx W
  rw [hx1] at HS
  have hb : Below w.heap.size w (((w.alloc (.cells #[.pointer (some ⟨pm, 0, none⟩)] 27)).alloc (.cells #[.int .i64 n] 3)).alloc (.cells #[.int .i64 x1] 3)) := by (repeat (first | exact Below.refl _ _ | assumption | refine below_drewN ?_ _ | refine Below.drew ?_ | (refine Below.alloc ?_ ?bs _; (case bs => first | omega | (simp; done) | (simp; omega))) | (refine Below.setCell ?_ ?bs _; (case bs => first | omega | (simp; done) | (simp; omega)))))
  have lm := M.lm
  have k1 : (((w.alloc (.cells #[.pointer (some ⟨pm, 0, none⟩)] 27)).alloc (.cells #[.int .i64 n] 3)).alloc (.cells #[.int .i64 x1] 3)).cell? ⟨w.heap.size, 0, none⟩ = some (.pointer (some ⟨pm, 0, none⟩)) := by
    rw [World.cell?_alloc_lt _ _ ⟨w.heap.size, 0, none⟩ (by simp; omega), World.cell?_alloc_lt _ _ ⟨w.heap.size, 0, none⟩ (by simp)]; exact World.cell?_alloc_new _ _ _ _
  have k2 : (((w.alloc (.cells #[.pointer (some ⟨pm, 0, none⟩)] 27)).alloc (.cells #[.int .i64 n] 3)).alloc (.cells #[.int .i64 x1] 3)).cell? ⟨w.heap.size + 1, 0, none⟩ = some (.int .i64 n) := by
    rw [World.cell?_alloc_lt _ _ ⟨w.heap.size + 1, 0, none⟩ (by simp)]; exact cell_newB _ _ _ _ _ (by simp)
  have k3 : (((w.alloc (.cells #[.pointer (some ⟨pm, 0, none⟩)] 27)).alloc (.cells #[.int .i64 n] 3)).alloc (.cells #[.int .i64 x1] 3)).cell? ⟨w.heap.size + 2, 0, none⟩ = some (.int .i64 x1) := cell_newB _ _ _ _ _ (by simp)
  have HOF := Lib.hid (mof_any _ pm g bk bm nn cc K K1 f n 2 x1 hn (WalkArith.wf_i64 (by omega)) (by decide) (WalkArith.wf_i64 (by omega)) 23 #[.pointer (some ⟨w.heap.size, 0, none⟩), .pointer (some ⟨w.heap.size + 1, 0, none⟩), .pointer (some ⟨w.heap.size + 2, 0, none⟩)] (fun _ _ => by kernel_rfl) (M.below hb) hK hK1 (v0 + fy) ⟨by omega, by omega⟩ hfv (fun W hg hM => by
    have hc1 : W.cell? ⟨w.heap.size, 0, none⟩ = some (.pointer (some ⟨pm, 0, none⟩)) := hg.cell k1 (by simp; omega)
    have hc2 : W.cell? ⟨w.heap.size + 1, 0, none⟩ = some (.int .i64 n) := hg.cell k2 (by simp; omega)
    have hc3 : W.cell? ⟨w.heap.size + 2, 0, none⟩ = some (.int .i64 x1) := hg.cell k3 (by simp; omega)
    have hg' := World.grownBy.trans (grownBy_below hb (some bm)) hg
    exact tall1_2 W pm g bk bm nn cc K K1 f w.heap.size (w.heap.size + 1) (w.heap.size + 2) (n.toNat * 34) n kids gap p0 p1 p2 p3 bd md t hM hK ((N.below hb M.lg).grown hg (by simpa using M.ng)) hp0 hp1 hp2 hp3 hbd hc1 hc2 (by omega) (by omega) (by omega) x1 hxb hc3 v0 fx fy hv0 hfx hfy (fun W' hg2 hM2 => HF W' (World.grownBy.trans hg' hg2) hM2)))
  have HB := Lib.hid hb
  clear k1 k2 k3 HF hfv hfx hfy hx hx1 N M hp0 hp1 hp2 hp3 hbd hb
  go_enter Tryz.func10, Tryz.ntmps10
  go_wp2_with (first | (go_at_call 21; ((with_reducible refine (HS.out _).mono ?_); rintro e1' w3 ⟨rfl, rfl⟩)) | (go_at_call 22; ((with_reducible refine (HOF.out).mono ?_); rintro e1' w2 ⟨rfl, hg2, hM2⟩)))
  go_ret
  exact ⟨rfl, World.grownBy.trans (grownBy_below HB.out (some bm)) hg2, hM2⟩
end Go.Proofs.YthhomflonpjbmaaGreatDoor
