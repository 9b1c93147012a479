/-
  The walks of both Blend.
-/
import Derived.Test.YtkgicooplgmmpaaMc
import Derived.Deep.RegionHeld3
import Derived.Deep.DeepCutAuto
namespace Go.Proofs.Ytkgicooplgmmpaa
open Go.RowKit

theorem unitA_n {x y : Nat} (hy : y ≤ 4607182418800017408) (h : unitP (fl x) = some y) (w : World) : Calls Try.prog 33 #[.float .f64 x] w (NRet y w) :=
  (unit_any x w).mono fun _ _ ⟨r, n, hr, he, hw⟩ => ⟨r, n, by rw [hr, h]; exact N_low (by omega), he, hw⟩
theorem unitB_n {x y : Nat} (hy : y ≤ 4607182418800017408) (h : unitR (fl x) = some y ∨ (y = 0 ∧ unitR (fl x) = some 9223372036854775808)) (w : World) : Calls Try.prog 36 #[.float .f64 x] w (NRet y w) :=
  (unitR_any x w).mono fun _ _ ⟨r, n, hr, he, hw⟩ => ⟨r, n, by
    rcases h with h | ⟨rfl, h⟩
    · rw [hr, h]; exact N_low (by omega)
    · rw [hr, h]; exact ⟨9223372036854775808, rfl, by decide, by decide⟩, he, hw⟩

abbrev sty (f g a : Int) : Value := .agg #[.int .i32 f, .int .i32 g, .int .u8 a]
def blendC (k : Nat) (af ab aa bf bb ba : Int) : Value := sty (mixC af bf k) (mixC ab bb k) (if k < 4602678819172646912 then aa else ba)

theorem half_fge {u k : Nat} (h : N (fl u) k) : fge (fl u) (fl 4602678819172646912) = decide (4602678819172646912 ≤ k) := by
  obtain ⟨e, h1, h2⟩ := N_flx h
  rw [e, show fl 4602678819172646912 = some 4602678819172646912 by decide, fge_some h1 (by decide), h2, (sr_low (y := 4602678819172646912) (by decide)).1]
  exact decide_eq_decide.2 (by omega)
theorem blend_if {y c : Nat} {a b : Int} : (if decide (c ≤ y) = true then b else a) = (if y < c then a else b) := by
  by_cases h : c ≤ y
  · rw [if_pos (by simpa using h), if_neg (by omega)]
  · rw [if_neg (by simpa using h), if_pos (by omega)]
/-- What stands while Blend's statement runs. -/
abbrev SBl (g : Nat) (w : World) (af ab aa bf bb ba : Int) (w' : World) : Prop :=
  w'.cell? ⟨g, 0, none⟩ = some (.int .i32 af) ∧ w'.cell? ⟨g, 1, none⟩ = some (.int .i32 ab) ∧ w'.cell? ⟨g, 2, none⟩ = some (.int .u8 aa) ∧
  w'.cell? ⟨g + 1, 0, none⟩ = some (.int .i32 bf) ∧ w'.cell? ⟨g + 1, 1, none⟩ = some (.int .i32 bb) ∧ w'.cell? ⟨g + 1, 2, none⟩ = some (.int .u8 ba) ∧
  w'.cell? ⟨g + 1 + 1, 0, none⟩ = some (.int .i32 0) ∧ w'.cell? ⟨g + 1 + 1, 1, none⟩ = some (.int .i32 0) ∧ w'.cell? ⟨g + 1 + 1, 2, none⟩ = some (.int .u8 0) ∧
  w'.frozen? ⟨g + 1 + 1, 0, none⟩ = false ∧ w'.frozen? ⟨g + 1 + 1, 1, none⟩ = false ∧ w'.frozen? ⟨g + 1 + 1, 2, none⟩ = false ∧
  g + 3 ≤ w'.heap.size ∧ Below g w w'
theorem SBl.below {g : Nat} {w : World} {af ab aa bf bb ba : Int} {W w1 : World} (h : SBl g w af ab aa bf bb ba W) (hb : Below W.heap.size W w1) : SBl g w af ab aa bf bb ba w1 := by
  obtain ⟨h1, h2, h3, h4, h5, h6, r1, r2, r3, f1, f2, f3, h7, h8⟩ := h
  obtain ⟨hc, hf⟩ := bcell hb
  have := hb.size
  exact ⟨by rw [hc _ _ (by omega)]; exact h1, by rw [hc _ _ (by omega)]; exact h2, by rw [hc _ _ (by omega)]; exact h3, by rw [hc _ _ (by omega)]; exact h4, by rw [hc _ _ (by omega)]; exact h5, by rw [hc _ _ (by omega)]; exact h6, by rw [hc _ _ (by omega)]; exact r1, by rw [hc _ _ (by omega)]; exact r2, by rw [hc _ _ (by omega)]; exact r3,
    by rw [hf _ _ (by omega)]; exact f1, by rw [hf _ _ (by omega)]; exact f2, by rw [hf _ _ (by omega)]; exact f3, by omega, h8.trans (hb.mono (by omega))⟩
theorem cell_alloc_old {W : World} {o : Obj} {b j : Nat} (h : b < W.heap.size) : (W.alloc o).cell? ⟨b, j, none⟩ = W.cell? ⟨b, j, none⟩ := by
  simp only [World.cell?]
  rw [heap_alloc_old W o h]
theorem frozen_alloc_old {W : World} {o : Obj} {b j : Nat} (h : b < W.heap.size) : (W.alloc o).frozen? ⟨b, j, none⟩ = W.frozen? ⟨b, j, none⟩ := by
  simp only [World.frozen?]
  rw [heap_alloc_old W o h]
theorem SBl.alloc {g : Nat} {w : World} {af ab aa bf bb ba : Int} {W : World} (h : SBl g w af ab aa bf bb ba W) (o : Obj) : SBl g w af ab aa bf bb ba (W.alloc o) := by
  obtain ⟨h1, h2, h3, h4, h5, h6, r1, r2, r3, f1, f2, f3, h7, h8⟩ := h
  exact ⟨by rw [cell_alloc_old (by omega)]; exact h1, by rw [cell_alloc_old (by omega)]; exact h2, by rw [cell_alloc_old (by omega)]; exact h3, by rw [cell_alloc_old (by omega)]; exact h4, by rw [cell_alloc_old (by omega)]; exact h5, by rw [cell_alloc_old (by omega)]; exact h6, by rw [cell_alloc_old (by omega)]; exact r1, by rw [cell_alloc_old (by omega)]; exact r2, by rw [cell_alloc_old (by omega)]; exact r3,
    by rw [frozen_alloc_old (by omega)]; exact f1, by rw [frozen_alloc_old (by omega)]; exact f2, by rw [frozen_alloc_old (by omega)]; exact f3, by simp; omega, h8.alloc (by omega) o⟩

theorem SBl.set {g : Nat} {w : World} {af ab aa bf bb ba : Int} {W : World} (h : SBl g w af ab aa bf bb ba W) {a : Addr} (ha : g + 3 ≤ a.block) (v : Value) : SBl g w af ab aa bf bb ba (W.setCell a v) := by
  obtain ⟨h1, h2, h3, h4, h5, h6, r1, r2, r3, f1, f2, f3, h7, h8⟩ := h
  have hc : ∀ b j, b < g + 3 → (W.setCell a v).cell? ⟨b, j, none⟩ = W.cell? ⟨b, j, none⟩ := fun b j hb => by
    simp only [World.cell?]; rw [heap_setCell_other W a b v (by omega)]
  have hf : ∀ b j, b < g + 3 → (W.setCell a v).frozen? ⟨b, j, none⟩ = W.frozen? ⟨b, j, none⟩ := fun b j hb => by
    simp only [World.frozen?]; rw [heap_setCell_other W a b v (by omega)]
  exact ⟨by rw [hc _ _ (by omega)]; exact h1, by rw [hc _ _ (by omega)]; exact h2, by rw [hc _ _ (by omega)]; exact h3, by rw [hc _ _ (by omega)]; exact h4, by rw [hc _ _ (by omega)]; exact h5, by rw [hc _ _ (by omega)]; exact h6, by rw [hc _ _ (by omega)]; exact r1, by rw [hc _ _ (by omega)]; exact r2, by rw [hc _ _ (by omega)]; exact r3,
    by rw [hf _ _ (by omega)]; exact f1, by rw [hf _ _ (by omega)]; exact f2, by rw [hf _ _ (by omega)]; exact f3, by simpa using h7, h8.setCell (by omega) v⟩
theorem SBl.start (w : World) (af ab aa bf bb ba : Int) (n : Nat) : SBl w.heap.size w af ab aa bf bb ba ((((w.alloc (.cells #[.int .i32 af, .int .i32 ab, .int .u8 aa] 51)).alloc (.cells #[.int .i32 bf, .int .i32 bb, .int .u8 ba] 51)).alloc (.cells #[.int .i32 0, .int .i32 0, .int .u8 0] 51)).drewN n) := by
  have b0 := Below.refl w.heap.size w
  have b1 := b0.alloc (Nat.le_refl _) (.cells #[.int .i32 af, .int .i32 ab, .int .u8 aa] 51)
  have b2 := b1.alloc (by simp) (.cells #[.int .i32 bf, .int .i32 bb, .int .u8 ba] 51)
  have b3 := b2.alloc (by simp; omega) (.cells #[.int .i32 0, .int .i32 0, .int .u8 0] 51)
  refine ⟨?_, ?_, ?_, ?_, ?_, ?_, ?_, ?_, ?_, ?_, ?_, ?_, ?_, below_drewN b3 n⟩
  all_goals go_simp
theorem SBl.drew {g : Nat} {w : World} {af ab aa bf bb ba : Int} {W : World} (h : SBl g w af ab aa bf bb ba W) : SBl g w af ab aa bf bb ba W.drew := by
  obtain ⟨h1, h2, h3, h4, h5, h6, r1, r2, r3, f1, f2, f3, h7, h8⟩ := h
  exact ⟨h1, h2, h3, h4, h5, h6, r1, r2, r3, f1, f2, f3, h7, h8.drew⟩

/-- What stands behind that statement. -/
def SBc (g : Nat) (w : World) (af ab aa bf bb ba c1 c2 : Int) (v : Value) (w' : World) : Prop := ∃ B, v = .pointer (some ⟨B, 0, none⟩) ∧ g + 3 ≤ B ∧ B < w'.heap.size ∧
  w'.cell? ⟨B, 0, none⟩ = some (.int .i32 c1) ∧ w'.cell? ⟨B, 1, none⟩ = some (.int .i32 c2) ∧ w'.cell? ⟨B, 2, none⟩ = some (.int .u8 aa) ∧
  w'.frozen? ⟨B, 0, none⟩ = false ∧ w'.frozen? ⟨B, 1, none⟩ = false ∧ w'.frozen? ⟨B, 2, none⟩ = false ∧ SBl g w af ab aa bf bb ba w'
set_option maxRecDepth 100000 in
set_option maxHeartbeats 4000000 in
theorem blendP_any (af ab aa bf bb ba : Int) {x y : Nat} (hy : y ≤ 4607182418800017408) (h : unitP (fl x) = some y) (w : World) :
    Calls Try.prog 28 #[sty af ab aa, sty bf bb ba, .float .f64 x] w (VBel (blendC y af ab aa bf bb ba) w) := by
  have HU := Lib.hid (@unitA_n x y hy h)
  have HM := Lib.hid (fun (u : Nat) (hu : N (fl u) y) => And.intro (@mixP_any af bf u y hu hy) (@mixP_any ab bb u y hu hy))
  obtain ⟨kb, hkb⟩ : ∃ kb, decide (4602678819172646912 ≤ y) = kb := ⟨_, rfl⟩
  have HK := Lib.hid hkb
  have HE : Hid (sty (mixC af bf y) (mixC ab bb y) (if kb then ba else aa) = blendC y af ab aa bf bb ba) := Lib.hid (by rw [← hkb]; unfold blendC; rw [blend_if])
  clear hy h hkb
  go_enter Try.func28, Try.ntmps28
  go_upto_region 2 with (first | (go_at_call 33; ((with_reducible refine (HU.out _).mono ?_); rintro e w0 ⟨r, n, hr, rfl, rfl⟩; have BU := Lib.hid (HM.out r hr); have hf := (half_fge hr).trans HK.out; clear hr)))
  have S0 := SBl.start w af ab aa bf bb ba n
  generalize ((((w.alloc (.cells #[.int .i32 af, .int .i32 ab, .int .u8 aa] 51)).alloc (.cells #[.int .i32 bf, .int .i32 bb, .int .u8 ba] 51)).alloc (.cells #[.int .i32 0, .int .i32 0, .int .u8 0] 51)).drewN n) = W at S0 ⊢
  generalize hg : w.heap.size = g at S0 ⊢
  have HG := Lib.hid hg
  clear hg
  obtain ⟨i1, i2, i3, i4, i5, i6, i7, i8, i9, i10, i11, i12, i13, i14⟩ := S0
  go_cut [7] (SBc g w af ab aa bf bb ba (mixC af bf y) (mixC ab bb y))
  case first =>
    go_region_held3 (fun w' => w'.cell? ⟨g, 0, none⟩ = some (.int .i32 af) ∧ w'.cell? ⟨g, 1, none⟩ = some (.int .i32 ab) ∧ w'.cell? ⟨g, 2, none⟩ = some (.int .u8 aa) ∧
        w'.cell? ⟨g + 1, 0, none⟩ = some (.int .i32 bf) ∧ w'.cell? ⟨g + 1, 1, none⟩ = some (.int .i32 bb) ∧ w'.cell? ⟨g + 1, 2, none⟩ = some (.int .u8 ba) ∧
        w'.cell? ⟨g + 1 + 1, 0, none⟩ = some (.int .i32 0) ∧ w'.cell? ⟨g + 1 + 1, 1, none⟩ = some (.int .i32 0) ∧ w'.cell? ⟨g + 1 + 1, 2, none⟩ = some (.int .u8 0) ∧
      w'.frozen? ⟨g + 1 + 1, 0, none⟩ = false ∧ w'.frozen? ⟨g + 1 + 1, 1, none⟩ = false ∧ w'.frozen? ⟨g + 1 + 1, 2, none⟩ = false ∧
        g + 3 ≤ w'.heap.size ∧ Below g w w')
      (first | (refine SBl.drew ?_; (refine ⟨?_, ?_, ?_, ?_, ?_, ?_, ?_, ?_, ?_, ?_, ?_, ?_, ?_, ?_⟩ <;> assumption)) | (go_split_ands; (with_reducible first | refine SBl.below ?_ hb2 | refine SBl.below ?_ hb1); (refine ⟨?_, ?_, ?_, ?_, ?_, ?_, ?_, ?_, ?_, ?_, ?_, ?_, ?_, ?_⟩ <;> assumption)) | (go_split_ands; with_reducible refine SBl.set (SBl.set (SBl.set ?_ ?_ _) ?_ _) ?_ _; (refine ⟨?_, ?_, ?_, ?_, ?_, ?_, ?_, ?_, ?_, ?_, ?_, ?_, ?_, ?_⟩ <;> assumption); (iterate 3 (first | (simp; done) | omega | (simp; omega)))) | (go_split_ands; with_reducible refine SBl.alloc ?_ _; (refine ⟨?_, ?_, ?_, ?_, ?_, ?_, ?_, ?_, ?_, ?_, ?_, ?_, ?_, ?_⟩ <;> assumption)) | (refine SBl.drew (SBl.alloc ?_ _); exact ⟨i1, i2, i3, i4, i5, i6, i7, i8, i9, i10, i11, i12, i13, i14⟩) | (refine SBl.alloc (SBl.below (SBl.below ?_ hb1) hb2) _; exact SBl.drew ⟨i1, i2, i3, i4, i5, i6, i7, i8, i9, i10, i11, i12, i13, i14⟩))
      (first | (go_at_call 50; ((with_reducible refine (BU.out.1 _).mono ?_); rintro e w1 ⟨rfl, hb1⟩; obtain ⟨hc1, hf1⟩ := bcell hb1; have hz1 := hb1.size; (try simp at hz1); (try have hl1 : W.heap.size < w1.heap.size := (by have := hb1.size; simp at this; omega)))) | (go_at_call 50; ((with_reducible refine (BU.out.2 _).mono ?_); rintro e w2 ⟨rfl, hb2⟩; obtain ⟨hc2, hf2⟩ := bcell hb2; have hz2 := hb2.size; (try simp at hz2))))
    all_goals
      go_wp2_with fail
      go_meet
      refine ⟨_, rfl, ?_, ?_, ?_, ?_, ?_, ?_, ?_, ?_, (by assumption)⟩
      · first | omega | (simp; omega)
      · first | omega | (simp; done) | (simp; omega)
      · go_simp
      · go_simp
      · go_simp
      · go_simp
      · go_simp
      · go_simp
  case rest =>
    obtain ⟨B, rfl, hB, hB2, c1, c2, c3, f1, f2, f3, S⟩ := hcut
    obtain ⟨j1, j2, j3, j4, j5, j6, j7, j8, j9, j10, j11, j12, j13, j14⟩ := S
    clear i1 i2 i3 i4 i5 i6 i7 i8 i9 i10 i11 i12 i13 i14
    have hn1 : ¬ B = g := by omega
    have hn2 : ¬ B = g + 1 := by omega
    have hn3 : ¬ B = g + 1 + 1 := by omega
    have hn4 : ¬ g = B := by omega
    have hn5 : ¬ g + 1 = B := by omega
    have hn6 : ¬ g + 1 + 1 = B := by omega
    cases kb
    all_goals
      go_wp2
      refine bodyPost_ret (v := blendC y af ab aa bf bb ba) (by rw [← HE.out]; simp [results, Try.results28, go_sem, *]) rfl ⟨rfl, ?_⟩
      rw [HG.out]
      (repeat (first | exact Below.refl _ _ | assumption | refine below_drewN ?_ _ | refine Below.drew ?_ | (refine Below.alloc ?_ ?bs _; (case bs => first | omega | (simp; done) | (simp; omega))) | (refine Below.setCell ?_ ?bs _; (case bs => first | omega | (simp; done) | (simp; omega)))))
end Go.Proofs.Ytkgicooplgmmpaa
