/-
  The walk of AnimStyles.
-/
import Derived.Test.YtkgicooplgmmpaaSu
import Derived.Test.YtkgicooplgmmpaaRk
import Derived.Deep.RegionHeld3
namespace Go.Proofs.Ytkgicooplgmmpaa
open Go.RowKit

theorem two_row {f1 f2 : Value} (i : Nat) (hi : i < 2) (w : World) (t : TypeId) : (w.alloc (.cells #[f1, f2] t)).cell? ⟨w.heap.size, 0 + i, none⟩ = some ([f1, f2].getD i .nilFunc) := by
  match i, hi with
  | 0, _ => simp
  | 1, _ => simp
theorem two_fns (k1 k2 : Nat) (c1 c2 : Array Value) : ∀ u ∈ [Value.func (.func k1) #[] c1, .func (.func k2) #[] c2], u = .nilFunc ∨ IsFn u := by
  intro u hu
  simp at hu
  rcases hu with rfl | rfl
  · exact .inr ⟨k1, c1, rfl⟩
  · exact .inr ⟨k2, c2, rfl⟩
theorem chain_two (k1 k2 : Nat) (c1 c2 : Array Value) (w : World) (t : TypeId) : Calls Try.prog 25 #[.slice (some ⟨w.heap.size, 0, none⟩) 2 2] (w.alloc (.cells #[.func (.func k1) #[] c1, .func (.func k2) #[] c2] t))
    fun e w' => ∃ f, e = .returned f ∧ ChainAt w' (w.heap.size + 1) [.func (.func k2) #[] c2, .func (.func k1) #[] c1] f ∧ Below (w.alloc (.cells #[.func (.func k1) #[] c1, .func (.func k2) #[] c2] t)).heap.size (w.alloc (.cells #[.func (.func k1) #[] c1, .func (.func k2) #[] c2] t)) w' := by
  have h := chain_some [.func (.func k1) #[] c1, .func (.func k2) #[] c2] (two_fns _ _ _ _) w.heap.size 0 2 (by simp [maxLen]) (w.alloc (.cells #[.func (.func k1) #[] c1, .func (.func k2) #[] c2] t)) (by simp) (fun i hi => two_row i (by simpa using hi) _ _)
  refine h.mono ?_
  rintro e w' ⟨f, he, hc, hb⟩
  exact ⟨f, he, by rw [← World.size_alloc w]; exact hc, hb⟩
theorem below_grown0 {w5 w6 : World} (hg : w5.grownBy w6 (Value.slice none 0 0).ownBlock) : Below w5.heap.size w5 w6 := (Below.refl _ _).grown hg (Nat.le_refl _) (fun k hk => by simp [Value.ownBlock] at hk)
theorem row_nil_append {w6 : World} {B T : Nat} {a : Value} {fs : List Value} (r : w6.ownsRow B T 1 a (([] : List Value).length + fs.length) ([] ++ fs)) : w6.ownsRow B T 1 a fs.length fs := by
  rw [List.nil_append, List.length_nil, Nat.zero_add] at r; exact r
theorem row_append {w6 : World} {B T : Nat} {a : Value} {f1 f2 : List Value} (r : w6.ownsRow B T 1 a (f1.length + f2.length) (f1 ++ f2)) : w6.ownsRow B T 1 a (f1 ++ f2).length (f1 ++ f2) := by
  rw [List.length_append]; exact r
theorem alike_b (x y : Nat) (h : fl x = fl y) (w : World) : Calls Try.prog 27 #[.float .f64 x, .float .f64 y] w (VBel (.bool true) w) :=
  (alike_any x y h w).mono fun _ _ ⟨n, he, hw⟩ => ⟨he, hw ▸ below_drewN (Below.refl _ w) n⟩
theorem below_two_appends {w5 w6 w7 : World} {a1 : Value} {B : Nat} {n : Nat} {xs : List Value} (hg1 : w5.grownBy w6 none) (r1 : w6.ownsRow w5.heap.size B 1 a1 n xs) (hg2 : w6.grownBy w7 a1.ownBlock) : Below w5.heap.size w5 w7 := by
  have h6 : Below w5.heap.size w5 w6 := (Below.refl _ _).grown hg1 (Nat.le_refl _) (by simp)
  exact h6.grown hg2 h6.size fun k hk => (World.ownsRow.lt r1 k hk).1

set_option maxRecDepth 100000 in
set_option maxHeartbeats 4000000 in
theorem lawStyles_any (af ag aa bf bg ba : Int) (t : Nat) (ht : t < 18446744073709551616) (l1 l2 : List Lk) (v1 v2 : Value) (w : World) (h1 : LkSee w v1 l1) (h2 : LkSee w v2 l2) (hl1 : l1.length ≤ 4398046511104) (hl2 : l2.length ≤ 4398046511104) :
    Calls Try.prog 11 #[sty af ag aa, sty bf bg ba, .float .f64 t, v1, v2] w (BBool true w) := by
  obtain ⟨p1, k1, rfl, m1, x1⟩ := h1
  obtain ⟨p2, k2, rfl, m2, x2⟩ := h2
  have L1 : Hid (LkSee w (.slice p1 l1.length k1) l1) := Lib.hid ⟨p1, k1, rfl, m1, x1⟩
  have L2 : Hid (LkSee w (.slice p2 l2.length k2) l2) := Lib.hid ⟨p2, k2, rfl, m2, x2⟩
  clear m1 x1 m2 x2
  have X1 := Lib.hid hl1
  have X2 := Lib.hid hl2
  obtain ⟨y, hy, hP, _⟩ := units_of t ht
  obtain ⟨c1, c2, hB1⟩ : ∃ c1 c2, ∀ w, Calls Try.prog 28 #[sty af ag aa, sty af ag aa, .float .f64 t] w (VBel (sty c1 c2 aa) w) :=
    ⟨_, _, fun w => by have h := blendP_any af ag aa af ag aa hy hP w; unfold blendC at h; rw [ite_self] at h; exact h⟩
  obtain ⟨c3, c4, hB2⟩ : ∃ c1 c2, ∀ w, Calls Try.prog 28 #[sty af ag aa, sty bf bg ba, .float .f64 0] w (VBel (sty c1 c2 aa) w) :=
    ⟨_, _, fun w => by have h := blendP_any af ag aa bf bg ba (x := 0) (y := 0) (by omega) (by decide +kernel) w; unfold blendC at h; rw [if_pos (by omega)] at h; exact h⟩
  obtain ⟨c5, c6, hB3⟩ : ∃ c1 c2, ∀ w, Calls Try.prog 28 #[sty af ag aa, sty bf bg ba, .float .f64 4607182418800017408] w (VBel (sty c1 c2 ba) w) :=
    ⟨_, _, fun w => by have h := blendP_any af ag aa bf bg ba (x := 4607182418800017408) (y := 4607182418800017408) (by omega) (by decide +kernel) w; unfold blendC at h; rw [if_neg (by omega)] at h; exact h⟩
  have B1 := Lib.hid hB1
  have B2 := Lib.hid hB2
  have B3 := Lib.hid hB3
  clear hB1 hB2 hB3 hl1 hl2 hP hy ht
  generalize hn1 : l1.length = n1 at L1
  generalize hn2 : l2.length = n2 at L2
  have N1 := Lib.hid hn1
  have N2 := Lib.hid hn2
  clear hn1 hn2
  go_enter Try.func11, Try.ntmps11
  go_upto_region 1 with fail
  have S0 := Lib.hid (SLa.start w af ag aa bf bg ba)
  generalize ((w.alloc (.cells #[.int .i32 af, .int .i32 ag, .int .u8 aa] 51)).alloc (.cells #[.int .i32 bf, .int .i32 bg, .int .u8 ba] 51)) = W at S0 ⊢
  generalize hg : w.heap.size = g at S0 ⊢
  have HG := Lib.hid hg
  clear hg
  go_wp2_with (go_at_call 30; fail)
  ((with_reducible refine (links_any l1 _ _ (L1.out.below (by have := S0.out.2.2.2.2.2.2.2; rwa [HG.out])) ).mono ?_); rintro e w1 ⟨xv, fs1, rfl, I1⟩)
  have T1 := Lib.hid (S0.out.below I1.bel)
  have F1 := Lib.hid (show FnsB w1 l1 fs1 from ⟨I1.len, fun i l f hl hf => (I1.fns i l f hl hf).b⟩)
  have R1 := Lib.hid I1.row
  clear S0 I1
  generalize W.heap.size = b1 at R1
  go_wp2_with (go_at_call 30; fail)
  ((with_reducible refine (links_any l2 _ _ (L2.out.below (by have := T1.out.2.2.2.2.2.2.2; rwa [HG.out])) ).mono ?_); rintro e w2 ⟨yv, fs2, rfl, I2⟩)
  have T2 := Lib.hid (T1.out.below I2.bel)
  have F2 := Lib.hid (show FnsB w2 l2 fs2 from ⟨I2.len, fun i l f hl hf => (I2.fns i l f hl hf).b⟩)
  have R2 := Lib.hid I2.row
  have F1' := Lib.hid (F1.out.below I2.bel)
  have R1' := Lib.hid (ownsRow_below R1.out I2.bel)
  clear T1 I2 F1 R1
  generalize w1.heap.size = b2 at R2
  have M1 : Hid (fs1.length ≤ 4398046511104) := Lib.hid (by rw [F1'.out.1]; exact X1.out)
  have M2 : Hid (fs2.length ≤ 4398046511104) := Lib.hid (by rw [F2.out.1]; exact X2.out)
  go_wp2_with (go_at_call 25; fail)
  ((with_reducible refine (chain_row F1'.out.all (by have := M1.out; simp [maxLen]; omega) _ R1'.out).mono ?_); rintro e w3 ⟨f1, rfl, ch1, hb3⟩)
  have T3 := Lib.hid (T2.out.below hb3)
  have C1 := Lib.hid ch1
  have F1a := Lib.hid (F1'.out.below hb3)
  have R1a := Lib.hid (ownsRow_below R1'.out hb3)
  have F2a := Lib.hid (F2.out.below hb3)
  have R2a := Lib.hid (ownsRow_below R2.out hb3)
  clear T2 F1' R1' F2 R2 ch1 hb3
  go_wp2_with (go_at_call 25; fail)
  ((with_reducible refine (chain_row F2a.out.all (by have := M2.out; simp [maxLen]; omega) _ R2a.out).mono ?_); rintro e w4 ⟨f2, rfl, ch2, hb4⟩)
  have T4 := Lib.hid (T3.out.below hb4)
  have C1a := Lib.hid (C1.out.keep hb4.size fun b _ hlt => (bcell hb4).1 b 0 hlt)
  have C2 := Lib.hid ch2
  have F1 := Lib.hid (F1a.out.below hb4)
  have R1 := Lib.hid (ownsRow_below R1a.out hb4)
  have F2 := Lib.hid (F2a.out.below hb4)
  have R2 := Lib.hid (ownsRow_below R2a.out hb4)
  clear T3 F1a R1a F2a R2a ch2 hb4 C1
  generalize w2.heap.size = b3 at C1a
  generalize w3.heap.size = b4 at C2
  obtain ⟨kf1, cf1, rfl⟩ := C1a.out.fn
  obtain ⟨kf2, cf2, rfl⟩ := C2.out.fn
  go_wp2_with (go_at_call 25; fail)
  ((with_reducible refine (chain_two _ _ _ _ _ _).mono ?_); rintro e w5 ⟨f, rfl, chf, hb5⟩)
  have hbA : Below w4.heap.size w4 w5 := ((Below.refl _ w4).alloc (Nat.le_refl _) _).trans (hb5.mono (by simp))
  have T5 := Lib.hid (T4.out.below hbA)
  have C1 := Lib.hid (C1a.out.keep hbA.size fun b _ hlt => (bcell hbA).1 b 0 hlt)
  have C2b := Lib.hid (C2.out.keep hbA.size fun b _ hlt => (bcell hbA).1 b 0 hlt)
  have CF : Hid (ChainAt w5 (w4.heap.size + 1) [.func (.func kf2) #[] cf2, .func (.func kf1) #[] cf1] f) := Lib.hid chf
  have F1c := Lib.hid (F1.out.below hbA)
  have R1c := Lib.hid (ownsRow_below R1.out hbA)
  have F2c := Lib.hid (F2.out.below hbA)
  have R2c := Lib.hid (ownsRow_below R2.out hbA)
  clear T4 C1a C2 F1 R1 F2 R2 chf hb5 hbA
  generalize w4.heap.size + 1 = b5 at CF
  obtain ⟨kf, cf, rfl⟩ := CF.out.fn
  have hone1 := F1c.out.one
  have hone2 := F2c.out.one
  go_wp2_with (first | ((with_reducible apply wpList_append_fns (v := .slice none 0 0) (xv := xv) (B := w5.heap.size) (B2 := b1) (xs := ([] : List Value)) (news := fs1)); exact rfl; exact rfl; exact World.ownsRow_nil _ _ _ _; exact R1c.out; exact Nat.le_refl _; exact Nat.zero_le _; exact M1.out; exact hone1; intro a1 w6 r6 hg6 hp6 K hK; have hb6 : Hid (Below w5.heap.size w5 w6) := Lib.hid (below_grown0 hg6); have r6' : Hid (w6.ownsRow w5.heap.size 43 1 a1 fs1.length fs1) := Lib.hid (row_nil_append r6); have HG6 := Lib.hid hg6; clear r6 hg6 hp6) | ((with_reducible apply wpList_append_fns (v := a1) (xv := yv) (B := w5.heap.size) (B2 := b2) (xs := fs1) (news := fs2)); exact rfl; exact rfl; exact r6'.out; exact ownsRow_below R2c.out hb6.out; exact hb6.out.size; exact M1.out; exact M2.out; exact hone2; intro a2 w7 r7 hg7 hp7 K2 hK2; have hb7 : Hid (Below w5.heap.size w5 w7) := Lib.hid (below_two_appends HG6.out r6'.out hg7); have R7 : Hid (w7.ownsRow w5.heap.size 43 1 a2 (fs1 ++ fs2).length (fs1 ++ fs2)) := Lib.hid (row_append r7); clear r7 hg7 hp7) | (go_at_call 25; fail))
  have F1d := Lib.hid (F1c.out.below hb7.out)
  have F2d := Lib.hid (F2c.out.below hb7.out)
  have C1d := Lib.hid (C1.out.keep hb7.out.size fun b _ hlt => (bcell hb7.out).1 b 0 hlt)
  have C2d := Lib.hid (C2b.out.keep hb7.out.size fun b _ hlt => (bcell hb7.out).1 b 0 hlt)
  have CFd := Lib.hid (CF.out.keep hb7.out.size fun b _ hlt => (bcell hb7.out).1 b 0 hlt)
  have T7 := Lib.hid (T5.out.below hb7.out)
  have FA := Lib.hid (F1d.out.append F2d.out)
  have MA : Hid ((fs1 ++ fs2).length ≤ maxLen) := Lib.hid (by have := M1.out; have := M2.out; simp [maxLen]; omega)
  clear hone1 hone2 F1c F2c C1 C2b CF T5 hb6 hb7 r6' HG6 R1c R2c M1 M2
  ((with_reducible refine (chain_row FA.out.all MA.out _ R7.out).mono ?_); rintro e w8 ⟨gf, rfl, chg, hb8⟩)
  have F1e := Lib.hid (F1d.out.below hb8)
  have F2e := Lib.hid (F2d.out.below hb8)
  have C1e := Lib.hid (C1d.out.keep hb8.size fun b _ hlt => (bcell hb8).1 b 0 hlt)
  have C2e := Lib.hid (C2d.out.keep hb8.size fun b _ hlt => (bcell hb8).1 b 0 hlt)
  have CFe := Lib.hid (CFd.out.keep hb8.size fun b _ hlt => (bcell hb8).1 b 0 hlt)
  have CGe := Lib.hid chg
  have T8 := Lib.hid (T7.out.below hb8)
  have FAe := Lib.hid (FA.out.below hb8)
  clear F1d F2d C1d C2d CFd T7 FA R7 chg hb8 MA
  generalize w5.heap.size = b6 at *
  generalize w7.heap.size = b7 at CGe
  obtain ⟨kg, cg, rfl⟩ := CGe.out.fn
  have hq1 := run_eql_func_nil
  go_upto_region 10 with (first | (go_at_call 15; ((with_reducible refine (alive_any _).mono ?_); rintro e w9 ⟨rfl, hbz⟩)))
  have hP := beh_two ((F1e.out.below hbz).beh (C1e.out.keep hbz.size fun b _ hlt => (bcell hbz).1 b 0 hlt)) ((F2e.out.below hbz).beh (C2e.out.keep hbz.size fun b _ hlt => (bcell hbz).1 b 0 hlt)) (CFe.out.keep hbz.size fun b _ hlt => (bcell hbz).1 b 0 hlt)
  have hQ := (FAe.out.below hbz).beh (CGe.out.keep hbz.size fun b _ hlt => (bcell hbz).1 b 0 hlt)
  have T9 := Lib.hid (T8.out.below hbz)
  clear F1e F2e C1e C2e CFe CGe T8 FAe hbz hq1
  obtain ⟨k3, cap3, he3, hcall3, hcalls3⟩ := hP
  obtain ⟨k4, cap4, he4, hcall4, hcalls4⟩ := hQ
  cases he3
  cases he4
  have K0 : Hid (Kept w9 0 w9) := Lib.hid (Below.refl _ _)
  have HF3 := Lib.hid hcalls3
  have HF4 := Lib.hid hcalls4
  clear hcalls3 hcalls4
  go_upto_region 12 with (first | ((with_reducible refine (HF3.out 0 t _ K0.out).mono ?_); rintro e w10 ⟨r3, hr3, rfl, hJ3⟩; have E3 := Lib.hid hr3; have J3 := Lib.hid hJ3; clear hr3 hJ3) | ((with_reducible refine (HF4.out 0 t _ J3.out).mono ?_); rintro e w11 ⟨r4, hr4, rfl, hJ4⟩; have E4 := Lib.hid hr4; have J4 := Lib.hid hJ4; clear hr4 hJ4))
  have T := T9.out.below (show Below w9.heap.size w9 w11 from J4.out)
  have E : fl r3 = fl r4 := by rw [E3.out, E4.out, List.map_append, foldF_append]
  have L1 := Lib.hid E
  clear E HF3 HF4 hcall3 hcall4 T9 E3 E4 J3 J4
  obtain ⟨i1, i2, i3, i4, i5, i6, i7, i8⟩ := T
  have hfd : ∀ (a b c : Value) w, (Instr.field 51 (.agg #[a, b, c]) 2).run Try.prog w = .ok c w := fun _ _ _ _ => by kernel_rfl
  go_region_held3 (fun w' => w'.cell? ⟨g, 0, none⟩ = some (.int .i32 af) ∧ w'.cell? ⟨g, 1, none⟩ = some (.int .i32 ag) ∧ w'.cell? ⟨g, 2, none⟩ = some (.int .u8 aa) ∧
      w'.cell? ⟨g + 1, 0, none⟩ = some (.int .i32 bf) ∧ w'.cell? ⟨g + 1, 1, none⟩ = some (.int .i32 bg) ∧ w'.cell? ⟨g + 1, 2, none⟩ = some (.int .u8 ba) ∧
      g + 2 ≤ w'.heap.size ∧ Below g w w')
    (first | (refine SLa.drew ?_; (refine ⟨?_, ?_, ?_, ?_, ?_, ?_, ?_, ?_⟩ <;> assumption)) | (go_split_ands; (with_reducible first | refine SLa.below ?_ hb4 | refine SLa.below ?_ hb3 | refine SLa.below ?_ hb2 | refine SLa.below ?_ hb1); (refine ⟨?_, ?_, ?_, ?_, ?_, ?_, ?_, ?_⟩ <;> assumption)))
    (first | (go_at_call 27; ((with_reducible refine (alike_b _ _ L1.out _).mono ?_); rintro e wl ⟨rfl, hb1⟩)) | (go_at_call 28; ((with_reducible refine (B1.out _).mono ?_); rintro e wa ⟨rfl, hb2⟩)) | (go_at_call 28; ((with_reducible refine (B2.out _).mono ?_); rintro e wb ⟨rfl, hb3⟩)) | (go_at_call 28; ((with_reducible refine (B3.out _).mono ?_); rintro e wc ⟨rfl, hb4⟩)))
  go_wp2
  go_ret
  refine ⟨rfl, ?_⟩
  rw [HG.out]
  go_split_ands
  assumption
end Go.Proofs.Ytkgicooplgmmpaa
