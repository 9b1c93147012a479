/-
  The walk of the program's Mix.
-/
import Derived.Test.YtkgicooplgmmpaaMb
namespace Go.Proofs.Ytkgicooplgmmpaa
open Go.RowKit

/-- One of both is no colour with channels: the program. -/
theorem mixP_no (a b : Int) {u k : Nat} (hu : N (fl u) k) (hk : k ≤ 4607182418800017408) (hn : rgbC a = none ∨ rgbC b = none) (w : World) :
    Calls Try.prog 50 #[.int .i32 a, .int .i32 b, .float .f64 u] w (VBel (.int .i32 (mixC a b k)) w) := by
  obtain ⟨p, ia, hpa⟩ : ∃ (p : Nat × Nat × Nat) (i : Bool), rgbV tri8 a = .tuple #[arr3 p.1 p.2.1 p.2.2, .bool i] ∧ (i = false ↔ rgbC a = none) := by
    cases h : rgbC a with
    | none => exact ⟨(0, 0, 0), false, rgbV_none h, by simp⟩
    | some p => exact ⟨p, true, rgbV_some h, by simp⟩
  obtain ⟨q, ib, hqb⟩ : ∃ (p : Nat × Nat × Nat) (i : Bool), rgbV tri8 b = .tuple #[arr3 p.1 p.2.1 p.2.2, .bool i] ∧ (i = false ↔ rgbC b = none) := by
    cases h : rgbC b with
    | none => exact ⟨(0, 0, 0), false, rgbV_none h, by simp⟩
    | some p => exact ⟨p, true, rgbV_some h, by simp⟩
  have hm : mixC a b k = if k < 4602678819172646912 then countC a else countC b := by
    unfold mixC
    cases h1 : rgbC a with
    | none => rfl
    | some _ =>
      cases h2 : rgbC b with
      | none => rfl
      | some _ => rcases hn with h | h
                  · rw [h1] at h; cases h
                  · rw [h2] at h; cases h
  have hi : (ia && ib) = false := by
    rcases hn with h | h
    · rw [hpa.2.2 h]; rfl
    · rw [hqb.2.2 h]; simp
  obtain ⟨p1, p2, p3⟩ := p
  obtain ⟨q1, q2, q3⟩ := q
  have HP : Hid (rgbV tri8 a = .tuple #[arr3 p1 p2 p3, .bool ia]) := Lib.hid hpa.1
  have HQ : Hid (rgbV tri8 b = .tuple #[arr3 q1 q2 q3, .bool ib]) := Lib.hid hqb.1
  have HI := Lib.hid hi
  have CA := Lib.hid (counted_any a)
  have CB := Lib.hid (counted_any b)
  have RA := Lib.hid (rgb_any a)
  have RB := Lib.hid (rgb_any b)
  have HU := Lib.hid (@unitT_any u k hu hk)
  obtain ⟨kb, hkb⟩ : ∃ kb, decide (k < 4602678819172646912) = kb := ⟨_, rfl⟩
  have HK := Lib.hid hkb
  have HE : Hid ((if kb then countC a else countC b) = mixC a b k) := Lib.hid (by rw [hm, ← hkb]; simp)
  clear hkb hpa hqb hm hi hn hu hk
  go_enter Try.func50, Try.ntmps50
  have tok : True := trivial
  cases ia <;> cases ib <;> first | (exact absurd HI.out (by decide)) | skip
  all_goals
    cases kb
    all_goals
      go_wp2_with (first | (go_at_call 60; ((with_reducible refine (HU.out _).mono ?_); rintro e w0 ⟨r, n, hr, rfl, rfl⟩; have hf := (half_flt hr).trans HK.out; clear hr)) | (go_at_call 61; have _t := tok; ((with_reducible refine (RA.out _).mono ?_); rw [HP.out]; rintro e w1 ⟨rfl, hb1⟩; have e1 : Below w.heap.size w w1 := (below_drewN (Below.refl _ w) n).trans hb1; have hz1 := e1.size); clear _t tok) | (go_at_call 61; ((with_reducible refine (RB.out _).mono ?_); rw [HQ.out]; rintro e w2 ⟨rfl, hb2⟩; have e2 := (e1.alloc hz1 _).trans (hb2.mono (by simp; omega)); have hz2 := e2.size)) | (go_at_call 62; ((with_reducible refine (CA.out _).mono ?_); rintro e w3 ⟨rfl, rfl⟩)) | (go_at_call 62; ((with_reducible refine (CB.out _).mono ?_); rintro e w3 ⟨rfl, rfl⟩)))
      go_ret
      exact VBel.int HE.out (e2.alloc hz2 _)

theorem row_unfrozen {w1 w2 : World} {cs : Array Value} {t : TypeId} {o' : Obj} (hb : Below (w1.alloc (.cells cs t)).heap.size (w1.alloc (.cells cs t)) w2) (j : Nat) : (w2.alloc o').frozen? ⟨w1.heap.size, j, none⟩ = false := by
  have hlt : w1.heap.size < w2.heap.size := by have := hb.size; simp at this; omega
  have e1 : (w2.alloc o').frozen? ⟨w1.heap.size, j, none⟩ = w2.frozen? ⟨w1.heap.size, j, none⟩ := by
    simp only [World.frozen?]
    rw [heap_alloc_old w2 o' hlt]
  rw [e1, (bcell hb).2 _ _ (by simp)]
  exact frozen_of_row _ _ j cs t (heap_alloc_new _ _)
/-- What one channel's words do. -/
def ChanW (x y u m : Nat) : Prop := ∃ d p s f, d = IW ((y : Int) - x) ∧ D.mul d u = some p ∧ D.add (IW x) p = some s ∧ D.add s halfW = some f ∧ (D.read f).isNaN = false ∧ floorW f = IW m ∧ m ≤ 255 ∧ x ≤ 255 ∧ y ≤ 255
theorem chanW_of {x y : Nat} (hx : x ≤ 255) (hy : y ≤ 255) {u k : Nat} (hu : N (fl u) k) (hk : k ≤ 4607182418800017408) : ChanW x y u (mixK x y (val k)) := by
  obtain ⟨v, r⟩ := IW_V ((y : Int) - x) (by omega) (by omega)
  obtain ⟨p, s, f, h1, h2, h3, h4, h5⟩ := mix_words hx hy hu hk r v
  exact ⟨_, p, s, f, rfl, h1, h2, h3, h4, h5, mixK_le hx hy hk, hx, hy⟩
set_option maxRecDepth 100000 in
set_option maxHeartbeats 1000000 in
/-- Both have channels: the program. -/
theorem mixP_yes (a b : Int) {u k : Nat} (hu : N (fl u) k) (hk : k ≤ 4607182418800017408) {p q : Nat × Nat × Nat} (hp : rgbC a = some p) (hq : rgbC b = some q) (w : World) :
    Calls Try.prog 50 #[.int .i32 a, .int .i32 b, .float .f64 u] w (VBel (.int .i32 (mixC a b k)) w) := by
  have hm : mixC a b k = 16777216 + 65536 * mixK p.1 q.1 (val k) + 256 * mixK p.2.1 q.2.1 (val k) + mixK p.2.2 q.2.2 (val k) := by unfold mixC; rw [hp, hq]
  obtain ⟨lp1, lp2, lp3⟩ := rgbC_le hp
  obtain ⟨lq1, lq2, lq3⟩ := rgbC_le hq
  have HP := Lib.hid (rgbV_some (T := tri8) hp)
  have HQ := Lib.hid (rgbV_some (T := tri8) hq)
  obtain ⟨p1, p2, p3⟩ := p
  obtain ⟨q1, q2, q3⟩ := q
  dsimp only at lp1 lp2 lp3 lq1 lq2 lq3 hm
  have HP' : Hid (rgbV tri8 a = .tuple #[arr3 p1 p2 p3, .bool true]) := HP
  have HQ' : Hid (rgbV tri8 b = .tuple #[arr3 q1 q2 q3, .bool true]) := HQ
  have RA := Lib.hid (rgb_any a)
  have RB := Lib.hid (rgb_any b)
  have HU := Lib.hid (@unitT_any u k hu hk)
  have BT := Lib.hid (fun (u : Nat) (hu : N (fl u) k) => And.intro (@chanW_of p1 q1 lp1 lq1 u k hu hk) (And.intro (@chanW_of p2 q2 lp2 lq2 u k hu hk) (@chanW_of p3 q3 lp3 lq3 u k hu hk)))
  have CO := Lib.hid (whole_any _ _ _ (mixK_le lp1 lq1 hk) (mixK_le lp2 lq2 hk) (mixK_le lp3 lq3 hk))
  generalize mixK p1 q1 (val k) = m1 at *
  generalize mixK p2 q2 (val k) = m2 at *
  generalize mixK p3 q3 (val k) = m3 at *
  have HM := Lib.hid hm
  clear hm hu hk hp hq HP HQ lp1 lp2 lp3 lq1 lq2 lq3
  go_enter Try.func50, Try.ntmps50
  have tok : True := trivial
  go_wp2_with (first | (go_at_call 60; ((with_reducible refine (HU.out _).mono ?_); rintro e w0 ⟨r, n, hr, rfl, rfl⟩; have BU := Lib.hid (BT.out r hr); clear hr)) | (go_at_call 61; have _t := tok; ((with_reducible refine (RA.out _).mono ?_); rw [HP'.out]; rintro e w1 ⟨rfl, hb1⟩; have e1 : Below w.heap.size w w1 := (below_drewN (Below.refl _ w) n).trans hb1; have hz1 := e1.size); clear _t tok) | (go_at_call 61; ((with_reducible refine (RB.out _).mono ?_); rw [HQ'.out]; rintro e w2 ⟨rfl, hb2⟩; have e2 := (e1.alloc hz1 _).trans (hb2.mono (by simp; omega)); have hz2 := e2.size; have hc2 := (bcell hb2).1; have hz3 := hb2.size; simp at hz3)))
  have c0 := row_old (o' := .cells #[.int .u8 q1, .int .u8 q2, .int .u8 q3] 76) hb2 0
  have c1 := row_old (o' := .cells #[.int .u8 q1, .int .u8 q2, .int .u8 q3] 76) hb2 1
  have c2 := row_old (o' := .cells #[.int .u8 q1, .int .u8 q2, .int .u8 q3] 76) hb2 2
  have c3 := row_new (w2 := w2) (cs := #[.int .u8 q1, .int .u8 q2, .int .u8 q3]) (t := 76) 0
  have c4 := row_new (w2 := w2) (cs := #[.int .u8 q1, .int .u8 q2, .int .u8 q3]) (t := 76) 1
  have c5 := row_new (w2 := w2) (cs := #[.int .u8 q1, .int .u8 q2, .int .u8 q3]) (t := 76) 2
  have e3 := e2.alloc hz2 (.cells #[.int .u8 q1, .int .u8 q2, .int .u8 q3] 76)
  have hz4 := e3.size
  have hne : ¬ w1.heap.size = w2.heap.size := by omega
  have hne' : ¬ w2.heap.size = w1.heap.size := by omega
  have hg1 : w.heap.size ≤ w1.heap.size := hz1
  simp only [List.getElem?_toArray, List.getElem?_cons_zero, List.getElem?_cons_succ] at c0 c1 c2 c3 c4 c5
  have hfz : ∀ j, (w2.alloc (.cells #[.int .u8 q1, .int .u8 q2, .int .u8 q3] 76)).frozen? ⟨w1.heap.size, j, none⟩ = false := by
    intro j
    exact row_unfrozen hb2 j
  clear hc2 hb1 hb2 e1 e2 hz1 hz2 hz3
  generalize w2.alloc (.cells #[.int .u8 q1, .int .u8 q2, .int .u8 q3] 76) = w3 at *
  generalize w1.heap.size = g1 at *
  generalize w2.heap.size = g2 at *
  obtain ⟨⟨d1, x1, s1, f1, hd1, hx1, hs1, hf1, hn1, hw1, l1, l11, l12⟩, ⟨d2, x2, s2, f2, hd2, hx2, hs2, hf2, hn2, hw2, l2, l21, l22⟩, ⟨d3, x3, s3, f3, hd3, hx3, hs3, hf3, hn3, hw3, l3, l31, l32⟩⟩ := BU.out
  clear BU
  have ra1 := fun w : World => run_float_arith (P := Try.prog) w .mul 22 .f64 d1 r x1 hx1
  rw [hd1] at ra1
  have rb1 := fun w : World => run_float_arith (P := Try.prog) w .add 22 .f64 (IW p1) x1 s1 hs1
  have rc1 := fun w : World => run_float_arith (P := Try.prog) w .add 22 .f64 s1 halfW f1 hf1
  have rd1 := fun w : World => run_convert_float_int (P := Try.prog) w 22 5 .f64 .u8 (IW m1) _ (by kernel_rfl) Try.underlying5 (IW_k l1).2.2.1
  have HF1 := Lib.hid (floorQ_any f1 hn1)
  rw [hw1] at HF1
  have lp1 : (p1 : Int) ≤ 255 := by omega
  have lq1 : (q1 : Int) ≤ 255 := by omega
  clear hd1 hx1 hs1 hf1 hn1 hw1 l1 l11 l12
  have ra2 := fun w : World => run_float_arith (P := Try.prog) w .mul 22 .f64 d2 r x2 hx2
  rw [hd2] at ra2
  have rb2 := fun w : World => run_float_arith (P := Try.prog) w .add 22 .f64 (IW p2) x2 s2 hs2
  have rc2 := fun w : World => run_float_arith (P := Try.prog) w .add 22 .f64 s2 halfW f2 hf2
  have rd2 := fun w : World => run_convert_float_int (P := Try.prog) w 22 5 .f64 .u8 (IW m2) _ (by kernel_rfl) Try.underlying5 (IW_k l2).2.2.1
  have HF2 := Lib.hid (floorQ_any f2 hn2)
  rw [hw2] at HF2
  have lp2 : (p2 : Int) ≤ 255 := by omega
  have lq2 : (q2 : Int) ≤ 255 := by omega
  clear hd2 hx2 hs2 hf2 hn2 hw2 l2 l21 l22
  have ra3 := fun w : World => run_float_arith (P := Try.prog) w .mul 22 .f64 d3 r x3 hx3
  rw [hd3] at ra3
  have rb3 := fun w : World => run_float_arith (P := Try.prog) w .add 22 .f64 (IW p3) x3 s3 hs3
  have rc3 := fun w : World => run_float_arith (P := Try.prog) w .add 22 .f64 s3 halfW f3 hf3
  have rd3 := fun w : World => run_convert_float_int (P := Try.prog) w 22 5 .f64 .u8 (IW m3) _ (by kernel_rfl) Try.underlying5 (IW_k l3).2.2.1
  have HF3 := Lib.hid (floorQ_any f3 hn3)
  rw [hw3] at HF3
  have lp3 : (p3 : Int) ≤ 255 := by omega
  have lq3 : (q3 : Int) ≤ 255 := by omega
  clear hd3 hx3 hs3 hf3 hn3 hw3 l3 l31 l32
  refine wp_loop_rounds 4 ?_
  rw [rounds_succ]
  go_wp2
  go_quiet (fail)
  go_wp2_with (first | (go_at_call 35; ((with_reducible refine (HF1.out _).mono ?_); rintro e wa ⟨rfl, rfl⟩)))
  rw [rounds_succ]
  go_wp2
  go_quiet (fail)
  go_wp2_with (first | (go_at_call 35; ((with_reducible refine (HF2.out _).mono ?_); rintro e wa ⟨rfl, rfl⟩)))
  rw [rounds_succ]
  go_wp2
  go_quiet (fail)
  go_wp2_with (first | (go_at_call 35; ((with_reducible refine (HF3.out _).mono ?_); rintro e wa ⟨rfl, rfl⟩)))
  rw [rounds_succ]
  go_wp2_with (first | (go_at_call 63; ((with_reducible refine (CO.out _).mono ?_); rintro e wb ⟨rfl, hbb⟩)))
  go_ret
  refine VBel.int HM.out.symm (Below.trans ?_ (hbb.mono ?_))
  · (repeat (first | exact Below.refl _ _ | assumption | refine below_drewN ?_ _ | refine Below.drew ?_ | (refine Below.alloc ?_ ?bs _; (case bs => first | omega | (simp; done) | (simp; omega))) | (refine Below.setCell ?_ ?bs _; (case bs => first | omega | (simp; done) | (simp; omega)))))
  · simp; omega
theorem mixP_any (a b : Int) {u k : Nat} (hu : N (fl u) k) (hk : k ≤ 4607182418800017408) (w : World) : Calls Try.prog 50 #[.int .i32 a, .int .i32 b, .float .f64 u] w (VBel (.int .i32 (mixC a b k)) w) := by
  cases hp : rgbC a with
  | none => exact mixP_no a b hu hk (.inl hp) w
  | some p =>
    cases hq : rgbC b with
    | none => exact mixP_no a b hu hk (.inr hq) w
    | some q => exact mixP_yes a b hu hk hp hq w
theorem mixD_any (a b : Int) (ha : -2147483648 ≤ a ∧ a ≤ 2147483647) (hb : -2147483648 ≤ b ∧ b ≤ 2147483647) {u k : Nat} (hu : N (fl u) k) (hk : k ≤ 4607182418800017408) (w : World) : Calls Try.prog 51 #[.int .i32 a, .int .i32 b, .float .f64 u] w (VBel (.int .i32 (mixC a b k)) w) := by
  cases hp : rgbC a with
  | none => exact mixD_no a b ha hb hu hk (.inl hp) w
  | some p =>
    cases hq : rgbC b with
    | none => exact mixD_no a b ha hb hu hk (.inr hq) w
    | some q => exact mixD_yes a b ha hb hu hk hp hq w
end Go.Proofs.Ytkgicooplgmmpaa
