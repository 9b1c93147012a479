/-
  The walks of both Mix.
-/
import Derived.Test.YtkgicooplgmmpaaMa
import Derived.Test.YtkgicooplgmmpaaLa
import Derived.Deep.QuietTactic
import Derived.BigQuiet
namespace Go.Proofs.Ytkgicooplgmmpaa
open Go.RowKit

def NRet (k : Nat) (w : World) (e : Ending) (w' : World) : Prop := ∃ r n, N (fl r) k ∧ e = .returned (.float .f64 r) ∧ w' = w.drewN n
theorem N_flx {x k : Nat} (h : N (fl x) k) : fl x = some x ∧ rg x ≤ 9218868437227405312 ∧ sr x = k := by
  obtain ⟨r, e, h1, h2⟩ := h
  obtain rfl := fl_inv e
  exact ⟨e, h1, h2⟩
theorem N_zero : N (fl 0) 0 := by rw [fl0]; exact ⟨0, rfl, by decide, by decide⟩
theorem unitT_any {x k : Nat} (hx : N (fl x) k) (hk : k ≤ 4607182418800017408) (w : World) : Calls Try.prog 60 #[.float .f64 x] w (NRet k w) := by
  obtain ⟨e, h1, h2⟩ := N_flx hx
  by_cases h0 : k = 0
  · subst h0
    have hg : fgt (fl x) (fl 0) = false := by rw [e, fl0, fgt_some h1 (by decide), h2]; decide
    clear hx h1 h2 e hk
    go_enter Try.func60, Try.ntmps60
    go_wp2
    go_ret
    exact ⟨_, 0, N_zero, rfl, rfl⟩
  · have hg : fgt (fl x) (fl 0) = true := by rw [e, fl0, fgt_some h1 (by decide), h2]; simp; rw [show sr 0 = 0 by decide]; omega
    have HM : Hid (N (fmin2 (fl x) (fl 4607182418800017408)) k) := by
      refine Lib.hid ?_
      rw [e, fl1]
      unfold fmin2
      rw [ford_some h1 (by decide), h2, (sr_low (y := 4607182418800017408) (by decide)).1]
      rcases Nat.lt_or_ge k 4607182418800017408 with hl | hl
      · rw [Int.compare_eq_lt.2 (by omega)]; rw [← e]; exact hx
      · obtain rfl : k = 4607182418800017408 := by omega
        rw [Int.compare_eq_eq.2 rfl]
        simp only
        split
        · rw [← e]; exact hx
        · exact fl1 ▸ N_one
    clear hx h1 h2 e hk h0
    go_enter Try.func60, Try.ntmps60
    go_wp2_with (first | ((with_reducible apply wpList_fmin); exact rfl; exact rfl; intro r2 n2 hr2 K hK; have HR := Lib.hid hr2; clear hr2))
    go_ret
    exact ⟨_, n2, by rw [HR.out]; exact HM.out, rfl, rfl⟩
theorem unitD_any {x k : Nat} (hx : N (fl x) k) (hk : k ≤ 4607182418800017408) (w : World) : Calls Try.prog 64 #[.float .f64 x] w (NRet k w) := by
  obtain ⟨e, h1, h2⟩ := N_flx hx
  have g1 : feq (fl x) (fl x) = true := by rw [e, feq_some h1 h1]; simp
  have g2 : flt (fl x) (fl 0) = false := by rw [e, fl0, flt_some h1 (by decide), h2]; simp; rw [show sr 0 = 0 by decide]; omega
  have g3 : fgt (fl x) (fl 4607182418800017408) = false := by rw [e, fl1, fgt_some h1 (by decide), h2, (sr_low (y := 4607182418800017408) (by decide)).1]; simp; omega
  have HX := Lib.hid hx
  clear h1 h2 hk e hx
  go_enter Try.func64, Try.ntmps64
  go_wp2
  go_ret
  exact ⟨_, 0, HX.out, rfl, rfl⟩

def mixC (a b : Int) (k : Nat) : Int := match rgbC a, rgbC b with
  | some p, some q => 16777216 + 65536 * mixK p.1 q.1 (val k) + 256 * mixK p.2.1 q.2.1 (val k) + mixK p.2.2 q.2.2 (val k)
  | _, _ => if k < 4602678819172646912 then countC a else countC b
theorem half_flt {u k : Nat} (h : N (fl u) k) : flt (fl u) (fl 4602678819172646912) = decide (k < 4602678819172646912) := by
  obtain ⟨e, h1, h2⟩ := N_flx h
  rw [e, show fl 4602678819172646912 = some 4602678819172646912 by decide, flt_some h1 (by decide), h2, (sr_low (y := 4602678819172646912) (by decide)).1]
  exact decide_eq_decide.2 (by omega)
theorem rgbV_some {T : Nat × Nat × Nat → Value} {c : Int} {p : Nat × Nat × Nat} (h : rgbC c = some p) : rgbV T c = .tuple #[T p, .bool true] := by unfold rgbV; rw [h]
theorem rgbV_none {T : Nat × Nat × Nat → Value} {c : Int} (h : rgbC c = none) : rgbV T c = .tuple #[T (0, 0, 0), .bool false] := by unfold rgbV; rw [h]

theorem row_old {w1 w2 : World} {cs : Array Value} {t : TypeId} {o' : Obj} (hb : Below (w1.alloc (.cells cs t)).heap.size (w1.alloc (.cells cs t)) w2) (j : Nat) : (w2.alloc o').cell? ⟨w1.heap.size, j, none⟩ = cs[j]? := by
  have hlt : w1.heap.size < w2.heap.size := by have := hb.size; simp at this; omega
  have e1 : (w2.alloc o').cell? ⟨w1.heap.size, j, none⟩ = w2.cell? ⟨w1.heap.size, j, none⟩ := by
    simp only [World.cell?]
    rw [heap_alloc_old w2 o' hlt]
  rw [e1, (bcell hb).1 _ _ (by simp)]
  exact cell_of_row _ _ j cs t (0, 0) (heap_alloc_new _ _)
theorem row_new {w2 : World} {cs : Array Value} {t : TypeId} (j : Nat) : (w2.alloc (.cells cs t)).cell? ⟨w2.heap.size, j, none⟩ = cs[j]? :=
  cell_of_row _ _ j cs t (0, 0) (heap_alloc_new _ _)
/-- One of both is no colour with channels: the document. -/
theorem mixD_no (a b : Int) (ha : -2147483648 ≤ a ∧ a ≤ 2147483647) (hb : -2147483648 ≤ b ∧ b ≤ 2147483647) {u k : Nat} (hu : N (fl u) k) (hk : k ≤ 4607182418800017408) (hn : rgbC a = none ∨ rgbC b = none) (w : World) :
    Calls Try.prog 51 #[.int .i32 a, .int .i32 b, .float .f64 u] w (VBel (.int .i32 (mixC a b k)) w) := by
  obtain ⟨p, ia, hpa⟩ : ∃ (p : Nat × Nat × Nat) (i : Bool), rgbV tri64 a = .tuple #[tri3 p.1 p.2.1 p.2.2, .bool i] ∧ (i = false ↔ rgbC a = none) := by
    cases h : rgbC a with
    | none => exact ⟨(0, 0, 0), false, rgbV_none h, by simp⟩
    | some p => exact ⟨p, true, rgbV_some h, by simp⟩
  obtain ⟨q, ib, hqb⟩ : ∃ (p : Nat × Nat × Nat) (i : Bool), rgbV tri64 b = .tuple #[tri3 p.1 p.2.1 p.2.2, .bool i] ∧ (i = false ↔ rgbC b = none) := by
    cases h : rgbC b with
    | none => exact ⟨(0, 0, 0), false, rgbV_none h, by simp⟩
    | some p => exact ⟨p, true, rgbV_some h, by simp⟩
  have hm : mixC a b k = if k < 4602678819172646912 then countC a else countC b := by
    unfold mixC
    cases h1 : rgbC a with
    | none => rfl
    | some _ =>
      cases h2 : rgbC b with
      | none => rfl
      | some _ => rcases hn with h | h
                  · rw [h1] at h; cases h
                  · rw [h2] at h; cases h
  have hi : (ia && ib) = false := by
    rcases hn with h | h
    · rw [hpa.2.2 h]; rfl
    · rw [hqb.2.2 h]; simp
  obtain ⟨p1, p2, p3⟩ := p
  obtain ⟨q1, q2, q3⟩ := q
  have HP : Hid (rgbV tri64 a = .tuple #[tri3 p1 p2 p3, .bool ia]) := Lib.hid hpa.1
  have HQ : Hid (rgbV tri64 b = .tuple #[tri3 q1 q2 q3, .bool ib]) := Lib.hid hqb.1
  have HM := Lib.hid hm
  have HI := Lib.hid hi
  have CA := Lib.hid (countedR_any a ha)
  have CB := Lib.hid (countedR_any b hb)
  have RA := Lib.hid (rgbR_any a ha)
  have RB := Lib.hid (rgbR_any b hb)
  have HU := Lib.hid (@unitD_any u k hu hk)
  clear hpa hqb hm hi hn hu hk ha hb
  obtain ⟨kb, hkb⟩ : ∃ kb, decide (k < 4602678819172646912) = kb := ⟨_, rfl⟩
  have HK := Lib.hid hkb
  have HE : Hid ((if kb then countC a else countC b) = mixC a b k) := Lib.hid (by rw [HM.out, ← hkb]; simp)
  clear hkb HM
  go_enter Try.func51, Try.ntmps51
  have tok : True := trivial
  cases ia <;> cases ib <;> first | (exact absurd HI.out (by decide)) | skip
  all_goals
    cases kb
    all_goals
      go_wp2_with (first | (go_at_call 64; ((with_reducible refine (HU.out _).mono ?_); rintro e w0 ⟨r, n, hr, rfl, rfl⟩; have hf := (half_flt hr).trans HK.out; clear hr)) | (go_at_call 65; have _t := tok; ((with_reducible refine (RA.out _).mono ?_); rw [HP.out]; rintro e w1 ⟨rfl, hb1⟩; have e1 : Below w.heap.size w w1 := (below_drewN (Below.refl _ w) n).trans hb1; have hz1 := e1.size); clear _t tok) | (go_at_call 65; ((with_reducible refine (RB.out _).mono ?_); rw [HQ.out]; rintro e w2 ⟨rfl, hb2⟩; have e2 := (e1.alloc hz1 _).trans (hb2.mono (by simp; omega)); have hz2 := e2.size)) | (go_at_call 68; ((with_reducible refine (CA.out _).mono ?_); rintro e w3 ⟨rfl, rfl⟩)) | (go_at_call 68; ((with_reducible refine (CB.out _).mono ?_); rintro e w3 ⟨rfl, rfl⟩)))
      go_ret
      exact VBel.int HE.out (e2.alloc hz2 _)
set_option maxHeartbeats 400000 in
/-- Both have channels: the document. -/
theorem mixD_yes (a b : Int) (ha : -2147483648 ≤ a ∧ a ≤ 2147483647) (hb : -2147483648 ≤ b ∧ b ≤ 2147483647) {u k : Nat} (hu : N (fl u) k) (hk : k ≤ 4607182418800017408) {p q : Nat × Nat × Nat} (hp : rgbC a = some p) (hq : rgbC b = some q) (w : World) :
    Calls Try.prog 51 #[.int .i32 a, .int .i32 b, .float .f64 u] w (VBel (.int .i32 (mixC a b k)) w) := by
  have hm : mixC a b k = 16777216 + 65536 * mixK p.1 q.1 (val k) + 256 * mixK p.2.1 q.2.1 (val k) + mixK p.2.2 q.2.2 (val k) := by unfold mixC; rw [hp, hq]
  obtain ⟨lp1, lp2, lp3⟩ := rgbC_le hp
  obtain ⟨lq1, lq2, lq3⟩ := rgbC_le hq
  have HP := Lib.hid (rgbV_some (T := tri64) hp)
  have HQ := Lib.hid (rgbV_some (T := tri64) hq)
  obtain ⟨p1, p2, p3⟩ := p
  obtain ⟨q1, q2, q3⟩ := q
  dsimp only at lp1 lp2 lp3 lq1 lq2 lq3
  have HP' : Hid (rgbV tri64 a = .tuple #[tri3 p1 p2 p3, .bool true]) := HP
  have HQ' : Hid (rgbV tri64 b = .tuple #[tri3 q1 q2 q3, .bool true]) := HQ
  have HM := Lib.hid hm
  have RA := Lib.hid (rgbR_any a ha)
  have RB := Lib.hid (rgbR_any b hb)
  have HU := Lib.hid (@unitD_any u k hu hk)
  have BT := Lib.hid (fun (u : Nat) (hu : N (fl u) k) => And.intro (@between_any p1 q1 u k lp1 lq1 hu hk) (And.intro (@between_any p2 q2 u k lp2 lq2 hu hk) (@between_any p3 q3 u k lp3 lq3 hu hk)))
  have CO := Lib.hid (colour_any _ _ _ (mixK_le lp1 lq1 hk) (mixK_le lp2 lq2 hk) (mixK_le lp3 lq3 hk))
  clear hm hu hk ha hb hp hq HP HQ lp1 lp2 lp3 lq1 lq2 lq3
  go_enter Try.func51, Try.ntmps51
  have tok : True := trivial
  go_wp2_with (first | (go_at_call 64; ((with_reducible refine (HU.out _).mono ?_); rintro e w0 ⟨r, n, hr, rfl, rfl⟩; have BU := Lib.hid (BT.out r hr); clear hr)) | (go_at_call 65; have _t := tok; ((with_reducible refine (RA.out _).mono ?_); rw [HP'.out]; rintro e w1 ⟨rfl, hb1⟩; have e1 : Below w.heap.size w w1 := (below_drewN (Below.refl _ w) n).trans hb1; have hz1 := e1.size); clear _t tok) | (go_at_call 65; ((with_reducible refine (RB.out _).mono ?_); rw [HQ'.out]; rintro e w2 ⟨rfl, hb2⟩; have e2 := (e1.alloc hz1 _).trans (hb2.mono (by simp; omega)); have hz2 := e2.size; have hc2 := (bcell hb2).1; have hz3 := hb2.size; simp at hz3)))
  have c0 := row_old (o' := .cells #[.int .i64 q1, .int .i64 q2, .int .i64 q3] 82) hb2 0
  have c1 := row_old (o' := .cells #[.int .i64 q1, .int .i64 q2, .int .i64 q3] 82) hb2 1
  have c2 := row_old (o' := .cells #[.int .i64 q1, .int .i64 q2, .int .i64 q3] 82) hb2 2
  have c3 := row_new (w2 := w2) (cs := #[.int .i64 q1, .int .i64 q2, .int .i64 q3]) (t := 82) 0
  have c4 := row_new (w2 := w2) (cs := #[.int .i64 q1, .int .i64 q2, .int .i64 q3]) (t := 82) 1
  have c5 := row_new (w2 := w2) (cs := #[.int .i64 q1, .int .i64 q2, .int .i64 q3]) (t := 82) 2
  have e3 := e2.alloc hz2 (.cells #[.int .i64 q1, .int .i64 q2, .int .i64 q3] 82)
  simp only [List.getElem?_toArray, List.getElem?_cons_zero, List.getElem?_cons_succ] at c0 c1 c2 c3 c4 c5
  clear hc2 hb1 hb2 e1 e2 hz1 hz2 hz3
  generalize w2.alloc (.cells #[.int .i64 q1, .int .i64 q2, .int .i64 q3] 82) = w3 at *
  generalize w1.heap.size = g1 at *
  generalize w2.heap.size = g2 at *
  go_quiet ((first | (go_at_call 67; with_reducible exact Calls.quiet_of_same (BU.out.1 _)) | (go_at_call 67; with_reducible exact Calls.quiet_of_same (BU.out.2.1 _)) | (go_at_call 67; with_reducible exact Calls.quiet_of_same (BU.out.2.2 _)) | (go_at_call 66; with_reducible exact Calls.quiet_of_same (CO.out _))))
  go_wp2
  go_ret
  exact VBel.int HM.out.symm (below_drewN e3 _)
end Go.Proofs.Ytkgicooplgmmpaa
