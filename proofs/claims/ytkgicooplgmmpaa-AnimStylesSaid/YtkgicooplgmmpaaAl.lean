/-
  alive: it answers true.
-/
import Derived.Test.YtkgicooplgmmpaaBe
import Derived.Test.YtkgicooplgmmpaaTw
namespace Go.Proofs.Ytkgicooplgmmpaa
open Go.RowKit

theorem FRow.four {w : World} {B : Nat} {v : Value} {bs : List Nat} {x0 x1 x2 x3 : FL} (h : FRow w B v bs) (hv : bs.map fl = [x0, x1, x2, x3]) :
    ∃ g c b0 b1 b2 b3, v = .slice (some ⟨g, 0, none⟩) 4 c ∧ B ≤ g ∧ g < w.heap.size ∧ w.cell? ⟨g, 0, none⟩ = some (.float .f64 b0) ∧ w.cell? ⟨g, 1, none⟩ = some (.float .f64 b1) ∧ w.cell? ⟨g, 2, none⟩ = some (.float .f64 b2) ∧ w.cell? ⟨g, 3, none⟩ = some (.float .f64 b3) ∧
      fl b0 = x0 ∧ fl b1 = x1 ∧ fl b2 = x2 ∧ fl b3 = x3 := by
  match bs, hv with
  | [b0, b1, b2, b3], hv =>
    rcases h.2 with ⟨h1, h2⟩ | ⟨g, cap, cur, h1, h2, h3, h4, h5, h6⟩
    · simp at h2
    · subst h1
      simp at hv
      refine ⟨g, cap, b0, b1, b2, b3, rfl, h2, (Array.getElem?_eq_some_iff.1 h3).1, ?_, ?_, ?_, ?_, hv.1, hv.2.1, hv.2.2.1, hv.2.2.2⟩
      · have := h.cell rfl 0 (by simp); simpa using this
      · have := h.cell rfl 1 (by simp); simpa using this
      · have := h.cell rfl 2 (by simp); simpa using this
      · have := h.cell rfl 3 (by simp); simpa using this

theorem alive_tween : tweenL (easeP 0) (fl 0) (fl 4621819117588971520) 4 = [some 4612811918334230528, some 4617315517961601024, some 4620130267728707584, some 4621819117588971520] := by decide +kernel
theorem alive_swing : swingL (fl 4607182418800017408) (fl 0) (fl 4607182418800017408) (fl 4602678819172646912) 4 = [some 0, some 13821547256400052224, some 0, some 4589168020290535424] := by decide +kernel
theorem alive_right : rightP (fl 4607182418800017408) (fl 0) (fl 4607182418800017408) (fl 4602678819172646912) = true := by decide +kernel
theorem alive_rests : restsP (fl 4607182418800017408) (fl 0) (fl 4607182418800017408) (fl 4602678819172646912) (fl 4591870180066957722) = some 4 := by
  rw [restsP, alive_right]
  decide +kernel

theorem alive_1 (w : World) : Calls Try.prog 17 #[.int .i64 0, .float .f64 0, .float .f64 4621819117588971520, .int .i64 4] w
    fun e w' => ∃ v bs, e = .returned (.tuple #[v, .int .i64 0]) ∧ FRow w' w.heap.size v bs ∧ bs.map fl = [some 4612811918334230528, some 4617315517961601024, some 4620130267728707584, some 4621819117588971520] ∧ Below w.heap.size w w' :=
  alive_tween ▸ tweenP_ok 0 0 4621819117588971520 4 (by omega) w
theorem alive_2 (w : World) : Calls Try.prog 20 #[.agg #[.float .f64 4607182418800017408, .float .f64 0, .float .f64 4607182418800017408, .float .f64 4602678819172646912], .int .i64 4] w
    fun e w' => ∃ v bs, e = .returned (.tuple #[v, .int .i64 0]) ∧ FRow w' w.heap.size v bs ∧ bs.map fl = [some 0, some 13821547256400052224, some 0, some 4589168020290535424] ∧ Below w.heap.size w w' :=
  alive_swing ▸ swingP_ok 4607182418800017408 0 4607182418800017408 4602678819172646912 alive_right 4 (by omega) w
theorem alive_3 (w : World) : Calls Try.prog 22 #[.agg #[.float .f64 4607182418800017408, .float .f64 0, .float .f64 4607182418800017408, .float .f64 4602678819172646912], .float .f64 4591870180066957722] w
    fun e w' => e = .returned (.tuple #[.int .i64 4, .bool true]) ∧ Below w.heap.size w w' := by
  have h := restsP_any 4607182418800017408 0 4607182418800017408 4602678819172646912 4591870180066957722 w
  rw [alive_rests] at h
  exact h

set_option maxHeartbeats 400000 in
theorem plus1 (x : Nat) (w : World) : Calls Try.prog 38 #[.float .f64 x] w (FRet (fadd (fl x) (fl 4607182418800017408)) w) := by
  go_enter Try.func38, Try.ntmps38
  go_wp2_with (first | ((with_reducible apply wpList_fop fop_mul); exact rfl; exact rfl; intro r nq hr K hK) | ((with_reducible apply wpList_fop fop_add); exact rfl; exact rfl; intro r nq hr K hK) | ((with_reducible apply wpList_fop fop_sub); exact rfl; exact rfl; intro r nq hr K hK) | ((with_reducible apply wpList_fop fop_quo); exact rfl; exact rfl; intro r nq hr K hK))
  go_ret
  exact FRet.drew hr
set_option maxHeartbeats 400000 in
theorem twice (x : Nat) (w : World) : Calls Try.prog 39 #[.float .f64 x] w (FRet (fmul (fl 4611686018427387904) (fl x)) w) := by
  go_enter Try.func39, Try.ntmps39
  go_wp2_with (first | ((with_reducible apply wpList_fop fop_mul); exact rfl; exact rfl; intro r nq hr K hK) | ((with_reducible apply wpList_fop fop_add); exact rfl; exact rfl; intro r nq hr K hK) | ((with_reducible apply wpList_fop fop_sub); exact rfl; exact rfl; intro r nq hr K hK) | ((with_reducible apply wpList_fop fop_quo); exact rfl; exact rfl; intro r nq hr K hK))
  go_ret
  exact FRet.drew hr

/-- Nothing that was there has turned. -/
def Kept (w0 : World) : Nat → World → Prop := fun _ w => Below w0.heap.size w0 w
theorem Kept.drew {w0 : World} {c : Nat} {w : World} (h : Kept w0 c w) : Kept w0 c w.drew := Below.drew h
theorem beh_fret {w0 : World} {k : Nat} {F : FL → FL} (hf : ∀ args w, (callFunc k args).run Try.prog w = .ok (.enter k args) w) (h : ∀ x w, Calls Try.prog k #[.float .f64 x] w (FRet (F (fl x)) w)) : Beh (Kept w0) 0 F (.func (.func k) #[] #[]) :=
  ⟨k, #[], rfl, hf, fun _ x w hJ => (h x w).mono fun _ _ ⟨r, n, hr, he, hw⟩ => ⟨r, hr, he, hw ▸ below_drewN hJ n⟩⟩

theorem alive_4 (w : World) (gl : Nat) (h : w.heap.size = gl + 1) (h0 : w.cell? ⟨gl, 0, none⟩ = some (.func (.func 38) #[] #[])) (h1 : w.cell? ⟨gl, 1, none⟩ = some .nilFunc) (h2 : w.cell? ⟨gl, 2, none⟩ = some (.func (.func 39) #[] #[])) :
    Calls Try.prog 25 #[.slice (some ⟨gl, 0, none⟩) 3 3] w fun e w' => ∃ k cap, e = .returned (.func (.func k) #[] cap) ∧ (∀ args w, (callFunc k args).run Try.prog w = .ok (.enter k args) w) ∧
      (∀ x w1, Below w'.heap.size w' w1 → Calls Try.prog k (#[.float .f64 x] ++ cap) w1 fun e w2 => ∃ r, fl r = fmul (fl 4611686018427387904) (fadd (fl x) (fl 4607182418800017408)) ∧ e = .returned (.float .f64 r) ∧ Below w'.heap.size w' w2) ∧ Below w.heap.size w w' := by
  refine (chain_some [.func (.func 38) #[] #[], .nilFunc, .func (.func 39) #[] #[]] ?_ gl 0 3 (by decide) w (by omega) ?_).mono ?_
  · intro g hg
    simp at hg
    rcases hg with rfl | rfl | rfl
    · exact .inr ⟨_, _, rfl⟩
    · exact .inl rfl
    · exact .inr ⟨_, _, rfl⟩
  · intro i hi
    match i, hi with
    | 0, _ => simpa using h0
    | 1, _ => simpa using h1
    | 2, _ => simpa using h2
  · rintro e w' ⟨f, rfl, hch, hb⟩
    have hB := beh_chain (J := Kept w') (n := 0) (fun c w h => h.drew) (fun c w hj b _ hlt => Below.cell hj (p := ⟨b, 0, none⟩) hlt) _ [fun x => fmul (fl 4611686018427387904) x, fun x => fadd x (fl 4607182418800017408)] f rfl (fun i g F hg hF => ?_) hch
    · obtain ⟨k, cap, rfl, hf, hc⟩ := hB
      exact ⟨k, cap, rfl, hf, fun x w1 hw => hc 0 x w1 hw, hb⟩
    · match i, hg, hF with
      | 0, hg, hF =>
        cases hg; cases hF
        exact beh_fret (fun _ _ => by kernel_rfl) twice
      | 1, hg, hF =>
        cases hg; cases hF
        exact beh_fret (fun _ _ => by kernel_rfl) plus1
      | i + 2, hg, hF => simp at hF

theorem alive_e : easeP 5 (fl 4602678819172646912) = some 4605071356474687488 := by decide +kernel
theorem alive_5 (w : World) : Calls Try.prog 13 #[.int .i64 5, .float .f64 4602678819172646912] w (FRet (some 4605071356474687488) w) := alive_e ▸ easeP_any 5 4602678819172646912 w

theorem feq_self_of {b : Nat} {x : FL} (h : fl b = x) (y : FL) (hx : feq x y = true) : feq (fl b) y = true := by rw [h]; exact hx

set_option maxRecDepth 100000 in
set_option maxHeartbeats 1000000 in
theorem alive_any (w : World) : Calls Try.prog 15 #[] w (BBool true w) := by
  have hq1 := run_eql_func_nil
  go_enter Try.func15, Try.ntmps15
  go_wp2_with (first | (go_at_call 17; (with_reducible refine (alive_1 _).mono ?_); rintro e w1 ⟨v, bs, rfl, hrow1, hv1, hb1⟩; obtain ⟨g1, c1, a0, a1, a2, a3, rfl, hB1, hg1, ha0, ha1, ha2, ha3, fa0, fa1, fa2, fa3⟩ := hrow1.four hv1; clear hrow1 hv1; have qa0 := feq_self_of fa0 (fl 4612811918334230528) (by decide +kernel); have qa3 := feq_self_of fa3 (fl 4621819117588971520) (by decide +kernel); clear fa0 fa1 fa2 fa3) | (go_at_call 20; (with_reducible refine (alive_2 _).mono ?_); rintro e w2 ⟨v, bs, rfl, hrow2, hv2, hb2⟩; obtain ⟨g2, c2, d0, d1, d2, d3, rfl, hB2, hg2, hd0, hd1, hd2, hd3, fd0, fd1, fd2, fd3⟩ := hrow2.four hv2; clear hrow2 hv2; have qd0 := feq_self_of fd0 (fl 0) (by decide +kernel); have qd1 := feq_self_of fd1 (fl 13821547256400052224) (by decide +kernel); have qd3 := feq_self_of fd3 (fl 4589168020290535424) (by decide +kernel); clear fd0 fd1 fd2 fd3; have hc2 := (bcell hb2).1) | (go_at_call 22; (with_reducible refine (alive_3 _).mono ?_); rintro e w3 ⟨rfl, hb3⟩; have hc3 := (bcell hb3).1) | (go_at_call 25; refine (alive_4 _ _ (World.size_alloc _ _) (by simp) (by simp) (by simp)).mono ?_; rintro e w4 ⟨kf, capf, rfl, hkf, hcall, hb4⟩; have hc4 := (bcell hb4).1; have hcall' := Lib.hid hcall; clear hcall; have s2 := hb2.size; have s3 := hb3.size; have y1 : g1 < w2.heap.size := (by omega); have y2 : g1 < w3.heap.size := (by omega); have y3 : g1 < w3.heap.size + 1 := (by omega); have y4 : g2 < w3.heap.size := (by omega); have y5 : g2 < w3.heap.size + 1 := (by omega)) | ((with_reducible refine (hcall'.out _ _ (Below.refl _ _)).mono ?_); rintro e w5 ⟨r5, hr5, rfl, hb5⟩; have q5 : feq (fl r5) (fl 4620693217682128896) = true := (by rw [hr5]; decide +kernel); clear hr5) | (go_at_call 13; (with_reducible refine (alive_5 _).mono ?_); rintro e w6 ⟨r6, n6, hr6, rfl, rfl⟩; have q6 := feq_self_of hr6 (fl 4605071356474687488) (by decide +kernel); clear hr6))
  go_ret
  refine ⟨rfl, below_drewN ?_ _⟩
  have s1 := hb1.size
  have e3 : Below w.heap.size w w3 := hb1.trans ((hb2.mono s1).trans (hb3.mono (by omega)))
  exact ((e3.alloc (by omega) _).trans (hb4.mono (by simp; omega))).trans (hb5.mono (by have := hb4.size; simp at this; omega))
end Go.Proofs.Ytkgicooplgmmpaa
