/-
  The walk of AnimRows: fewer than no steps.
-/
import Derived.Test.YtkgicooplgmmpaaRk
namespace Go.Proofs.Ytkgicooplgmmpaa
open Go.RowKit

set_option maxRecDepth 100000 in
set_option maxHeartbeats 4000000 in
theorem rows_5 (way : Int) (fr tt : Nat) (n : Int) (hn' : n < 0) (M : Nat) (hM : n.tmod 200 = -(M : Int)) (hMl : M ≤ 199) (hMp : 0 < M) (a b c d near : Nat) (hne : near < 18446744073709551616) (w : World) : Calls Try.prog 9 #[.int .i64 way, .float .f64 fr, .float .f64 tt, .int .i64 n, spr a b c d, .float .f64 near] w (BBool true w) := by
  have HMo := Lib.hid hM
  clear hM
  have hn : n < 0 ∨ 65536 < n := .inl hn'
  go_enter Try.func9, Try.ntmps9
  go_upto_region 6 with (first | (go_at_call 17; ((with_reducible refine (tweenP_no _ _ _ _ hn _).mono ?_); rintro e w1 ⟨rfl, rfl⟩)) | (go_at_call 15; ((with_reducible refine (alive_any _).mono ?_); rintro e wz ⟨rfl, hbz⟩; have hcz := (bcell hbz).1)))
  have hbox : RoBox w a b c d w.heap.size wz := (RoBox.start w a b c d _).below hbz
  clear hcz hbz
  generalize wz = W at hbox ⊢
  have hM := HMo.out
  clear hn HMo
  have hM1 : (-(M : Int) < 0) = True := by simp; omega
  go_upto_region 9 with (fail)
  clear hM hM1 hMp hn'
  have k0 := hbox.c0; have k1 := hbox.c1; have k2 := hbox.c2; have k3 := hbox.c3
  cases hR : rightP (fl a) (fl b) (fl c) (fl d)
  · have hk : restsP (fl a) (fl b) (fl c) (fl d) (fl near) = none := by simp [restsP, hR]
    have HK := Lib.hid (show restV (restsP (fl a) (fl b) (fl c) (fl d) (fl near)) = .tuple #[.int .i64 0, .bool false] by rw [hk]; rfl)
    have HR := Lib.hid hR
    clear hk hR
    go_wp2_with (first | (go_at_call 20; ((with_reducible refine (swingP_bad _ _ _ _ HR.out _ _).mono ?_); rintro e w3 ⟨rfl, hb3⟩; replace hbox := hbox.below hb3; clear hb3; have k0 := hbox.c0; have k1 := hbox.c1; have k2 := hbox.c2; have k3 := hbox.c3)) | (go_at_call 22; ((with_reducible refine (restsP_any _ _ _ _ _ _).mono ?_); rw [HK.out]; rintro e w4 ⟨rfl, hb4⟩; replace hbox := hbox.below hb4; clear hb4; have k0 := hbox.c0; have k1 := hbox.c1; have k2 := hbox.c2; have k3 := hbox.c3)))
    go_ret
    exact ⟨rfl, hbox.bel⟩
  · have HR := Lib.hid hR
    obtain ⟨kv, okb, hkv⟩ : ∃ kv okb, restV (restsP (fl a) (fl b) (fl c) (fl d) (fl near)) = .tuple #[.int .i64 kv, .bool okb] := by cases restsP (fl a) (fl b) (fl c) (fl d) (fl near) <;> exact ⟨_, _, rfl⟩
    have HK := Lib.hid hkv
    clear hR hkv
    have tok : True := trivial
    go_wp2_with (first | (go_at_call 20; have _t := tok; ((with_reducible refine (swingP_int _ _ _ _ HR.out M _ (by omega) (by omega) _).mono ?_); rintro e w3 ⟨va, us, rfl, rowa, vala, hb3⟩; replace hbox := hbox.below hb3; clear hb3; have k0 := hbox.c0; have k1 := hbox.c1; have k2 := hbox.c2; have k3 := hbox.c3; have hla := swing_len vala; obtain ⟨pa, ca, rfl⟩ := rowa.slice; rw [hla] at rowa ⊢; have VA := Lib.hid vala; have LA := Lib.hid hla; clear vala hla; clear _t tok)) | (go_at_call 20; ((with_reducible refine (swingP_int _ _ _ _ HR.out (M + 50) _ (by omega) (by omega) _).mono ?_); rintro e w4 ⟨vb, bs, rfl, rowb, valb, hb4⟩; replace hbox := hbox.below hb4; replace rowa := rowa.belowSize hb4; clear hb4; have k0 := hbox.c0; have k1 := hbox.c1; have k2 := hbox.c2; have k3 := hbox.c3; have hlb := swing_len valb; obtain ⟨pb, cb, rfl⟩ := rowb.slice; rw [hlb] at rowb ⊢; have VB := Lib.hid valb; have LB := Lib.hid hlb; clear valb hlb)) | (go_at_call 22; ((with_reducible refine (restsP_any _ _ _ _ _ _).mono ?_); rw [HK.out]; rintro e w5 ⟨rfl, hb5⟩; replace hbox := hbox.below hb5; replace rowa := rowa.belowSize hb5; replace rowb := rowb.belowSize hb5; clear hb5; have k0 := hbox.c0; have k1 := hbox.c1; have k2 := hbox.c2; have k3 := hbox.c3)))
    go_loopw [22] (fun i wr => ∃ k : Nat, k ≤ M ∧ i = .int .i64 k ∧ ∃ m, wr = w5.drewN m) (fun i _ => M - (intOf i).toNat)
    case atStart => exact ⟨0, Nat.zero_le _, rfl, 0, rfl⟩
    case round =>
      obtain ⟨k, hk, rfl, m, rfl⟩ := hrel
      by_cases hkn : k < M
      · obtain ⟨ga, rfl, ka⟩ := rowa.at k hkn
        obtain ⟨gb, rfl, kb⟩ := rowb.at k (by omega)
        have HS := Lib.hid (swing_same VA.out VB.out hkn (show k < M + 50 by omega))
        clear k0 k1 k2 k3
        generalize us.getD k 0 = xa at ka HS
        generalize bs.getD k 0 = xb at kb HS
        have ka2 : (w5.drewN m).cell? ⟨ga, k, none⟩ = _ := ka
        have kb2 : (w5.drewN m).cell? ⟨gb, k, none⟩ = _ := kb
        clear ka kb
        generalize hwm : w5.drewN m = wm at ka2 kb2 ⊢
        have HWM := Lib.hid hwm
        clear hwm
        go_wp2_with fail
        go_quiet ((go_at_call 27; exact Calls.quiet_of ((alike_any _ _ HS.out _).mono fun _ _ ⟨n, he, hw⟩ => ⟨he, n, hw⟩)))
        go_wp2_with fail
        go_roundw
        case rel => exact ⟨k + 1, by omega, by go_num, _, by rw [← HWM.out, World.drewN_drewN]⟩
        case measure => simp [intOf]; omega
      · obtain rfl : k = M := by omega
        clear rowa rowb VA VB LA LB
        replace hbox := hbox.below (below_drewN (Below.refl _ w5) m)
        generalize w5.drewN m = W6 at hbox ⊢
        clear k0 k1 k2 k3
        have k0 := hbox.c0; have k1 := hbox.c1; have k2 := hbox.c2; have k3 := hbox.c3
        cases hd1 : fle (fsub (fl a) (fl b)) (fl near)
        · have HNo : Hid ((fle (fsub (fl a) (fl b)) (fl near) && fle (fneg (fsub (fl a) (fl b))) (fl near)) = false) := Lib.hid (by rw [hd1]; rfl)
          cases hkk : restsP (fl a) (fl b) (fl c) (fl d) (fl near) with
          | none =>
            have hk := HK.out
            rw [hkk] at hk
            obtain ⟨rfl, rfl⟩ := restV_none_inj hk
            clear hk hkk
            go_wp2_with (first | ((with_reducible apply wpList_fop fop_mul); exact rfl; exact rfl; intro r nq hr K hK) | ((with_reducible apply wpList_fop fop_add); exact rfl; exact rfl; intro r nq hr K hK) | ((with_reducible apply wpList_fop fop_sub); exact rfl; exact rfl; intro r nq hr K hK) | ((with_reducible apply wpList_fop fop_quo); exact rfl; exact rfl; intro r nq hr K hK))
            go_ret
            exact ⟨rfl, below_drewN hbox.bel _⟩
          | some kk =>
            have hk := HK.out
            rw [hkk] at hk
            obtain ⟨rfl, rfl⟩ := restV_some_inj hk
            have hpos := rests_pos (W64_fl hne) hkk HNo.out
            have HKK := Lib.hid hkk
            clear hk hkk
            by_cases h1000 : kk < 1000
            · go_wp2_with (first | ((with_reducible apply wpList_fop fop_mul); exact rfl; exact rfl; intro r nq hr K hK) | ((with_reducible apply wpList_fop fop_add); exact rfl; exact rfl; intro r nq hr K hK) | ((with_reducible apply wpList_fop fop_sub); exact rfl; exact rfl; intro r nq hr K hK) | ((with_reducible apply wpList_fop fop_quo); exact rfl; exact rfl; intro r nq hr K hK) | (go_at_call 20; ((with_reducible refine (swingP_int _ _ _ _ HR.out kk _ (by omega) (by omega) _).mono ?_); rintro e w7 ⟨vc, cs, rfl, rowc, valc, hb7⟩; replace hbox := (hbox.below (below_drewN (Below.refl _ W6) _)).below hb7; clear hb7; have k0 := hbox.c0; have k1 := hbox.c1; have k2 := hbox.c2; have k3 := hbox.c3; have hlc := swing_len valc; obtain ⟨pc, cc, rfl⟩ := rowc.slice; rw [hlc] at rowc ⊢; obtain ⟨gc, rfl, kc⟩ := rowc.at (kk - 1) (by omega); have hxv := swing_last valc hpos; clear rowc valc; generalize cs.getD (kk - 1) 0 = xc at kc hxv; obtain ⟨q1, q2, hq1, hq2, hq3, hq4⟩ := rest_pack HR.out HKK.out hxv hne; clear hxv hlc)))
              have g0 : decide ((kk : Int) < 1) = false := by simp; omega
              have g1' : IntKind.i64.wrap ((kk : Int) - 1) = (kk : Int) - 1 := IntWalk.i64_in _ (by omega)
              have g2 : (0 : Int) ≤ (kk : Int) - 1 := by omega
              have g3 : ((kk : Int) - 1).toNat = kk - 1 := by omega
              have g4 : (kk : Int) - 1 < (kk : Int) := by omega
              go_quiet (fail)
              clear g0 g1' g2 g3 g4
              go_wp2_with fail
              go_ret
              exact ⟨rfl, below_drewN hbox.bel _⟩
            · go_wp2_with (first | ((with_reducible apply wpList_fop fop_mul); exact rfl; exact rfl; intro r nq hr K hK) | ((with_reducible apply wpList_fop fop_add); exact rfl; exact rfl; intro r nq hr K hK) | ((with_reducible apply wpList_fop fop_sub); exact rfl; exact rfl; intro r nq hr K hK) | ((with_reducible apply wpList_fop fop_quo); exact rfl; exact rfl; intro r nq hr K hK))
              go_ret
              exact ⟨rfl, below_drewN hbox.bel _⟩
        · cases hd2 : fle (fneg (fsub (fl a) (fl b))) (fl near)
          · have HNo : Hid ((fle (fsub (fl a) (fl b)) (fl near) && fle (fneg (fsub (fl a) (fl b))) (fl near)) = false) := Lib.hid (by rw [hd2, Bool.and_false])
            cases hkk : restsP (fl a) (fl b) (fl c) (fl d) (fl near) with
          | none =>
            have hk := HK.out
            rw [hkk] at hk
            obtain ⟨rfl, rfl⟩ := restV_none_inj hk
            clear hk hkk
            go_wp2_with (first | ((with_reducible apply wpList_fop fop_mul); exact rfl; exact rfl; intro r nq hr K hK) | ((with_reducible apply wpList_fop fop_add); exact rfl; exact rfl; intro r nq hr K hK) | ((with_reducible apply wpList_fop fop_sub); exact rfl; exact rfl; intro r nq hr K hK) | ((with_reducible apply wpList_fop fop_quo); exact rfl; exact rfl; intro r nq hr K hK))
            go_ret
            exact ⟨rfl, below_drewN hbox.bel _⟩
          | some kk =>
            have hk := HK.out
            rw [hkk] at hk
            obtain ⟨rfl, rfl⟩ := restV_some_inj hk
            have hpos := rests_pos (W64_fl hne) hkk HNo.out
            have HKK := Lib.hid hkk
            clear hk hkk
            by_cases h1000 : kk < 1000
            · go_wp2_with (first | ((with_reducible apply wpList_fop fop_mul); exact rfl; exact rfl; intro r nq hr K hK) | ((with_reducible apply wpList_fop fop_add); exact rfl; exact rfl; intro r nq hr K hK) | ((with_reducible apply wpList_fop fop_sub); exact rfl; exact rfl; intro r nq hr K hK) | ((with_reducible apply wpList_fop fop_quo); exact rfl; exact rfl; intro r nq hr K hK) | (go_at_call 20; ((with_reducible refine (swingP_int _ _ _ _ HR.out kk _ (by omega) (by omega) _).mono ?_); rintro e w7 ⟨vc, cs, rfl, rowc, valc, hb7⟩; replace hbox := (hbox.below (below_drewN (Below.refl _ W6) _)).below hb7; clear hb7; have k0 := hbox.c0; have k1 := hbox.c1; have k2 := hbox.c2; have k3 := hbox.c3; have hlc := swing_len valc; obtain ⟨pc, cc, rfl⟩ := rowc.slice; rw [hlc] at rowc ⊢; obtain ⟨gc, rfl, kc⟩ := rowc.at (kk - 1) (by omega); have hxv := swing_last valc hpos; clear rowc valc; generalize cs.getD (kk - 1) 0 = xc at kc hxv; obtain ⟨q1, q2, hq1, hq2, hq3, hq4⟩ := rest_pack HR.out HKK.out hxv hne; clear hxv hlc)))
              have g0 : decide ((kk : Int) < 1) = false := by simp; omega
              have g1' : IntKind.i64.wrap ((kk : Int) - 1) = (kk : Int) - 1 := IntWalk.i64_in _ (by omega)
              have g2 : (0 : Int) ≤ (kk : Int) - 1 := by omega
              have g3 : ((kk : Int) - 1).toNat = kk - 1 := by omega
              have g4 : (kk : Int) - 1 < (kk : Int) := by omega
              go_quiet (fail)
              clear g0 g1' g2 g3 g4
              go_wp2_with fail
              go_ret
              exact ⟨rfl, below_drewN hbox.bel _⟩
            · go_wp2_with (first | ((with_reducible apply wpList_fop fop_mul); exact rfl; exact rfl; intro r nq hr K hK) | ((with_reducible apply wpList_fop fop_add); exact rfl; exact rfl; intro r nq hr K hK) | ((with_reducible apply wpList_fop fop_sub); exact rfl; exact rfl; intro r nq hr K hK) | ((with_reducible apply wpList_fop fop_quo); exact rfl; exact rfl; intro r nq hr K hK))
              go_ret
              exact ⟨rfl, below_drewN hbox.bel _⟩
          · have hz := rests_zero (W64_fl hne) HR.out hd1 hd2
            have hk := HK.out
            rw [hz] at hk
            obtain ⟨rfl, rfl⟩ := restV_some_inj hk
            clear hz hk
            go_wp2_with (first | ((with_reducible apply wpList_fop fop_mul); exact rfl; exact rfl; intro r nq hr K hK) | ((with_reducible apply wpList_fop fop_add); exact rfl; exact rfl; intro r nq hr K hK) | ((with_reducible apply wpList_fop fop_sub); exact rfl; exact rfl; intro r nq hr K hK) | ((with_reducible apply wpList_fop fop_quo); exact rfl; exact rfl; intro r nq hr K hK))
            go_ret
            exact ⟨rfl, below_drewN hbox.bel _⟩
end Go.Proofs.Ytkgicooplgmmpaa
