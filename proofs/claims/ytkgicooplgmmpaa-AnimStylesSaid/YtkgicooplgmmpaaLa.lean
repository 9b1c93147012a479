/-
  The walks of the laws AnimEase, AnimTween, AnimSwing, AnimRests.
-/
import Derived.Test.YtkgicooplgmmpaaAp
namespace Go.Proofs.Ytkgicooplgmmpaa
open Go.RowKit

set_option maxHeartbeats 400000 in
theorem lawEase_any (way : Int) (t : Nat) (ht : t < 18446744073709551616) (w : World) : Calls Try.prog 3 #[.int .i64 way, .float .f64 t] w (BBool true w) := by
  have hl := Lib.hid (ease_law way (W64_fl ht))
  clear ht
  go_enter Try.func3, Try.ntmps3
  go_wp2_with (first | (go_at_call 13; ((with_reducible refine (easeP_any _ _ _).mono ?_); rintro e w' ⟨r1, n1, hr1, rfl, rfl⟩)) | (go_at_call 14; ((with_reducible refine (easeR_any _ _ _).mono ?_); rintro e w' ⟨r2, n2, hr2, rfl, rfl⟩; have hq : feq (fl r1) (fl r2) = true := (by rw [hr1, hr2]; exact hl.out); clear hr1 hr2)) | (go_at_call 15; ((with_reducible refine (alive_any _).mono ?_); rintro e wz ⟨rfl, hbz⟩)))
  go_ret
  exact ⟨rfl, (below_drewN (Below.refl _ w) _).trans hbz⟩

theorem restV_none : restV none = .tuple #[.int .i64 0, .bool false] := rfl
theorem restV_some (k : Nat) : restV (some k) = .tuple #[.int .i64 k, .bool true] := rfl

set_option maxRecDepth 100000 in
set_option maxHeartbeats 400000 in
theorem lawRests_any (a b c d near : Nat) (hn : near < 18446744073709551616) (w : World) : Calls Try.prog 6 #[spr a b c d, .float .f64 near] w (BBool true w) := by
  have hl := rests_eq (a := fl a) (b := fl b) (c := fl c) (d := fl d) (NN_fl a) (NN_fl b) (NN_fl c) (W64_fl hn)
  obtain ⟨kk, hkk⟩ : ∃ kk, kk = restsR (fl a) (fl b) (fl c) (fl d) (fl near) := ⟨_, rfl⟩
  have H1 := Lib.hid (hl.trans hkk.symm)
  have H2 := Lib.hid hkk.symm
  clear hl hkk hn
  cases kk with
  | none =>
    go_enter Try.func6, Try.ntmps6
    go_wp2_with (first | (go_at_call 21; ((with_reducible refine (restsR_any _ _ _ _ _ _).mono ?_); rw [H2.out, restV_none]; rintro e w1 ⟨rfl, hb1⟩; have hc1 := (bcell hb1).1)) | (go_at_call 22; ((with_reducible refine (restsP_any _ _ _ _ _ _).mono ?_); rw [H1.out, restV_none]; rintro e w2 ⟨rfl, hb2⟩)) | (go_at_call 15; ((with_reducible refine (alive_any _).mono ?_); rintro e wz ⟨rfl, hbz⟩)))
    go_ret
    have s1 := hb1.size
    have s2 := hb2.size
    simp at s1
    exact ⟨rfl, ((((Below.refl _ w).alloc (Nat.le_refl _) _).trans (hb1.mono (by simp))).trans (hb2.mono (by omega))).trans (hbz.mono (by omega))⟩
  | some k =>
    go_enter Try.func6, Try.ntmps6
    go_wp2_with (first | (go_at_call 21; ((with_reducible refine (restsR_any _ _ _ _ _ _).mono ?_); rw [H2.out, restV_some]; rintro e w1 ⟨rfl, hb1⟩; have hc1 := (bcell hb1).1)) | (go_at_call 22; ((with_reducible refine (restsP_any _ _ _ _ _ _).mono ?_); rw [H1.out, restV_some]; rintro e w2 ⟨rfl, hb2⟩)) | (go_at_call 15; ((with_reducible refine (alive_any _).mono ?_); rintro e wz ⟨rfl, hbz⟩)))
    go_ret
    have s1 := hb1.size
    have s2 := hb2.size
    simp at s1
    exact ⟨rfl, ((((Below.refl _ w).alloc (Nat.le_refl _) _).trans (hb1.mono (by simp))).trans (hb2.mono (by omega))).trans (hbz.mono (by omega))⟩

theorem map_same {us ws : List Nat} (h : us.map fl = ws.map fl) : us.length = ws.length ∧ ∀ i, i < us.length → sameE (fl (us.getD i 0)) (fl (ws.getD i 0)) = true := by
  have hl : us.length = ws.length := by have := congrArg List.length h; simpa using this
  refine ⟨hl, fun i hi => ?_⟩
  have e : fl (us.getD i 0) = fl (ws.getD i 0) := by
    have := congrArg (fun l => l[i]?) h
    simp only [List.getElem?_map] at this
    simp [hi, hl ▸ hi] at this
    simp [hi, hl ▸ hi, this]
  rw [e]; exact sameE_self (NN_fl _)
theorem apart_rows {w0 w1 w2 w3 : World} {vw va vb : Value} {ws us bs : List Nat} (row1 : FRow w1 w0.heap.size vw ws) (row2 : FRow w2 w1.heap.size va us) (row3 : FRow w3 w2.heap.size vb bs) (hb2 : Below w1.heap.size w1 w2) (hb3 : Below w2.heap.size w2 w3)
    (h1 : ws.map fl = us.map fl) (h2 : ws.map fl = bs.map fl) (hs : ws.length ≤ 100000) : Calls Try.prog 18 #[va, vb, vw] w3 fun e w' => e = .returned (.bool true) ∧ Below w1.heap.size w3 w' := by
  have m1 := map_same h1.symm
  have m2 := map_same h2.symm
  refine apart_any us bs ws va vb vw w3 w1.heap.size w2.heap.size w0.heap.size ⟨row2.belowSize hb3, row3, (row1.belowSize hb2).belowSize hb3, ?_, ?_, Below.refl _ _, Nat.le_trans hb2.size hb3.size⟩ m1.1 m1.2 m2.1 m2.2 (by have := m1.1; omega)
  · intro k hk e
    have := (World.ownsRow.lt row3 k hk).1
    have := (World.ownsRow.lt row2 k e).2
    omega
  · intro k hk e
    have := (World.ownsRow.lt row1 k hk).2
    have := (World.ownsRow.lt row2 k e).1
    omega
theorem apart_none (w : World) : Calls Try.prog 18 #[.slice none 0 0, .slice none 0 0, .slice none 0 0] w fun e w' => e = .returned (.bool true) ∧ Below w.heap.size w w' :=
  apart_any [] [] [] _ _ _ w w.heap.size w.heap.size w.heap.size ⟨FRow.nil _ _, FRow.nil _ _, FRow.nil _ _, by simp [Value.ownBlock], by simp [Value.ownBlock], Below.refl _ _, Nat.le_refl _⟩ rfl (fun _ h => absurd h (Nat.not_lt_zero _)) rfl (fun _ h => absurd h (Nat.not_lt_zero _)) (Nat.zero_le _)

set_option maxRecDepth 100000 in
set_option maxHeartbeats 1000000 in
theorem lawTween_any (way : Int) (a b : Nat) (n : Int) (w : World) : Calls Try.prog 4 #[.int .i64 way, .float .f64 a, .float .f64 b, .int .i64 n] w (BBool true w) := by
  by_cases hn : n < 0 ∨ 65536 < n
  · have hn' := Lib.hid hn
    clear hn
    go_enter Try.func4, Try.ntmps4
    go_wp2_with (first | (go_at_call 16; ((with_reducible refine (tweenR_no _ _ _ _ hn'.out _).mono ?_); rintro e w1 ⟨rfl, rfl⟩)) | (go_at_call 17; ((with_reducible refine (tweenP_no _ _ _ _ hn'.out _).mono ?_); rintro e w2 ⟨rfl, rfl⟩)) | (go_at_call 18; ((with_reducible refine (apart_none _).mono ?_); rintro e w3 ⟨rfl, hb3⟩)) | (go_at_call 15; ((with_reducible refine (alive_any _).mono ?_); rintro e wz ⟨rfl, hbz⟩)))
    go_ret
    exact ⟨rfl, hb3.trans (hbz.mono hb3.size)⟩
  · obtain ⟨m, rfl⟩ : ∃ m : Nat, n = m := ⟨n.toNat, by omega⟩
    have hm : m ≤ 65536 := by omega
    clear hn
    go_enter Try.func4, Try.ntmps4
    have tok : True := trivial
    go_wp2_with (first | (go_at_call 16; ((with_reducible refine (tweenR_ok _ _ _ _ hm _).mono ?_); rintro e w1 ⟨vw, ws, rfl, row1, val1, hb1⟩)) | (go_at_call 17; have _t := tok; ((with_reducible refine (tweenP_ok _ _ _ _ hm _).mono ?_); rintro e w2 ⟨va, us, rfl, row2, val2, hb2⟩); clear _t tok) | (go_at_call 17; ((with_reducible refine (tweenP_ok _ _ _ _ hm _).mono ?_); rintro e w3 ⟨vb, bs, rfl, row3, val3, hb3⟩); have V := Lib.hid (And.intro val1 (And.intro val2 val3)); clear val1 val2 val3) | (go_at_call 18; ((with_reducible refine (apart_rows row1 row2 row3 hb2 hb3 (V.out.1.trans ((tween_law way (fl a) (fl b) m).symm.trans V.out.2.1.symm)) (V.out.1.trans ((tween_law way (fl a) (fl b) m).symm.trans V.out.2.2.symm)) (by have := congrArg List.length V.out.1; simp [tweenL] at this; omega)).mono ?_); rintro e w4 ⟨rfl, hb4⟩)) | (go_at_call 15; ((with_reducible refine (alive_any _).mono ?_); rintro e wz ⟨rfl, hbz⟩)))
    go_ret
    have s1 := hb1.size
    have s2 := hb2.size
    have s3 := hb3.size
    exact ⟨rfl, (((hb1.trans (hb2.mono (by omega))).trans (hb3.mono (by omega))).trans (hb4.mono (by omega))).trans (hbz.mono (by have := hb4.size; omega))⟩

set_option maxRecDepth 100000 in
set_option maxHeartbeats 1000000 in
theorem lawSwing_any (a b c d : Nat) (n : Int) (w : World) : Calls Try.prog 5 #[spr a b c d, .int .i64 n] w (BBool true w) := by
  have hre := right_eq (a := fl a) (b := fl b) (c := fl c) (d := fl d) (NN_fl a) (NN_fl b) (NN_fl c)
  by_cases hn : rightR (fl a) (fl b) (fl c) (fl d) = false ∨ n < 0 ∨ 65536 < n
  · have hn' := Lib.hid hn
    have hp' : Hid (rightP (fl a) (fl b) (fl c) (fl d) = false ∨ n < 0 ∨ 65536 < n) := Lib.hid (by rw [hre]; exact hn)
    clear hn hre
    go_enter Try.func5, Try.ntmps5
    have tok : True := trivial
    go_wp2_with (first | (go_at_call 19; ((with_reducible refine (swingR_no _ _ _ _ _ hn'.out _).mono ?_); rintro e w1 ⟨rfl, hb1⟩; have hc1 := (bcell hb1).1; have lt1 : w.heap.size < w1.heap.size := (by have := hb1.size; simp at this; omega))) | (go_at_call 20; have _t := tok; ((with_reducible refine (swingP_no _ _ _ _ _ hp'.out _).mono ?_); rintro e w2 ⟨rfl, hb2⟩; have hc2 := (bcell hb2).1; have lt2 : w.heap.size < w2.heap.size := (by have := hb2.size; omega)); clear _t tok) | (go_at_call 20; ((with_reducible refine (swingP_no _ _ _ _ _ hp'.out _).mono ?_); rintro e w3 ⟨rfl, hb3⟩)) | (go_at_call 18; ((with_reducible refine (apart_none _).mono ?_); rintro e w4 ⟨rfl, hb4⟩)) | (go_at_call 15; ((with_reducible refine (alive_any _).mono ?_); rintro e wz ⟨rfl, hbz⟩)))
    go_ret
    have s2 := hb2.size
    have s3 := hb3.size
    have s4 := hb4.size
    have e1 := ((Below.refl _ w).alloc (Nat.le_refl _) (.cells #[.float .f64 a, .float .f64 b, .float .f64 c, .float .f64 d] 33)).trans (hb1.mono (by simp))
    exact ⟨rfl, (((e1.trans (hb2.mono (by omega))).trans (hb3.mono (by omega))).trans (hb4.mono (by omega))).trans (hbz.mono (by omega))⟩
  · have hR : rightR (fl a) (fl b) (fl c) (fl d) = true := by
      cases h : rightR (fl a) (fl b) (fl c) (fl d) with
      | true => rfl
      | false => exact absurd (.inl h) hn
    have hP := hre.trans hR
    obtain ⟨m, rfl⟩ : ∃ m : Nat, n = m := ⟨n.toNat, by have : ¬ n < 0 := fun h => hn (.inr (.inl h)); omega⟩
    have hm : m ≤ 65536 := by have : ¬ (65536 < (m : Int)) := fun h => hn (.inr (.inr h)); omega
    have HR := Lib.hid hR
    have HP := Lib.hid hP
    clear hn hre hR hP
    have tok : True := trivial
    go_enter Try.func5, Try.ntmps5
    go_wp2_with (first | (go_at_call 19; ((with_reducible refine (swingR_ok _ _ _ _ HR.out _ hm _).mono ?_); rintro e w1 ⟨vw, ws, rfl, row1, val1, hb1⟩; have hc1 := (bcell hb1).1; have lt1 : w.heap.size < w1.heap.size := (by have := hb1.size; simp at this; omega))) | (go_at_call 20; have _t := tok; ((with_reducible refine (swingP_ok _ _ _ _ HP.out _ hm _).mono ?_); rintro e w2 ⟨va, us, rfl, row2, val2, hb2⟩; have hc2 := (bcell hb2).1; have lt2 : w.heap.size < w2.heap.size := (by have := hb2.size; omega)); clear _t tok) | (go_at_call 20; ((with_reducible refine (swingP_ok _ _ _ _ HP.out _ hm _).mono ?_); rintro e w3 ⟨vb, bs, rfl, row3, val3, hb3⟩); have V := Lib.hid (And.intro val1 (And.intro val2 val3)); clear val1 val2 val3) | (go_at_call 18; ((with_reducible refine (apart_rows row1 row2 row3 hb2 hb3 (V.out.1.trans V.out.2.1.symm) (V.out.1.trans V.out.2.2.symm) (by have := congrArg List.length V.out.1; simp [swingL] at this; omega)).mono ?_); rintro e w4 ⟨rfl, hb4⟩)) | (go_at_call 15; ((with_reducible refine (alive_any _).mono ?_); rintro e wz ⟨rfl, hbz⟩)))
    go_ret
    have s2 := hb2.size
    have s3 := hb3.size
    have s4 := hb4.size
    have e1 := ((Below.refl _ w).alloc (Nat.le_refl _) (.cells #[.float .f64 a, .float .f64 b, .float .f64 c, .float .f64 d] 33)).trans (hb1.mono (by simp))
    exact ⟨rfl, (((e1.trans (hb2.mono (by omega))).trans (hb3.mono (by omega))).trans (hb4.mono (by omega))).trans (hbz.mono (by omega))⟩
end Go.Proofs.Ytkgicooplgmmpaa
