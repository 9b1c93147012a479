/-
  The walks of both easings.
-/
import Derived.Test.YtkgicooplgmmpaaWa
namespace Go.Proofs.Ytkgicooplgmmpaa
open Go.RowKit
def easeP (way : Int) (t0 : FL) : FL :=
  let t := unitP t0
  let one := fl 4607182418800017408
  let two := fl 4611686018427387904
  if way == 1 then fmul t t
  else if way == 2 then fsub one (fmul (fsub one t) (fsub one t))
  else if way == 3 then (if flt t (fl 4602678819172646912) then fmul (fmul two t) t else fsub one (fmul (fmul two (fsub one t)) (fsub one t)))
  else if way == 4 then fmul (fmul t t) (fsub (fl 4613937818241073152) (fmul two t))
  else if way == 5 then
    let x := fmul (fl 4613374868287651840) t
    if flt x one then fmul x x
    else if flt x two then arcF x (fl 4609434218613702656) (fl 4604930618986332160)
    else if flt x (fl 4612811918334230528) then arcF x (fl 4612248968380809216) (fl 4606619468846596096)
    else arcF x (fl 4613093393310941184) (fl 4607041681311662080)
  else if way == 6 then ffloor t
  else t

def easeR (way : Int) (t0 : FL) : FL :=
  let t := unitR t0
  let one := fl 4607182418800017408
  let two := fl 4611686018427387904
  if way == 1 then fmul t t
  else if way == 2 then fsub one (fmul (fsub one t) (fsub one t))
  else if way == 3 then (if flt t (fl 4602678819172646912) then fmul (fmul two t) t else fsub one (fmul (fmul two (fsub one t)) (fsub one t)))
  else if way == 4 then fmul (fmul t t) (fsub (fl 4613937818241073152) (fmul two t))
  else if way == 5 then bounceR t
  else if way == 6 then (if flt t one then fl 0 else one)
  else t

theorem unitP_num (t : FL) : Num (unitP t) := by
  unfold unitP
  split
  · rename_i h
    exact num_fmin (num_fmax (num_of_feq h).1 (num_fl (by decide))) (num_fl (by decide))
  · exact num_fl (by decide)
theorem unitP_some (t : FL) : unitP t ≠ none := (unitP_num t).ne

set_option maxHeartbeats 1000000 in
theorem easeP_any (way : Int) (x : Nat) (w : World) : Calls Try.prog 13 #[.int .i64 way, .float .f64 x] w (FRet (easeP way (fl x)) w) := by
  have hu := Lib.hid (unitP_some (fl x))
  go_enter Try.func13, Try.ntmps13
  go_wp2_with (first | (go_at_call 33; ((with_reducible refine (unit_any _ _).mono ?_); rintro e w' ⟨r, nq, hr, rfl, rfl⟩)) | (go_at_call 34; ((with_reducible refine (square_any _ _).mono ?_); rintro e w' ⟨r, nq, hr, rfl, rfl⟩)) | (go_at_call 35; refine (floor_any _ (by rw [‹fl _ = unitP (fl x)›]; exact hu.out) _).mono ?_; rintro e w' ⟨r, nq, hr, rfl, rfl⟩) | ((with_reducible apply wpList_fop fop_mul); exact rfl; exact rfl; intro r nq hr K hK) | ((with_reducible apply wpList_fop fop_add); exact rfl; exact rfl; intro r nq hr K hK) | ((with_reducible apply wpList_fop fop_sub); exact rfl; exact rfl; intro r nq hr K hK) | ((with_reducible apply wpList_fop fop_quo); exact rfl; exact rfl; intro r nq hr K hK))
  all_goals
    go_ret
    first | refine FRet.same ?_ | refine FRet.drew ?_
    simp [easeP, arcF, *]

set_option maxHeartbeats 1000000 in
theorem easeR_any (way : Int) (x : Nat) (w : World) : Calls Try.prog 14 #[.int .i64 way, .float .f64 x] w (FRet (easeR way (fl x)) w) := by
  go_enter Try.func14, Try.ntmps14
  go_wp2_with (first | (go_at_call 36; ((with_reducible refine (unitR_any _ _).mono ?_); rintro e w' ⟨r, nq, hr, rfl, rfl⟩)) | (go_at_call 37; ((with_reducible refine (bounce_any _ _).mono ?_); rintro e w' ⟨r, nq, hr, rfl, rfl⟩)) | ((with_reducible apply wpList_fop fop_mul); exact rfl; exact rfl; intro r nq hr K hK) | ((with_reducible apply wpList_fop fop_add); exact rfl; exact rfl; intro r nq hr K hK) | ((with_reducible apply wpList_fop fop_sub); exact rfl; exact rfl; intro r nq hr K hK) | ((with_reducible apply wpList_fop fop_quo); exact rfl; exact rfl; intro r nq hr K hK))
  all_goals
    go_ret
    first | refine FRet.same ?_ | refine FRet.drew ?_
    simp [easeR, *]
end Go.Proofs.Ytkgicooplgmmpaa
