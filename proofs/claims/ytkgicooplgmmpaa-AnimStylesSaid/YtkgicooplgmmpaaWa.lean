/-
  The walks of the small functions on floats.
-/
import Derived.Test.YtkgicooplgmmpaaRows
import Derived.Test.YtkgicooplgmmpaaFl
namespace Go.Proofs.Ytkgicooplgmmpaa
open Go.RowKit

set_option maxHeartbeats 400000 in
theorem isNaN_any (x : Nat) (w : World) : Calls Try.prog 46 #[.float .f64 x] w fun e w' => e = .returned (.bool (!feq (fl x) (fl x))) ∧ w = w' := by
  go_enter Try.func46, Try.ntmps46
  go_wp2
  go_ret
  exact ⟨rfl, rfl⟩

set_option maxHeartbeats 400000 in
theorem square_any (x : Nat) (w : World) : Calls Try.prog 34 #[.float .f64 x] w (FRet (fmul (fl x) (fl x)) w) := by
  go_enter Try.func34, Try.ntmps34
  go_wp2_with (first | ((with_reducible apply wpList_fop fop_mul); exact rfl; exact rfl; intro r nq hr K hK) | ((with_reducible apply wpList_fop fop_add); exact rfl; exact rfl; intro r nq hr K hK) | ((with_reducible apply wpList_fop fop_sub); exact rfl; exact rfl; intro r nq hr K hK) | ((with_reducible apply wpList_fop fop_quo); exact rfl; exact rfl; intro r nq hr K hK))
  go_ret
  exact FRet.drew hr

def unitP (t : FL) : FL := if feq t t then fmin2 (fmax2 t (fl 0)) (fl 4607182418800017408) else fl 0
def unitR (t : FL) : FL := if (!feq t t) || flt t (fl 0) then fl 0 else if fgt t (fl 4607182418800017408) then fl 4607182418800017408 else t

set_option maxHeartbeats 400000 in
theorem unit_any (x : Nat) (w : World) : Calls Try.prog 33 #[.float .f64 x] w (FRet (unitP (fl x)) w) := by
  go_enter Try.func33, Try.ntmps33
  by_cases hx : feq (fl x) (fl x) = true
  all_goals
    go_wp2_with (first | (go_at_call 46; ((with_reducible refine (isNaN_any _ _).mono ?_); rintro e w' ⟨rfl, rfl⟩)) | ((with_reducible apply wpList_fmax); exact rfl; exact rfl; intro r n hr K hK) | ((with_reducible apply wpList_fmin); exact rfl; exact rfl; intro r2 n2 hr2 K hK))
    go_ret
    first | refine FRet.same ?_ | refine FRet.drew ?_
    simp [unitP, *]

set_option maxHeartbeats 400000 in
theorem unitR_any (x : Nat) (w : World) : Calls Try.prog 36 #[.float .f64 x] w (FRet (unitR (fl x)) w) := by
  go_enter Try.func36, Try.ntmps36
  go_wp2
  all_goals
    go_ret
    first | refine FRet.same ?_ | refine FRet.drew ?_
    simp [unitR, *]

set_option maxHeartbeats 400000 in
theorem finite_any (x : Nat) (w : World) : Calls Try.prog 57 #[.float .f64 x] w (FBool (feq (fsub (fl x) (fl x)) (fl 0)) w) := by
  go_enter Try.func57, Try.ntmps57
  go_wp2_with (first | ((with_reducible apply wpList_fop fop_mul); exact rfl; exact rfl; intro r nq hr K hK) | ((with_reducible apply wpList_fop fop_add); exact rfl; exact rfl; intro r nq hr K hK) | ((with_reducible apply wpList_fop fop_sub); exact rfl; exact rfl; intro r nq hr K hK) | ((with_reducible apply wpList_fop fop_quo); exact rfl; exact rfl; intro r nq hr K hK))
  go_ret
  exact FBool.drew (by rw [← hr])

def arcF (x m p : FL) : FL := fadd (fmul (fsub x m) (fsub x m)) p

set_option maxHeartbeats 400000 in
theorem arc_any (x m p : Nat) (w : World) : Calls Try.prog 56 #[.float .f64 x, .float .f64 m, .float .f64 p] w (FRet (arcF (fl x) (fl m) (fl p)) w) := by
  go_enter Try.func56, Try.ntmps56
  go_wp2_with (first | ((with_reducible apply wpList_fop fop_mul); exact rfl; exact rfl; intro r nq hr K hK) | ((with_reducible apply wpList_fop fop_add); exact rfl; exact rfl; intro r nq hr K hK) | ((with_reducible apply wpList_fop fop_sub); exact rfl; exact rfl; intro r nq hr K hK) | ((with_reducible apply wpList_fop fop_quo); exact rfl; exact rfl; intro r nq hr K hK))
  all_goals
    go_ret
    first | refine FRet.same ?_ | refine FRet.drew ?_
    simp [arcF, *]

def bounceR (t : FL) : FL :=
  let x := fmul (fl 4613374868287651840) t
  if flt x (fl 4607182418800017408) then fmul x x
  else if flt x (fl 4611686018427387904) then arcF x (fl 4609434218613702656) (fl 4604930618986332160)
  else if flt x (fl 4612811918334230528) then arcF x (fl 4612248968380809216) (fl 4606619468846596096)
  else arcF x (fl 4613093393310941184) (fl 4607041681311662080)

set_option maxHeartbeats 400000 in
theorem bounce_any (x : Nat) (w : World) : Calls Try.prog 37 #[.float .f64 x] w (FRet (bounceR (fl x)) w) := by
  go_enter Try.func37, Try.ntmps37
  go_wp2_with (first | (go_at_call 56; ((with_reducible refine (arc_any _ _ _ _).mono ?_); rintro e w' ⟨r, nq, hr, rfl, rfl⟩)) | ((with_reducible apply wpList_fop fop_mul); exact rfl; exact rfl; intro r nq hr K hK) | ((with_reducible apply wpList_fop fop_add); exact rfl; exact rfl; intro r nq hr K hK) | ((with_reducible apply wpList_fop fop_sub); exact rfl; exact rfl; intro r nq hr K hK) | ((with_reducible apply wpList_fop fop_quo); exact rfl; exact rfl; intro r nq hr K hK))
  all_goals
    go_ret
    first | refine FRet.same ?_ | refine FRet.drew ?_
    simp [bounceR, *]

/-- What Go's own 'archFloor' answers of a number. -/
theorem run_archFloor (x : Nat) (hx : (D.read x).isNaN = false) (w : World) : (callFunc 54 #[.float .f64 x]).run Try.prog w = .ok (.value (.float .f64 (D.write ((D.read x).integral .down)))) w := by
  rw [run_callFunc_extern Try.func54 (by kernel_rfl) (by kernel_rfl) (by kernel_rfl) (e := Extern.MathFloor.toIntegral "math.archFloor" .down) (by kernel_rfl)]
  have h1 : (Extern.MathFloor.toIntegral "math.archFloor" .down #[.float .f64 x]).run Try.prog w = .ok (.float .f64 (D.write ((D.read x).integral .down))) w := by
    have hd : ∃ A : Bool → Nat → Sem Value, Extern.MathFloor.toIntegral "math.archFloor" .down #[.float .f64 x] = (match D.read x with | .nan s t => A s t | d => pure (.float .f64 (FloatKind.f64.encode (d.integral .down)))) := ⟨_, rfl⟩
    obtain ⟨A, hd⟩ := hd
    rw [hd]
    cases h : D.read x with
    | nan s t => rw [h] at hx; simp [Ieee.Datum.isNaN] at hx
    | number s m e => rfl
    | infinity s => rfl
  rw [h1]; rfl

theorem ffloor_of {x : Nat} (hx : (D.read x).isNaN = false) : fl (D.write ((D.read x).integral .down)) = ffloor (fl x) := by
  rw [fl_some hx]
  refine fl_some (write_num D _ ?_)
  cases h : D.read x with
  | nan s t => rw [h] at hx; simp [Ieee.Datum.isNaN] at hx
  | number s m e => rfl
  | infinity s => rfl

set_option maxHeartbeats 400000 in
theorem floor_any (x : Nat) (hx : fl x ≠ none) (w : World) : Calls Try.prog 35 #[.float .f64 x] w (FRet (ffloor (fl x)) w) := by
  have hn : (D.read x).isNaN = false := by
    cases h : (D.read x).isNaN with
    | false => rfl
    | true => exact absurd (fl_none h) hx
  have h1 := run_archFloor x hn
  have h2 := Lib.hid (ffloor_of hn)
  clear hx hn
  go_enter Try.func35, Try.ntmps35
  go_wp2
  go_ret
  exact FRet.same h2.out

end Go.Proofs.Ytkgicooplgmmpaa
