/-
  The walk of AnimEnds.
-/
import Derived.Test.YtkgicooplgmmpaaLa
import Derived.Test.YtkgicooplgmmpaaPe
namespace Go.Proofs.Ytkgicooplgmmpaa
open Go.RowKit

set_option maxRecDepth 100000 in
set_option maxHeartbeats 1000000 in
theorem lawEnds_any (way : Int) (t u : Nat) (ht : t < 18446744073709551616) (hu : u < 18446744073709551616) (w : World) : Calls Try.prog 8 #[.int .i64 way, .float .f64 t, .float .f64 u] w (BBool true w) := by
  have e0 := ends_0 way
  have e1 := ends_1 way
  have em := ends_m way
  have e7 := ends_7 way
  have T := Lib.hid ht
  have Uu := Lib.hid hu
  clear ht hu
  by_cases h4 : way = 4
  · subst h4
    go_enter Try.func8, Try.ntmps8
    go_wp2_with (first | (go_at_call 13; ((with_reducible refine (easeP_any _ _ _).mono ?_); rintro e w' ⟨r, nq, hr, rfl, rfl⟩)) | (go_at_call 15; ((with_reducible refine (alive_any _).mono ?_); rintro e wz ⟨rfl, hbz⟩)))
    go_ret
    exact ⟨rfl, below_drewN ((below_drewN (Below.refl _ w) _).trans hbz) _⟩
  obtain ⟨b1, b2, b3⟩ := between way h4 (W64_fl T.out)
  by_cases h5 : way = 5
  · subst h5
    have q4 : ((5 : Int) == 4) = false := by decide
    clear h4
    go_enter Try.func8, Try.ntmps8
    go_wp2_with (first | (go_at_call 13; ((with_reducible refine (easeP_any _ _ _).mono ?_); rintro e w' ⟨r, nq, hr, rfl, rfl⟩)) | (go_at_call 15; ((with_reducible refine (alive_any _).mono ?_); rintro e wz ⟨rfl, hbz⟩)))
    go_ret
    exact ⟨rfl, below_drewN ((below_drewN (Below.refl _ w) _).trans hbz) _⟩
  have q4 : (way == 4) = false := by simpa using h4
  have q4' : (way != 4) = true := by simpa using h4
  have q5 : (way == 5) = false := by simpa using h5
  cases nt : feq (fl t) (fl t)
  · clear h4 h5
    go_enter Try.func8, Try.ntmps8
    go_wp2_with (first | (go_at_call 13; ((with_reducible refine (easeP_any _ _ _).mono ?_); rintro e w' ⟨r, nq, hr, rfl, rfl⟩)) | (go_at_call 15; ((with_reducible refine (alive_any _).mono ?_); rintro e wz ⟨rfl, hbz⟩)))
    go_ret
    exact ⟨rfl, below_drewN ((below_drewN (Below.refl _ w) _).trans hbz) _⟩
  cases nu : feq (fl u) (fl u)
  · clear h4 h5
    go_enter Try.func8, Try.ntmps8
    go_wp2_with (first | (go_at_call 13; ((with_reducible refine (easeP_any _ _ _).mono ?_); rintro e w' ⟨r, nq, hr, rfl, rfl⟩)) | (go_at_call 15; ((with_reducible refine (alive_any _).mono ?_); rintro e wz ⟨rfl, hbz⟩)))
    go_ret
    exact ⟨rfl, below_drewN ((below_drewN (Below.refl _ w) _).trans hbz) _⟩
  have f1 := forth h4 h5 T.out Uu.out nt nu
  have f2 := forth h4 h5 Uu.out T.out nu nt
  cases g1 : fgt (fl t) (fl u)
  · have f1' := f1 g1
    clear f1
    cases g2 : fgt (fl u) (fl t)
    · have f2' := f2 g2
      clear f2 h4 h5
      go_enter Try.func8, Try.ntmps8
      go_wp2_with (first | (go_at_call 13; ((with_reducible refine (easeP_any _ _ _).mono ?_); rintro e w' ⟨r, nq, hr, rfl, rfl⟩)) | (go_at_call 15; ((with_reducible refine (alive_any _).mono ?_); rintro e wz ⟨rfl, hbz⟩)))
      go_ret
      exact ⟨rfl, below_drewN ((below_drewN (Below.refl _ w) _).trans hbz) _⟩
    · clear f2 h4 h5
      go_enter Try.func8, Try.ntmps8
      go_wp2_with (first | (go_at_call 13; ((with_reducible refine (easeP_any _ _ _).mono ?_); rintro e w' ⟨r, nq, hr, rfl, rfl⟩)) | (go_at_call 15; ((with_reducible refine (alive_any _).mono ?_); rintro e wz ⟨rfl, hbz⟩)))
      go_ret
      exact ⟨rfl, below_drewN ((below_drewN (Below.refl _ w) _).trans hbz) _⟩
  · clear f1
    cases g2 : fgt (fl u) (fl t)
    · have f2' := f2 g2
      clear f2 h4 h5
      go_enter Try.func8, Try.ntmps8
      go_wp2_with (first | (go_at_call 13; ((with_reducible refine (easeP_any _ _ _).mono ?_); rintro e w' ⟨r, nq, hr, rfl, rfl⟩)) | (go_at_call 15; ((with_reducible refine (alive_any _).mono ?_); rintro e wz ⟨rfl, hbz⟩)))
      go_ret
      exact ⟨rfl, below_drewN ((below_drewN (Below.refl _ w) _).trans hbz) _⟩
    · clear f2 h4 h5
      go_enter Try.func8, Try.ntmps8
      go_wp2_with (first | (go_at_call 13; ((with_reducible refine (easeP_any _ _ _).mono ?_); rintro e w' ⟨r, nq, hr, rfl, rfl⟩)) | (go_at_call 15; ((with_reducible refine (alive_any _).mono ?_); rintro e wz ⟨rfl, hbz⟩)))
      go_ret
      exact ⟨rfl, below_drewN ((below_drewN (Below.refl _ w) _).trans hbz) _⟩
end Go.Proofs.Ytkgicooplgmmpaa
