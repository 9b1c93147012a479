/-
  The walks of the springs.
-/
import Derived.Test.YtkgicooplgmmpaaRow
namespace Go.Proofs.Ytkgicooplgmmpaa
open Go.RowKit

theorem run_f64bits (x : Nat) (w : World) : (callFunc 59 #[.float .f64 x]).run Try.prog w = .ok (.value (.int .u64 x)) w := by
  rw [run_callFunc_extern Try.func59 (by kernel_rfl) (by kernel_rfl) (by kernel_rfl) (e := Extern.MathFloatBits.float64bits) (by kernel_rfl)]; rfl
theorem run_f64from (n : Int) (w : World) : (callFunc 53 #[.int .u64 n]).run Try.prog w = .ok (.value (.float .f64 n.toNat)) w := by
  rw [run_callFunc_extern Try.func53 (by kernel_rfl) (by kernel_rfl) (by kernel_rfl) (e := Extern.MathFloatBits.float64frombits) (by kernel_rfl)]; rfl


set_option maxHeartbeats 400000 in
theorem abs_any (x : Nat) (w : World) : Calls Try.prog 47 #[.float .f64 x] w (FRet (fabs (fl x)) w) := by
  have h1 := run_f64bits
  have h2 := run_f64from
  go_enter Try.func47, Try.ntmps47
  go_wp2
  go_ret
  refine FRet.same ?_
  show fl (bits .andNot .u64 (x : Int) 9223372036854775808).toNat = _
  rw [abs_bits, fabs_fl]

set_option maxHeartbeats 400000 in
theorem isInf_any (x : Nat) (w : World) : Calls Try.prog 58 #[.float .f64 x, .int .i64 0] w (FBool (fgt (fabs (fl x)) (fl 9218868437227405311)) w) := by
  go_enter Try.func58, Try.ntmps58
  go_wp2_with (first | (go_at_call 47; ((with_reducible refine (abs_any _ _).mono ?_); rintro e w' ⟨r, nq, hr, rfl, rfl⟩)))
  go_ret
  exact FBool.drew (by rw [← hr])

/-- How the world of a call that boxes its arguments goes on. -/
theorem bcell {W w1 : World} (hb : Below W.heap.size W w1) : (∀ b o, b < W.heap.size → w1.cell? ⟨b, o, none⟩ = W.cell? ⟨b, o, none⟩) ∧ (∀ b o, b < W.heap.size → w1.frozen? ⟨b, o, none⟩ = W.frozen? ⟨b, o, none⟩) :=
  ⟨fun b o h => hb.cell (p := ⟨b, o, none⟩) h, fun b o h => hb.frozen (p := ⟨b, o, none⟩) h⟩

abbrev spr (a b c d : Nat) : Value := .agg #[.float .f64 a, .float .f64 b, .float .f64 c, .float .f64 d]

def finR (x : FL) : Bool := feq (fsub x x) (fl 0)
def rightR (a b c d : FL) : Bool := finR a && finR b && fge c (fl 13875379345695965184) && fle c (fl 4652007308841189376) && fge d (fl 0) && fle d (fl 4607182418800017408)

/-- A call answers this Bool; it makes memory, and turns none. -/
def BBool (b : Bool) (w : World) (e : Ending) (w' : World) : Prop := e = .returned (.bool b) ∧ Below w.heap.size w w'

set_option maxRecDepth 100000 in
set_option maxHeartbeats 1000000 in
theorem right_any (a b c d : Nat) (w : World) : Calls Try.prog 41 #[spr a b c d] w (BBool (rightR (fl a) (fl b) (fl c) (fl d)) w) := by
  unfold spr
  go_enter Try.func41, Try.ntmps41
  go_wp2_with (first | (go_at_call 57; ((with_reducible refine (finite_any _ _).mono ?_); rintro e w' ⟨nq, rfl, rfl⟩)))
  all_goals
    go_ret
    refine ⟨?_, ?_⟩
    · refine congrArg (fun b => Ending.returned (Value.bool b)) ?_
      simp [rightR, finR, *]
    · (repeat (first | exact Below.refl _ _ | assumption | refine below_drewN ?_ _ | refine Below.drew ?_ | (refine Below.alloc ?_ ?bs _; (case bs => first | omega | (simp; done) | (simp; omega))) | (refine Below.setCell ?_ ?bs _; (case bs => first | omega | (simp; done) | (simp; omega)))))

/-- A call answers a pair of floats; it makes memory, and turns none. -/
def ORet (A B : FL) (w : World) (e : Ending) (w' : World) : Prop := ∃ p q, fl p = A ∧ fl q = B ∧ e = .returned (.agg #[.float .f64 p, .float .f64 q]) ∧ Below w.heap.size w w'

set_option maxRecDepth 100000 in
set_option maxHeartbeats 1000000 in
theorem first_any (a b c d : Nat) (w : World) : Calls Try.prog 42 #[spr a b c d] w (ORet (fsub (fl a) (fl b)) (fl 0) w) := by
  unfold spr
  go_enter Try.func42, Try.ntmps42
  go_wp2_with (first | ((with_reducible apply wpList_fop fop_mul); exact rfl; exact rfl; intro r nq hr K hK) | ((with_reducible apply wpList_fop fop_add); exact rfl; exact rfl; intro r nq hr K hK) | ((with_reducible apply wpList_fop fop_sub); exact rfl; exact rfl; intro r nq hr K hK) | ((with_reducible apply wpList_fop fop_quo); exact rfl; exact rfl; intro r nq hr K hK))
  refine bodyPost_ret (v := .agg #[.float .f64 r, .float .f64 0]) ?_ rfl ⟨r, 0, hr, rfl, rfl, ?_⟩
  · simp [results, Try.results42, go_sem]
  · (repeat (first | exact Below.refl _ _ | assumption | refine below_drewN ?_ _ | refine Below.drew ?_ | (refine Below.alloc ?_ ?bs _; (case bs => first | omega | (simp; done) | (simp; omega))) | (refine Below.setCell ?_ ?bs _; (case bs => first | omega | (simp; done) | (simp; omega)))))

def nextA (c d : FL) (A B : FL) : FL × FL :=
  let tt := fmul c c
  let q := fadd (fl 4607182418800017408) tt
  let x := fmul d (fdiv (fsub (fl 4607182418800017408) tt) q)
  let y := fmul d (fdiv (fmul (fl 4611686018427387904) c) q)
  (fsub (fmul A x) (fmul B y), fadd (fmul A y) (fmul B x))

set_option maxRecDepth 100000 in
set_option maxHeartbeats 2000000 in
theorem next_any (a b c d p q : Nat) (w : World) : Calls Try.prog 43 #[spr a b c d, .agg #[.float .f64 p, .float .f64 q]] w (ORet (nextA (fl c) (fl d) (fl p) (fl q)).1 (nextA (fl c) (fl d) (fl p) (fl q)).2 w) := by
  unfold spr
  go_enter Try.func43, Try.ntmps43
  go_wp2_with (first | ((with_reducible apply wpList_fop fop_mul); exact rfl; exact rfl; intro r nq hr K hK) | ((with_reducible apply wpList_fop fop_add); exact rfl; exact rfl; intro r nq hr K hK) | ((with_reducible apply wpList_fop fop_sub); exact rfl; exact rfl; intro r nq hr K hK) | ((with_reducible apply wpList_fop fop_quo); exact rfl; exact rfl; intro r nq hr K hK))
  rename_i p1 _ hp1
  refine bodyPost_ret (v := .agg #[.float .f64 p1, .float .f64 r]) ?_ rfl ⟨p1, r, ?_, ?_, rfl, ?_⟩
  · simp [results, Try.results43, go_sem]
  · simp [nextA, *]
  · simp [nextA, *]
  · (repeat (first | exact Below.refl _ _ | assumption | refine below_drewN ?_ _ | refine Below.drew ?_ | (refine Below.alloc ?_ ?bs _; (case bs => first | omega | (simp; done) | (simp; omega))) | (refine Below.setCell ?_ ?bs _; (case bs => first | omega | (simp; done) | (simp; omega)))))

/-- A call answers a complex number; it makes draws alone. -/
def CRet (A B : FL) (w : World) (e : Ending) (w' : World) : Prop := ∃ p q n, fl p = A ∧ fl q = B ∧ e = .returned (.complex .f64 p q) ∧ w' = w.drewN n
def timesC (A B C E : FL) : FL × FL := (fsub (fmul A C) (fmul B E), fadd (fmul A E) (fmul B C))

set_option maxRecDepth 100000 in
set_option maxHeartbeats 1000000 in
theorem times_any (a b c d : Nat) (w : World) : Calls Try.prog 45 #[.complex .f64 a b, .complex .f64 c d] w (CRet (timesC (fl a) (fl b) (fl c) (fl d)).1 (timesC (fl a) (fl b) (fl c) (fl d)).2 w) := by
  go_enter Try.func45, Try.ntmps45
  go_wp2_with (first | ((with_reducible apply wpList_fop fop_mul); exact rfl; exact rfl; intro r nq hr K hK) | ((with_reducible apply wpList_fop fop_add); exact rfl; exact rfl; intro r nq hr K hK) | ((with_reducible apply wpList_fop fop_sub); exact rfl; exact rfl; intro r nq hr K hK) | ((with_reducible apply wpList_fop fop_quo); exact rfl; exact rfl; intro r nq hr K hK))
  go_ret
  refine ⟨_, _, _, ?_, ?_, rfl, rfl⟩
  · simp [timesC, *]
  · simp [timesC, *]

def finP (x : FL) : Bool := !(!feq x x || fgt (fabs x) (fl 9218868437227405311))
def rightP (a b c d : FL) : Bool := finP a && finP b && fle (fabs c) (fl 4652007308841189376) && fge d (fl 0) && fle d (fl 4607182418800017408)
def turnC (c d : FL) : FL × FL :=
  let tt := fmul c c
  let q := fadd (fl 4607182418800017408) tt
  (fmul d (fdiv (fsub (fl 4607182418800017408) tt) q), fmul d (fdiv (fmul (fl 4611686018427387904) c) q))

/-- What turn answers. -/
def TRet (a b c d : FL) (w : World) (e : Ending) (w' : World) : Prop :=
  (∃ p q, e = .returned (.tuple #[.complex .f64 p q, .bool (rightP a b c d)]) ∧ (rightP a b c d = true → fl p = (turnC c d).1 ∧ fl q = (turnC c d).2)) ∧ Below w.heap.size w w'

set_option maxRecDepth 100000 in
set_option maxHeartbeats 2000000 in
theorem turn_any (a b c d : Nat) (w : World) : Calls Try.prog 44 #[spr a b c d] w (TRet (fl a) (fl b) (fl c) (fl d) w) := by
  unfold spr
  go_enter Try.func44, Try.ntmps44
  have i0 : ∀ w, (Instr.index 73 (.agg #[.float .f64 a, .float .f64 b]) (.int .i64 0)).run Try.prog w = .ok (.float .f64 a) w := fun _ => by kernel_rfl
  have i1 : ∀ w, (Instr.index 73 (.agg #[.float .f64 a, .float .f64 b]) (.int .i64 1)).run Try.prog w = .ok (.float .f64 b) w := fun _ => by kernel_rfl
  go_wp2_with fail
  refine wp_loop_rounds 3 ?_
  repeat any_goals (rw [rounds_succ]; go_wp2_with (first | (go_at_call 46; ((with_reducible refine (isNaN_any _ _).mono ?_); rintro e w' ⟨rfl, rfl⟩)) | (go_at_call 58; ((with_reducible refine (isInf_any _ _).mono ?_); rintro e w' ⟨nq, rfl, rfl⟩)) | (go_at_call 47; ((with_reducible refine (abs_any _ _).mono ?_); rintro e w' ⟨r, nq, hr, rfl, rfl⟩)) | ((with_reducible apply wpList_fop fop_mul); exact rfl; exact rfl; intro r nq hr K hK) | ((with_reducible apply wpList_fop fop_add); exact rfl; exact rfl; intro r nq hr K hK) | ((with_reducible apply wpList_fop fop_sub); exact rfl; exact rfl; intro r nq hr K hK) | ((with_reducible apply wpList_fop fop_quo); exact rfl; exact rfl; intro r nq hr K hK)))
  all_goals clear i0 i1
  all_goals
    go_ret2
    refine ⟨?_, ?_⟩
    · go_tidy
      cases hb : rightP (fl a) (fl b) (fl c) (fl d)
      · first | exact ⟨0, 0, rfl, fun h => nomatch h⟩ | (exfalso; simp_all [rightP, finP]; done)
      · first | (exfalso; simp_all [rightP, finP]; done) | (refine ⟨_, _, rfl, fun _ => ⟨?_, ?_⟩⟩ <;> simp [turnC, *])
    · (repeat (first | exact Below.refl _ _ | assumption | refine below_drewN ?_ _ | refine Below.drew ?_ | (refine Below.alloc ?_ ?bs _; (case bs => first | omega | (simp; done) | (simp; omega))) | (refine Below.setCell ?_ ?bs _; (case bs => first | omega | (simp; done) | (simp; omega)))))
end Go.Proofs.Ytkgicooplgmmpaa
