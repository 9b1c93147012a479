/-
  The walks of the colours' functions and of both Mix.
-/
import Derived.Test.YtkgicooplgmmpaaMi
import Derived.Test.YtkgicooplgmmpaaWb
namespace Go.Proofs.Ytkgicooplgmmpaa
open Go.RowKit

def isFull (c : Int) : Bool := decide (16777216 ≤ c) && decide (c ≤ 33554431)
def isPal (c : Int) : Bool := decide (256 ≤ c) && decide (c ≤ 511)
def countC (c : Int) : Int := if c = 0 ∨ c = 1 ∨ (256 ≤ c ∧ c ≤ 511) ∨ (16777216 ≤ c ∧ c ≤ 33554431) then c else 0
/-- The channels of the palette's colour n. -/
def lev (k : Nat) : Nat := if k = 0 then 0 else 55 + 40 * k
def bitC (n m : Nat) : Nat := if n / m % 2 = 1 then (if 8 ≤ n then 255 else 170) else (if 8 ≤ n then 85 else 0)
def palC (n : Nat) : Nat × Nat × Nat :=
  if n < 16 then (bitC n 1, bitC n 2, bitC n 4) else if n < 232 then (lev ((n - 16) / 36), lev ((n - 16) / 6 % 6), lev ((n - 16) % 6)) else (8 + 10 * (n - 232), 8 + 10 * (n - 232), 8 + 10 * (n - 232))
def rgbC (c : Int) : Option (Nat × Nat × Nat) :=
  if 16777216 ≤ c ∧ c ≤ 33554431 then some ((c - 16777216).toNat / 65536, (c - 16777216).toNat / 256 % 256, (c - 16777216).toNat % 256)
  else if 256 ≤ c ∧ c ≤ 511 then some (palC (c - 256).toNat) else none

/-- A call answers one value; it makes memory, and turns none. -/
def VRet (v : Value) (w : World) (e : Ending) (w' : World) : Prop := e = .returned v ∧ w' = w
theorem VRet.bool {b b' : Bool} {w : World} (h : b = b') : VRet (.bool b') w (.returned (.bool b)) w := ⟨by rw [h], rfl⟩
theorem VRet.int {k : IntKind} {n n' : Int} {w : World} (h : n = n') : VRet (.int k n') w (.returned (.int k n)) w := ⟨by rw [h], rfl⟩

set_option maxHeartbeats 400000 in
theorem cright_any (c : Int) (w : World) : Calls Try.prog 71 #[.int .i32 c] w (VRet (.bool (decide (c = 0 ∨ c = 1 ∨ (256 ≤ c ∧ c ≤ 511) ∨ (16777216 ≤ c ∧ c ≤ 33554431)))) w) := by
  go_enter Try.func71, Try.ntmps71
  go_wp2
  all_goals
    go_ret
    refine VRet.bool ?_
    rw [Bool.eq_iff_iff]
    simp_all
    try omega

theorem countC_ok {c : Int} (h : c = 0 ∨ c = 1 ∨ (256 ≤ c ∧ c ≤ 511) ∨ (16777216 ≤ c ∧ c ≤ 33554431)) : countC c = c := by unfold countC; rw [if_pos h]
theorem countC_no {c : Int} (h : ¬ (c = 0 ∨ c = 1 ∨ (256 ≤ c ∧ c ≤ 511) ∨ (16777216 ≤ c ∧ c ≤ 33554431))) : countC c = 0 := by unfold countC; rw [if_neg h]
set_option maxHeartbeats 400000 in
theorem counted_any (c : Int) (w : World) : Calls Try.prog 62 #[.int .i32 c] w (VRet (.int .i32 (countC c)) w) := by
  by_cases h : c = 0 ∨ c = 1 ∨ (256 ≤ c ∧ c ≤ 511) ∨ (16777216 ≤ c ∧ c ≤ 33554431)
  · have e := countC_ok h
    have hr := cright_any c w
    rw [decide_eq_true h] at hr
    have HR := Lib.hid hr
    have E := Lib.hid e
    clear hr e h
    go_enter Try.func62, Try.ntmps62
    go_wp2_with (first | (go_at_call 71; ((with_reducible refine HR.out.mono ?_); rintro e w1 ⟨rfl, rfl⟩)))
    go_ret
    exact VRet.int E.out.symm
  · have e := countC_no h
    have hr := cright_any c w
    rw [decide_eq_false h] at hr
    have HR := Lib.hid hr
    have E := Lib.hid e
    clear hr e h
    go_enter Try.func62, Try.ntmps62
    go_wp2_with (first | (go_at_call 71; ((with_reducible refine HR.out.mono ?_); rintro e w1 ⟨rfl, rfl⟩)))
    go_ret
    exact VRet.int E.out.symm
set_option maxHeartbeats 400000 in
theorem level_any (k : Nat) (hk : k ≤ 5) (w : World) : Calls Try.prog 76 #[.int .i64 k] w (VRet (.int .u8 (lev k)) w) := by
  have hc : k = 0 ∨ k = 1 ∨ k = 2 ∨ k = 3 ∨ k = 4 ∨ k = 5 := by omega
  clear hk
  rcases hc with rfl | rfl | rfl | rfl | rfl | rfl
  all_goals
    go_enter Try.func76, Try.ntmps76
    go_wp2
    go_ret
    exact VRet.int rfl
abbrev arr3 (a b c : Int) : Value := .agg #[.int .u8 a, .int .u8 b, .int .u8 c]
def tri8 (p : Nat × Nat × Nat) : Value := arr3 p.1 p.2.1 p.2.2
/-- A call answers one value; it makes memory, and turns none. -/
def VBel (v : Value) (w : World) (e : Ending) (w' : World) : Prop := e = .returned v ∧ Below w.heap.size w w'
end Go.Proofs.Ytkgicooplgmmpaa
