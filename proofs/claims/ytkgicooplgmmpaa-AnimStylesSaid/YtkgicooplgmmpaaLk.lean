/-
  The walks of a link and of the function that AnimChain makes of it.
-/
import Derived.Test.YtkgicooplgmmpaaLa
import Derived.OneCell
namespace Go.Proofs.Ytkgicooplgmmpaa
open Go.RowKit

abbrev lnk (t p : Nat) (nn : Bool) (way : Int) : Value := .agg #[.float .f64 t, .float .f64 p, .bool nn, .int .i64 way]
def linkF (t p : FL) (way : Int) (x : FL) : FL := if 0 ≤ way then easeR way x else fadd (fmul x t) p

/-- A call answers one float; it makes memory, and turns none. -/
def LRet (d : FL) (w : World) (e : Ending) (w' : World) : Prop := ∃ r, fl r = d ∧ e = .returned (.float .f64 r) ∧ Below w.heap.size w w'

set_option maxRecDepth 100000 in
set_option maxHeartbeats 1000000 in
theorem of_any (t p : Nat) (nn : Bool) (way : Int) (x : Nat) (w : World) : Calls Try.prog 24 #[lnk t p nn way, .float .f64 x] w (LRet (linkF (fl t) (fl p) way (fl x)) w) := by
  by_cases hw : 0 ≤ way
  · have hl : linkF (fl t) (fl p) way (fl x) = easeR way (fl x) := by unfold linkF; rw [if_pos hw]
    rw [hl]
    clear hl
    go_enter Try.func24, Try.ntmps24
    go_wp2_with (first | (go_at_call 14; ((with_reducible refine (easeR_any _ _ _).mono ?_); rintro e w' ⟨r, nq, hr, rfl, rfl⟩)))
    go_ret
    exact ⟨_, hr, rfl, below_drewN ((Below.refl _ w).alloc (Nat.le_refl _) _) _⟩
  · have hl : linkF (fl t) (fl p) way (fl x) = fadd (fmul (fl x) (fl t)) (fl p) := by unfold linkF; rw [if_neg hw]
    rw [hl]
    clear hl
    go_enter Try.func24, Try.ntmps24
    go_wp2_with (first | ((with_reducible apply wpList_fop fop_mul); exact rfl; exact rfl; intro r nq hr K hK) | ((with_reducible apply wpList_fop fop_add); exact rfl; exact rfl; intro r nq hr K hK) | ((with_reducible apply wpList_fop fop_sub); exact rfl; exact rfl; intro r nq hr K hK) | ((with_reducible apply wpList_fop fop_quo); exact rfl; exact rfl; intro r nq hr K hK))
    go_ret
    exact ⟨_, by simp [*], rfl, below_drewN ((Below.refl _ w).alloc (Nat.le_refl _) _) _⟩

/-- What the calls of a chain leave as it was: all that lay below S, but the count at block cb, which is c. -/
structure JC (w0 : World) (cb S : Nat) (c : Nat) (w : World) : Prop where
  cnt : w.heap[cb]? = some (.cells #[.int .i64 (wrap64 c)] 3 (0, 0))
  keep : ∀ b, b < S → b ≠ cb → w.heap[b]? = w0.heap[b]?
  size : S ≤ w.heap.size
  os : w.os = w0.os
  tape : w.tape = w0.tape
  output : w.output = w0.output
  lt : cb < S

theorem JC.drew {w0 : World} {cb S c : Nat} {w : World} (h : JC w0 cb S c w) : JC w0 cb S c w.drew := ⟨h.cnt, h.keep, h.size, h.os, h.tape, h.output, h.lt⟩
theorem JC.cell {w0 : World} {cb S c : Nat} {w : World} (h : JC w0 cb S c w) {b : Nat} (hb : b < S) (hn : b ≠ cb) (o : Nat) : w.cell? ⟨b, o, none⟩ = w0.cell? ⟨b, o, none⟩ := World.cell?_of_block (a := ⟨b, o, none⟩) (h.keep b hb hn)
theorem JC.count {w0 : World} {cb S c : Nat} {w : World} (h : JC w0 cb S c w) : w.cell? ⟨cb, 0, none⟩ = some (.int .i64 (wrap64 c)) ∧ w.frozen? ⟨cb, 0, none⟩ = false := by
  have := h.cnt
  exact ⟨by simp [World.cell?, this], by simp [World.frozen?, this]⟩
theorem wrap_succ (c : Nat) : wrap64 (wrap64 (c : Int) + 1) = wrap64 ((c + 1 : Nat) : Int) := by
  unfold wrap64
  omega
theorem JC.next {w0 : World} {cb S c : Nat} {w w1 : World} (h : JC w0 cb S c w) (hb : Below w.heap.size (w.setCell ⟨cb, 0, none⟩ (.int .i64 (wrap64 (wrap64 c + 1)))) w1) : JC w0 cb S (c + 1) w1 := by
  have hl := h.lt
  have hs := h.size
  have hs1 := hb.size
  rw [World.size_setCell] at hs1
  refine ⟨?_, ?_, by omega, by rw [hb.os]; exact h.os, by rw [hb.tape]; exact h.tape, by rw [hb.output]; exact h.output, hl⟩
  · rw [hb.block cb (by omega), ← wrap_succ]
    simp [World.setCell, Array.getElem?_modify, h.cnt]
  · intro b hbS hne
    rw [hb.block b (by omega), Below.heap_setCell _ _ _ _ hne]
    exact h.keep b hbS hne

set_option maxRecDepth 100000 in
set_option maxHeartbeats 1000000 in
theorem closure_any {w0 : World} {cb S : Nat} (xb : Nat) (hx : xb < S) (hne : xb ≠ cb) (t p : Nat) (nn : Bool) (way : Int)
    (c0 : w0.cell? ⟨xb, 0, none⟩ = some (.float .f64 t)) (c1 : w0.cell? ⟨xb, 1, none⟩ = some (.float .f64 p)) (c2 : w0.cell? ⟨xb, 2, none⟩ = some (.bool nn)) (c3 : w0.cell? ⟨xb, 3, none⟩ = some (.int .i64 way))
    (c x : Nat) (w : World) (hJ : JC w0 cb S c w) : Calls Try.prog 23 #[.float .f64 x, .pointer (some ⟨cb, 0, none⟩), .pointer (some ⟨xb, 0, none⟩)] w
      fun e w' => ∃ r, fl r = linkF (fl t) (fl p) way (fl x) ∧ e = .returned (.float .f64 r) ∧ JC w0 cb S (c + 1) w' := by
  obtain ⟨k0, k1⟩ := hJ.count
  have d0 := (hJ.cell hx hne 0).trans c0
  have d1 := (hJ.cell hx hne 1).trans c1
  have d2 := (hJ.cell hx hne 2).trans c2
  have d3 := (hJ.cell hx hne 3).trans c3
  have HJ := Lib.hid hJ
  have n1 : ¬ cb = xb := fun e => hne e.symm
  have n2 : ¬ xb = cb := hne
  clear c0 c1 c2 c3 hJ hne hx
  go_enter Try.func23, Try.ntmps23
  go_wp2_with (first | (go_at_call 24; ((with_reducible refine (of_any _ _ _ _ _ _).mono ?_); rintro e w1 ⟨r, hr, rfl, hb⟩)))
  go_ret
  exact ⟨_, hr, rfl, HJ.out.next (by simpa using hb)⟩
end Go.Proofs.Ytkgicooplgmmpaa
