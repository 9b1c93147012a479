/-
  The walk of utf.put.
-/
import Derived.Test.YtpnjlfnejjjncaaGreatDoorCa07
import Derived.Test.YtpnjlfnejjjncaaGreatDoorCa09
import Derived.LoopTactic
import Derived.Deep.DeepCutAuto
set_option linter.unusedVariables false
set_option linter.unusedSimpArgs false
namespace Go.Proofs.YtpnjlfnejjjncaaGreatDoor
open Go.RowKit

theorem elB : ElOK 23 5 1 1 (.int .u8 0) := ⟨Tryz.underlying23, by kernel_rfl, rfl, by decide, by decide⟩
def bv (l : List Nat) : List Value := l.map fun (r : Nat) => .int .u8 r
theorem bv_append (a b : List Nat) : bv (a ++ b) = bv a ++ bv b := List.map_append
theorem mask_63 (x : Nat) (h : x < 2147483648) : bits .and .i32 (x : Int) 63 = ((x % 64 : Nat) : Int) := (bits_mask .i32 31 (by decide) wraps_i32 6 (by decide) (x : Int) (by omega) (by simp; omega)).trans (by simp)
theorem or_128 (y : Nat) (h : y < 64) : bits .or .u8 128 (y : Int) = ((128 + y : Nat) : Int) := (u8_or128 (y : Int) (by omega) (by omega)).trans (by omega)
theorem or_192 : ∀ y : Fin 32, bits .or .u8 (y.val : Int) 192 = ((192 + y.val : Nat) : Int) := by decide +kernel
theorem or_224 : ∀ y : Fin 16, bits .or .u8 (y.val : Int) 224 = ((224 + y.val : Nat) : Int) := by decide +kernel
theorem or_240 : ∀ y : Fin 8, bits .or .u8 (y.val : Int) 240 = ((240 + y.val : Nat) : Int) := by decide +kernel
/-- What put leaves: the bytes behind the others. -/
def PutPost (B n : Nat) (v : Value) (xs : List Value) (ys : List Nat) (w : World) (e : Ending) (w' : World) : Prop :=
  ∃ v', e = .returned v' ∧ w'.ownsRow B 5 1 v' (n + ys.length) (xs ++ bv ys) ∧ Below B w w'
theorem put_end {B n : Nat} {v v' : Value} {xs : List Value} {ys : List Nat} {w w1 w' : World} (hrow : w.ownsRow B 5 1 v n xs) (hB : B ≤ w.heap.size) (hb : Below B w w1) (hr : w'.ownsRow B 5 1 v' (n + ys.length) (xs ++ bv ys)) (hg : w1.grownBy w' v.ownBlock) :
    PutPost B n v xs ys w (.returned v') w' :=
  ⟨v', rfl, hr, hb.grown hg (Nat.le_trans hB hb.size) fun k e => (World.ownsRow.lt hrow k e).1⟩
set_option maxRecDepth 100000 in
set_option maxHeartbeats 1000000 in
theorem put_1 (B n : Nat) (v : Value) (xs : List Value) (q : Nat) (hq : q < 128) (w : World) (hrow : w.ownsRow B 5 1 v n xs) (hB : B ≤ w.heap.size) (hlen : n < 100000000000) :
    Calls Tryz.prog 250 #[v, .int .i32 q] w (PutPost B n v xs [q] w) := by
  have HR := Lib.hid hrow
  clear hrow
  go_enter Tryz.func250, Tryz.ntmps250
  go_wp2_with ((with_reducible apply wpList_append_new elB (B := B) (n := n) (xs := xs) (nw := #[.int .u8 q])); exact rfl; exact rfl; exact rfl; exact HR.out; exact hB; omega; exact rfl; (intro u hu; simp at hu; subst hu; rfl); intro v' w3 hrow3 hgr3 hpl3 K hK)
  go_ret
  exact put_end (ys := [q]) HR.out hB ((Below.refl _ _).alloc hB _) hrow3 hgr3
theorem mask_63i (r : Int) (h0 : 0 ≤ r) (h : r < 2147483648) : bits .and .i32 r 63 = r % 64 := bits_mask .i32 31 (by decide) wraps_i32 6 (by decide) r h0 (by simpa using h)
theorem or_192i (y : Int) (h0 : 0 ≤ y) (h : y < 32) : bits .or .u8 y 192 = 192 + y := by
  obtain ⟨n, rfl⟩ := Int.eq_ofNat_of_zero_le h0
  exact (or_192 ⟨n, by omega⟩).trans (by simp)
theorem or_224i (y : Int) (h0 : 0 ≤ y) (h : y < 16) : bits .or .u8 y 224 = 224 + y := by
  obtain ⟨n, rfl⟩ := Int.eq_ofNat_of_zero_le h0
  exact (or_224 ⟨n, by omega⟩).trans (by simp)
theorem or_240i (y : Int) (h0 : 0 ≤ y) (h : y < 8) : bits .or .u8 y 240 = 240 + y := by
  obtain ⟨n, rfl⟩ := Int.eq_ofNat_of_zero_le h0
  exact (or_240 ⟨n, by omega⟩).trans (by simp)
theorem xor_192 : bits .xor .u8 IntKind.u8.max 63 = 192 := by decide +kernel
theorem xor_224 : bits .xor .u8 IntKind.u8.max 31 = 224 := by decide +kernel
theorem xor_240 : bits .xor .u8 IntKind.u8.max 15 = 240 := by decide +kernel
theorem xoi_192 : bits .xor .u8 (if IntKind.u8.signed = true then -1 else IntKind.u8.max) 63 = 192 := by decide +kernel
theorem xoi_224 : bits .xor .u8 (if IntKind.u8.signed = true then -1 else IntKind.u8.max) 31 = 224 := by decide +kernel
theorem xoi_240 : bits .xor .u8 (if IntKind.u8.signed = true then -1 else IntKind.u8.max) 15 = 240 := by decide +kernel
set_option maxRecDepth 100000 in
set_option maxHeartbeats 1000000 in
theorem put_2 (B n : Nat) (v : Value) (xs : List Value) (r : Int) (hq : 128 ≤ r) (hq' : r < 2048) (w : World) (hrow : w.ownsRow B 5 1 v n xs) (hB : B ≤ w.heap.size) (hlen : n < 100000000000) :
    Calls Tryz.prog 250 #[v, .int .i32 r] w (PutPost B n v xs [192 + r.toNat / 64, 128 + r.toNat % 64] w) := by
  have HR := Lib.hid hrow
  have HN := Lib.hid hlen
  clear hrow hlen
  obtain ⟨d0, hd0⟩ : ∃ d, d = r % 64 := ⟨_, rfl⟩
  obtain ⟨q1, hq1⟩ : ∃ d, d = r / 64 := ⟨_, rfl⟩
  obtain ⟨e0, he0⟩ : ∃ d, d = 128 + d0 := ⟨_, rfl⟩
  obtain ⟨e1, he1⟩ : ∃ d, d = 192 + q1 := ⟨_, rfl⟩
  have A0 : Hid (bits .and .i32 r 63 = d0) := Lib.hid (by rw [mask_63i r (by omega) (by omega), hd0])
  have O0 : Hid (bits .or .u8 128 d0 = e0) := Lib.hid (by rw [u8_or128 d0 (by omega) (by omega), he0])
  have D0 : Hid (r / 64 = q1) := Lib.hid hq1.symm
  have O1 : Hid (bits .or .u8 q1 192 = e1) := Lib.hid ((or_192i q1 (by omega) (by omega)).trans he1.symm)
  have bd0 : d0 < 64 := by omega
  have cd0 : 0 ≤ d0 := by omega
  have cq1 : 0 ≤ q1 := by omega
  have bq1 : q1 < 32 := by omega
  have be0 : e0 < 256 := by omega
  have ce0 : 0 ≤ e0 := by omega
  have be1 : e1 < 256 := by omega
  have ce1 : 0 ≤ e1 := by omega
  have HY : Hid (bv [192 + r.toNat / 64, 128 + r.toNat % 64] = [.int .u8 e1, .int .u8 e0]) := Lib.hid (by
    simp only [bv, List.map_cons, List.map_nil, List.cons.injEq, Value.int.injEq, true_and, and_true]; omega)
  clear hd0 hq1 he0 he1
  go_enter Tryz.func250, Tryz.ntmps250
  go_upto_region 19 with (fail)
  have f0 := A0.out
  have f1 := O0.out
  go_upto_region 20 with (fail)
  clear f0 f1
  have f2 := D0.out
  go_upto_region 21 with (fail)
  clear f2
  have f3 := O1.out
  have f4 := xor_192
  have f5 := xoi_192
  go_wp2_with ((with_reducible apply wpList_append_cells elB (B := B) (n := n) (xs := xs) (news := [.int .u8 e1, .int .u8 e0])); exact rfl; exact rfl; exact rfl; exact news_of_alloc _ _ _ 2 _ rfl; (intro u hu; simp at hu; rcases hu with rfl | rfl <;> rfl); exact HR.out.alloc _; (simp; omega); (have := HN.out; omega); decide; intro v' w3 hrow3 hgr3 hpl3 K hK)
  go_ret
  exact put_end (ys := [192 + r.toNat / 64, 128 + r.toNat % 64]) HR.out hB ((Below.refl _ _).alloc hB _) (by rw [HY.out]; exact hrow3) hgr3
set_option maxRecDepth 100000 in
set_option maxHeartbeats 1000000 in
theorem put_3 (B n : Nat) (v : Value) (xs : List Value) (r : Int) (hq : 2048 ≤ r) (hq' : r < 65536) (hsur : ¬ (55296 ≤ r ∧ r ≤ 57343)) (w : World) (hrow : w.ownsRow B 5 1 v n xs) (hB : B ≤ w.heap.size) (hlen : n < 100000000000) :
    Calls Tryz.prog 250 #[v, .int .i32 r] w (PutPost B n v xs [224 + r.toNat / 4096, 128 + r.toNat / 64 % 64, 128 + r.toNat % 64] w) := by
  have HR := Lib.hid hrow
  have HN := Lib.hid hlen
  clear hrow hlen
  obtain ⟨d0, hd0⟩ : ∃ d, d = r % 64 := ⟨_, rfl⟩
  obtain ⟨q1, hq1⟩ : ∃ d, d = r / 64 := ⟨_, rfl⟩
  obtain ⟨e0, he0⟩ : ∃ d, d = 128 + d0 := ⟨_, rfl⟩
  obtain ⟨d1, hd1⟩ : ∃ d, d = q1 % 64 := ⟨_, rfl⟩
  obtain ⟨q2, hq2⟩ : ∃ d, d = q1 / 64 := ⟨_, rfl⟩
  obtain ⟨e1, he1⟩ : ∃ d, d = 128 + d1 := ⟨_, rfl⟩
  obtain ⟨e2, he2⟩ : ∃ d, d = 224 + q2 := ⟨_, rfl⟩
  have A0 : Hid (bits .and .i32 r 63 = d0) := Lib.hid (by rw [mask_63i r (by omega) (by omega), hd0])
  have O0 : Hid (bits .or .u8 128 d0 = e0) := Lib.hid (by rw [u8_or128 d0 (by omega) (by omega), he0])
  have D0 : Hid (r / 64 = q1) := Lib.hid hq1.symm
  have A1 : Hid (bits .and .i32 q1 63 = d1) := Lib.hid (by rw [mask_63i q1 (by omega) (by omega), hd1])
  have O1 : Hid (bits .or .u8 128 d1 = e1) := Lib.hid (by rw [u8_or128 d1 (by omega) (by omega), he1])
  have D1 : Hid (q1 / 64 = q2) := Lib.hid hq2.symm
  have O2 : Hid (bits .or .u8 q2 224 = e2) := Lib.hid ((or_224i q2 (by omega) (by omega)).trans he2.symm)
  have bd0 : d0 < 64 := by omega
  have cd0 : 0 ≤ d0 := by omega
  have bd1 : d1 < 64 := by omega
  have cd1 : 0 ≤ d1 := by omega
  have cq1 : 0 ≤ q1 := by omega
  have bq1 : q1 < 2097152 := by omega
  have cq2 : 0 ≤ q2 := by omega
  have bq2 : q2 < 16 := by omega
  have be0 : e0 < 256 := by omega
  have ce0 : 0 ≤ e0 := by omega
  have be1 : e1 < 256 := by omega
  have ce1 : 0 ≤ e1 := by omega
  have be2 : e2 < 256 := by omega
  have ce2 : 0 ≤ e2 := by omega
  have HY : Hid (bv [224 + r.toNat / 4096, 128 + r.toNat / 64 % 64, 128 + r.toNat % 64] = [.int .u8 e2, .int .u8 e1, .int .u8 e0]) := Lib.hid (by
    simp only [bv, List.map_cons, List.map_nil, List.cons.injEq, Value.int.injEq, true_and, and_true]; omega)
  clear hd0 hd1 hq1 hq2 he0 he1 he2
  by_cases hs : 55296 ≤ r
  · have hs' : ¬ r ≤ 57343 := fun h => hsur ⟨hs, h⟩
    clear hsur
    go_enter Tryz.func250, Tryz.ntmps250
    go_upto_region 17 with (fail)
    have f0 := A0.out
    have f1 := O0.out
    go_upto_region 18 with (fail)
    clear f0 f1
    have f2 := D0.out
    go_upto_region 19 with (fail)
    clear f2
    have f0 := A1.out
    have f1 := O1.out
    go_upto_region 20 with (fail)
    clear f0 f1
    have f2 := D1.out
    go_upto_region 21 with (fail)
    clear f2
    have f3 := O2.out
    have f4 := xor_224
    have f5 := xoi_224
    go_wp2_with ((with_reducible apply wpList_append_cells elB (B := B) (n := n) (xs := xs) (news := [.int .u8 e2, .int .u8 e1, .int .u8 e0])); exact rfl; exact rfl; exact rfl; exact news_of_alloc _ _ _ 3 _ rfl; (intro u hu; simp at hu; rcases hu with rfl | rfl | rfl <;> rfl); exact HR.out.alloc _; (simp; omega); (have := HN.out; omega); decide; intro v' w3 hrow3 hgr3 hpl3 K hK)
    go_ret
    exact put_end (ys := [224 + r.toNat / 4096, 128 + r.toNat / 64 % 64, 128 + r.toNat % 64]) HR.out hB ((Below.refl _ _).alloc hB _) (by rw [HY.out]; exact hrow3) hgr3
  · clear hsur
    go_enter Tryz.func250, Tryz.ntmps250
    go_upto_region 17 with (fail)
    have f0 := A0.out
    have f1 := O0.out
    go_upto_region 18 with (fail)
    clear f0 f1
    have f2 := D0.out
    go_upto_region 19 with (fail)
    clear f2
    have f0 := A1.out
    have f1 := O1.out
    go_upto_region 20 with (fail)
    clear f0 f1
    have f2 := D1.out
    go_upto_region 21 with (fail)
    clear f2
    have f3 := O2.out
    have f4 := xor_224
    have f5 := xoi_224
    go_wp2_with ((with_reducible apply wpList_append_cells elB (B := B) (n := n) (xs := xs) (news := [.int .u8 e2, .int .u8 e1, .int .u8 e0])); exact rfl; exact rfl; exact rfl; exact news_of_alloc _ _ _ 3 _ rfl; (intro u hu; simp at hu; rcases hu with rfl | rfl | rfl <;> rfl); exact HR.out.alloc _; (simp; omega); (have := HN.out; omega); decide; intro v' w3 hrow3 hgr3 hpl3 K hK)
    go_ret
    exact put_end (ys := [224 + r.toNat / 4096, 128 + r.toNat / 64 % 64, 128 + r.toNat % 64]) HR.out hB ((Below.refl _ _).alloc hB _) (by rw [HY.out]; exact hrow3) hgr3
set_option maxRecDepth 100000 in
set_option maxHeartbeats 1000000 in
theorem put_4 (B n : Nat) (v : Value) (xs : List Value) (r : Int) (hq : 65536 ≤ r) (hq' : r < 1114112) (w : World) (hrow : w.ownsRow B 5 1 v n xs) (hB : B ≤ w.heap.size) (hlen : n < 100000000000) :
    Calls Tryz.prog 250 #[v, .int .i32 r] w (PutPost B n v xs [240 + r.toNat / 262144, 128 + r.toNat / 4096 % 64, 128 + r.toNat / 64 % 64, 128 + r.toNat % 64] w) := by
  have HR := Lib.hid hrow
  have HN := Lib.hid hlen
  clear hrow hlen
  obtain ⟨d0, hd0⟩ : ∃ d, d = r % 64 := ⟨_, rfl⟩
  obtain ⟨q1, hq1⟩ : ∃ d, d = r / 64 := ⟨_, rfl⟩
  obtain ⟨e0, he0⟩ : ∃ d, d = 128 + d0 := ⟨_, rfl⟩
  obtain ⟨d1, hd1⟩ : ∃ d, d = q1 % 64 := ⟨_, rfl⟩
  obtain ⟨q2, hq2⟩ : ∃ d, d = q1 / 64 := ⟨_, rfl⟩
  obtain ⟨e1, he1⟩ : ∃ d, d = 128 + d1 := ⟨_, rfl⟩
  obtain ⟨d2, hd2⟩ : ∃ d, d = q2 % 64 := ⟨_, rfl⟩
  obtain ⟨q3, hq3⟩ : ∃ d, d = q2 / 64 := ⟨_, rfl⟩
  obtain ⟨e2, he2⟩ : ∃ d, d = 128 + d2 := ⟨_, rfl⟩
  obtain ⟨e3, he3⟩ : ∃ d, d = 240 + q3 := ⟨_, rfl⟩
  have A0 : Hid (bits .and .i32 r 63 = d0) := Lib.hid (by rw [mask_63i r (by omega) (by omega), hd0])
  have O0 : Hid (bits .or .u8 128 d0 = e0) := Lib.hid (by rw [u8_or128 d0 (by omega) (by omega), he0])
  have D0 : Hid (r / 64 = q1) := Lib.hid hq1.symm
  have A1 : Hid (bits .and .i32 q1 63 = d1) := Lib.hid (by rw [mask_63i q1 (by omega) (by omega), hd1])
  have O1 : Hid (bits .or .u8 128 d1 = e1) := Lib.hid (by rw [u8_or128 d1 (by omega) (by omega), he1])
  have D1 : Hid (q1 / 64 = q2) := Lib.hid hq2.symm
  have A2 : Hid (bits .and .i32 q2 63 = d2) := Lib.hid (by rw [mask_63i q2 (by omega) (by omega), hd2])
  have O2 : Hid (bits .or .u8 128 d2 = e2) := Lib.hid (by rw [u8_or128 d2 (by omega) (by omega), he2])
  have D2 : Hid (q2 / 64 = q3) := Lib.hid hq3.symm
  have O3 : Hid (bits .or .u8 q3 240 = e3) := Lib.hid ((or_240i q3 (by omega) (by omega)).trans he3.symm)
  have bd0 : d0 < 64 := by omega
  have cd0 : 0 ≤ d0 := by omega
  have bd1 : d1 < 64 := by omega
  have cd1 : 0 ≤ d1 := by omega
  have bd2 : d2 < 64 := by omega
  have cd2 : 0 ≤ d2 := by omega
  have cq1 : 0 ≤ q1 := by omega
  have bq1 : q1 < 2097152 := by omega
  have cq2 : 0 ≤ q2 := by omega
  have bq2 : q2 < 2097152 := by omega
  have cq3 : 0 ≤ q3 := by omega
  have bq3 : q3 < 8 := by omega
  have be0 : e0 < 256 := by omega
  have ce0 : 0 ≤ e0 := by omega
  have be1 : e1 < 256 := by omega
  have ce1 : 0 ≤ e1 := by omega
  have be2 : e2 < 256 := by omega
  have ce2 : 0 ≤ e2 := by omega
  have be3 : e3 < 256 := by omega
  have ce3 : 0 ≤ e3 := by omega
  have HY : Hid (bv [240 + r.toNat / 262144, 128 + r.toNat / 4096 % 64, 128 + r.toNat / 64 % 64, 128 + r.toNat % 64] = [.int .u8 e3, .int .u8 e2, .int .u8 e1, .int .u8 e0]) := Lib.hid (by
    simp only [bv, List.map_cons, List.map_nil, List.cons.injEq, Value.int.injEq, true_and, and_true]; omega)
  clear hd0 hd1 hd2 hq1 hq2 hq3 he0 he1 he2 he3
  have hs : 55296 ≤ r := by omega
  have hs' : ¬ r ≤ 57343 := by omega
  go_enter Tryz.func250, Tryz.ntmps250
  go_upto_region 15 with (fail)
  have f0 := A0.out
  have f1 := O0.out
  go_upto_region 16 with (fail)
  clear f0 f1
  have f2 := D0.out
  go_upto_region 17 with (fail)
  clear f2
  have f0 := A1.out
  have f1 := O1.out
  go_upto_region 18 with (fail)
  clear f0 f1
  have f2 := D1.out
  go_upto_region 19 with (fail)
  clear f2
  have f0 := A2.out
  have f1 := O2.out
  go_upto_region 20 with (fail)
  clear f0 f1
  have f2 := D2.out
  go_upto_region 21 with (fail)
  clear f2
  have f3 := O3.out
  have f4 := xor_240
  have f5 := xoi_240
  go_wp2_with ((with_reducible apply wpList_append_cells elB (B := B) (n := n) (xs := xs) (news := [.int .u8 e3, .int .u8 e2, .int .u8 e1, .int .u8 e0])); exact rfl; exact rfl; exact rfl; exact news_of_alloc _ _ _ 4 _ rfl; (intro u hu; simp at hu; rcases hu with rfl | rfl | rfl | rfl <;> rfl); exact HR.out.alloc _; (simp; omega); (have := HN.out; omega); decide; intro v' w3 hrow3 hgr3 hpl3 K hK)
  go_ret
  exact put_end (ys := [240 + r.toNat / 262144, 128 + r.toNat / 4096 % 64, 128 + r.toNat / 64 % 64, 128 + r.toNat % 64]) HR.out hB ((Below.refl _ _).alloc hB _) (by rw [HY.out]; exact hrow3) hgr3
theorem bad_63 : bits .and .i32 65533 63 = 61 := by decide +kernel
theorem bad_61 : bits .or .u8 128 61 = 189 := by decide +kernel
theorem bad_1023 : bits .and .i32 1023 63 = 63 := by decide +kernel
theorem bad_191 : bits .or .u8 128 63 = 191 := by decide +kernel
theorem bad_239 : bits .or .u8 15 224 = 239 := by decide +kernel
set_option maxRecDepth 100000 in
set_option maxHeartbeats 1000000 in
theorem put_bad (B n : Nat) (v : Value) (xs : List Value) (r : Int) (hq : r < 0 ∨ (55296 ≤ r ∧ r ≤ 57343) ∨ 1114111 < r) (w : World) (hrow : w.ownsRow B 5 1 v n xs) (hB : B ≤ w.heap.size) (hlen : n < 100000000000) :
    Calls Tryz.prog 250 #[v, .int .i32 r] w (PutPost B n v xs [239, 191, 189] w) := by
  have HR := Lib.hid hrow
  have HN := Lib.hid hlen
  clear hrow hlen
  have a1 := bad_63
  have a2 := bad_61
  have a3 := bad_1023
  have a4 := bad_191
  have a5 := bad_239
  have A := Lib.hid (And.intro a1 (And.intro a2 (And.intro a3 (And.intro a4 a5))))
  clear a1 a2 a3 a4 a5
  rcases hq with hq | hq | hq
  · go_enter Tryz.func250, Tryz.ntmps250
    go_upto_region 17 with (fail)
    have a1 := A.out.1
    have a2 := A.out.2.1
    have a3 := A.out.2.2.1
    have a4 := A.out.2.2.2.1
    have a5 := A.out.2.2.2.2
    have a6 := xor_224
    go_wp2_with ((with_reducible apply wpList_append_cells elB (B := B) (n := n) (xs := xs) (news := [.int .u8 239, .int .u8 191, .int .u8 189])); exact rfl; exact rfl; exact rfl; exact news_of_alloc _ _ _ 3 _ rfl; (intro u hu; simp at hu; rcases hu with rfl | rfl | rfl <;> rfl); exact HR.out.alloc _; (simp; omega); (have := HN.out; omega); decide; intro v' w3 hrow3 hgr3 hpl3 K hK)
    go_ret
    exact put_end (ys := [239, 191, 189]) HR.out hB ((Below.refl _ _).alloc hB _) hrow3 hgr3
  · obtain ⟨hq, hq'⟩ := hq
    have hn0 : ¬ r < 0 := by omega
    go_enter Tryz.func250, Tryz.ntmps250
    go_upto_region 17 with (fail)
    have a1 := A.out.1
    have a2 := A.out.2.1
    have a3 := A.out.2.2.1
    have a4 := A.out.2.2.2.1
    have a5 := A.out.2.2.2.2
    have a6 := xor_224
    go_wp2_with ((with_reducible apply wpList_append_cells elB (B := B) (n := n) (xs := xs) (news := [.int .u8 239, .int .u8 191, .int .u8 189])); exact rfl; exact rfl; exact rfl; exact news_of_alloc _ _ _ 3 _ rfl; (intro u hu; simp at hu; rcases hu with rfl | rfl | rfl <;> rfl); exact HR.out.alloc _; (simp; omega); (have := HN.out; omega); decide; intro v' w3 hrow3 hgr3 hpl3 K hK)
    go_ret
    exact put_end (ys := [239, 191, 189]) HR.out hB ((Below.refl _ _).alloc hB _) hrow3 hgr3
  · have hn0 : ¬ r < 0 := by omega
    have hq1 : 55296 ≤ r := by omega
    have hq2 : ¬ r ≤ 57343 := by omega
    go_enter Tryz.func250, Tryz.ntmps250
    go_upto_region 17 with (fail)
    have a1 := A.out.1
    have a2 := A.out.2.1
    have a3 := A.out.2.2.1
    have a4 := A.out.2.2.2.1
    have a5 := A.out.2.2.2.2
    have a6 := xor_224
    go_wp2_with ((with_reducible apply wpList_append_cells elB (B := B) (n := n) (xs := xs) (news := [.int .u8 239, .int .u8 191, .int .u8 189])); exact rfl; exact rfl; exact rfl; exact news_of_alloc _ _ _ 3 _ rfl; (intro u hu; simp at hu; rcases hu with rfl | rfl | rfl <;> rfl); exact HR.out.alloc _; (simp; omega); (have := HN.out; omega); decide; intro v' w3 hrow3 hgr3 hpl3 K hK)
    go_ret
    exact put_end (ys := [239, 191, 189]) HR.out hB ((Below.refl _ _).alloc hB _) hrow3 hgr3
end Go.Proofs.YtpnjlfnejjjncaaGreatDoor
