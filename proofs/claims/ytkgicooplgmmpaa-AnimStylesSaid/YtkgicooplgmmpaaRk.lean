/-
  The walk of AnimRows.
-/
import Derived.Test.YtkgicooplgmmpaaEn
import Derived.Test.YtkgicooplgmmpaaPr
import Derived.Deep.DeepCutAuto
import Derived.Deep.QuietTactic
import Derived.BigQuiet
namespace Go.Proofs.Ytkgicooplgmmpaa
open Go.RowKit

set_option maxHeartbeats 400000 in
theorem alike_any (x y : Nat) (h : fl x = fl y) (w : World) : Calls Try.prog 27 #[.float .f64 x, .float .f64 y] w (FBool true w) := by
  have hs := Lib.hid (sameE_self (NN_fl y))
  have H := Lib.hid h
  cases h1 : feq (fl y) (fl y)
  · have h2 : feq (fl x) (fl x) = false := by rw [H.out]; exact h1
    have h3 : feq (fl x) (fl y) = false := by rw [H.out]; exact h1
    clear h
    go_enter Try.func27, Try.ntmps27
    go_wp2
    go_ret
    exact FBool.same rfl
  · have h3 : feq (fl x) (fl y) = true := by rw [H.out]; exact h1
    clear h
    go_enter Try.func27, Try.ntmps27
    go_wp2
    go_ret
    exact FBool.same rfl

theorem swingP_int (a b c d : Nat) (hR : rightP (fl a) (fl b) (fl c) (fl d) = true) (n : Nat) (k : Int) (hk : k = n) (hn : n ≤ 65536) (w : World) : Calls Try.prog 20 #[spr a b c d, .int .i64 k] w
    fun e w' => ∃ v bs, e = .returned (.tuple #[v, .int .i64 0]) ∧ FRow w' w.heap.size v bs ∧ bs.map fl = swingL (fl a) (fl b) (fl c) (fl d) n ∧ Below w.heap.size w w' := by
  subst hk; exact swingP_ok a b c d hR n hn w
theorem tweenP_int (way : Int) (a b : Nat) (n : Nat) (k : Int) (hk : k = n) (hn : n ≤ 65536) (w : World) : Calls Try.prog 17 #[.int .i64 way, .float .f64 a, .float .f64 b, .int .i64 k] w
    fun e w' => ∃ v bs, e = .returned (.tuple #[v, .int .i64 0]) ∧ FRow w' w.heap.size v bs ∧ bs.map fl = tweenL (easeP way) (fl a) (fl b) n ∧ Below w.heap.size w w' := by
  subst hk; exact tweenP_ok way a b n hn w
theorem tmod_neg (n : Int) (h : n < 0) : ∃ M : Nat, n.tmod 200 = -(M : Int) ∧ M ≤ 199 := by
  refine ⟨((-n) % 200).toNat, ?_, by omega⟩
  have h1 : n.tmod 200 = -((-n).tmod 200) := by rw [Int.neg_tmod, Int.neg_neg]
  rw [h1, Int.tmod_eq_emod_of_nonneg (by omega)]
  omega
theorem swingP_bad (a b c d : Nat) (hR : rightP (fl a) (fl b) (fl c) (fl d) = false) (n : Int) (w : World) : Calls Try.prog 20 #[spr a b c d, .int .i64 n] w
    fun e w' => e = .returned (.tuple #[.slice none 0 0, .int .i64 2]) ∧ Below w.heap.size w w' := swingP_no a b c d n (.inl hR) w


/-- What is behind the row of steps: nothing that was there has turned; the spring lies in a box. -/
structure RoBox (w : World) (a b c d : Nat) (g : Nat) (wr : World) : Prop where
  c0 : wr.cell? ⟨g, 0, none⟩ = some (.float .f64 a)
  c1 : wr.cell? ⟨g, 1, none⟩ = some (.float .f64 b)
  c2 : wr.cell? ⟨g, 2, none⟩ = some (.float .f64 c)
  c3 : wr.cell? ⟨g, 3, none⟩ = some (.float .f64 d)
  bel : Below w.heap.size w wr
  lo : w.heap.size ≤ g
  hi : g < wr.heap.size
theorem RoBox.below {w : World} {a b c d g : Nat} {wr w1 : World} (h : RoBox w a b c d g wr) (hb : Below wr.heap.size wr w1) : RoBox w a b c d g w1 :=
  ⟨by rw [(bcell hb).1 _ _ h.hi]; exact h.c0, by rw [(bcell hb).1 _ _ h.hi]; exact h.c1, by rw [(bcell hb).1 _ _ h.hi]; exact h.c2, by rw [(bcell hb).1 _ _ h.hi]; exact h.c3,
    h.bel.trans (hb.mono (by have := h.lo; have := h.hi; omega)), h.lo, by have := h.hi; have := hb.size; omega⟩
theorem RoBox.start (w : World) (a b c d : Nat) (t : TypeId) : RoBox w a b c d w.heap.size (w.alloc (.cells #[.float .f64 a, .float .f64 b, .float .f64 c, .float .f64 d] t)) :=
  ⟨by simp, by simp, by simp, by simp, (Below.refl _ _).alloc (Nat.le_refl _) _, Nat.le_refl _, by simp⟩

theorem FRow.at {w : World} {B n c : Nat} {p : Option Addr} {bs : List Nat} (h : FRow w B (.slice p n c) bs) (i : Nat) (hi : i < n) : ∃ g, p = some ⟨g, 0, none⟩ ∧ w.cell? ⟨g, i, none⟩ = some (.float .f64 (bs.getD i 0)) := by
  rcases h.2 with ⟨h1, h2⟩ | ⟨g, cap, cur, h1, _⟩
  · cases h1; omega
  · cases h1
    exact ⟨g, rfl, h.cell rfl i hi⟩
theorem swing_at {a b c d : FL} {n : Nat} {us : List Nat} (h : us.map fl = swingL a b c d n) {i : Nat} (hi : i < n) : fl (us.getD i 0) = swingV a b c d (i + 1) := by
  have hl : us.length = n := by have := congrArg List.length h; simpa [swingL] using this
  have h1 := congrArg (fun l => l[i]?) h
  simp only [List.getElem?_map, swingL] at h1
  have h2 : i < us.length := by omega
  simp [h2, List.getElem?_range hi] at h1
  simp only [List.getD_eq_getElem?_getD]
  simp [h2, h1]
theorem swing_same {a b c d : FL} {n m : Nat} {us bs : List Nat} (h : us.map fl = swingL a b c d n) (h' : bs.map fl = swingL a b c d m) {i : Nat} (hi : i < n) (hj : i < m) : fl (us.getD i 0) = fl (bs.getD i 0) := by
  rw [swing_at h hi, swing_at h' hj]
theorem swing_last {a b c d : FL} {n : Nat} {us : List Nat} (h : us.map fl = swingL a b c d n) (h0 : 0 < n) : fl (us.getD (n - 1) 0) = swingV a b c d n := by
  rw [swing_at h (by omega), show n - 1 + 1 = n from by omega]
theorem restV_none_inj {kv : Int} {okb : Bool} (h : restV none = .tuple #[.int .i64 kv, .bool okb]) : kv = 0 ∧ okb = false := by
  simp [restV] at h; exact ⟨h.1.symm, h.2⟩
theorem restV_some_inj {k : Nat} {kv : Int} {okb : Bool} (h : restV (some k) = .tuple #[.int .i64 kv, .bool okb]) : kv = k ∧ okb = true := by
  simp [restV] at h; exact ⟨h.1.symm, h.2⟩
theorem rest_pack {a b c d near k x : Nat} (hR : rightP (fl a) (fl b) (fl c) (fl d) = true) (hk : restsP (fl a) (fl b) (fl c) (fl d) (fl near) = some k) (hx : fl x = swingV (fl a) (fl b) (fl c) (fl d) k) (hn : near < 18446744073709551616) :
    ∃ r1 r2, (∀ w, (binOp .sub 22 (.float .f64 b) (.float .f64 near)).run Try.prog w = .ok (.float .f64 r1) w) ∧ (∀ w, (binOp .add 22 (.float .f64 b) (.float .f64 near)).run Try.prog w = .ok (.float .f64 r2) w) ∧ fge (fl x) (fl r1) = true ∧ fle (fl x) (fl r2) = true := by
  have hfin : finP (fl b) = true := by unfold rightP at hR; simp at hR; exact hR.1.1.1.2
  obtain ⟨eb, hb⟩ := fin_rg hfin
  have hr := rests_near hk
  have hnn : fl near = some near := by
    have := (fle_num hr).2
    rw [fl_eq] at this ⊢
    split
    · rfl
    · rename_i h; rw [if_neg h] at this; exact absurd rfl this
  have hW := W64_fl hn
  rw [hnn] at hr hW
  have hNN := (NN_off (fl c) (fl d) (fsub (fl a) (fl b)) (fl 0) (NN_sub _ _) (NN_fl 0) k).1
  obtain ⟨r1, r2, h1, h2, h3, h4⟩ := rest_value hb hW hNN hr
  have e1 : fl r1 = some r1 := (sub_num h1).1
  have e2 : fl r2 = some r2 := (add_num h2).1
  refine ⟨r1, r2, fun w => run_float_arith w .sub _ .f64 b near r1 h1, fun w => run_float_arith w .add _ .f64 b near r2 h2, ?_, ?_⟩
  · rw [hx, e1]; unfold swingV; rw [eb] at *; exact h3
  · rw [hx, e2]; unfold swingV; rw [eb] at *; exact h4
theorem swing_len {a b c d : FL} {n : Nat} {us : List Nat} (h : us.map fl = swingL a b c d n) : us.length = n := by
  have := congrArg List.length h; simpa [swingL] using this
theorem tween_last {e : FL → FL} {a b : FL} {n : Nat} {us : List Nat} (h : us.map fl = tweenL e a b n) (h0 : 0 < n) : fl (us.getD (n - 1) 0) = b := by
  have hl : us.length = n := by have := congrArg List.length h; simpa [tweenL] using this
  have h1 := congrArg (fun l => l[n - 1]?) h
  simp only [List.getElem?_map, tweenL] at h1
  have h2 : n - 1 < us.length := by omega
  simp [h2, List.getElem?_range (show n - 1 < n by omega)] at h1
  simp only [List.getD_eq_getElem?_getD]
  simp [h2, h1]
  omega
end Go.Proofs.Ytkgicooplgmmpaa
