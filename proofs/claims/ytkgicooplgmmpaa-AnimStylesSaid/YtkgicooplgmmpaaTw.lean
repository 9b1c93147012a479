/-
  The walks of both Tweens.
-/
import Derived.Test.YtkgicooplgmmpaaRow
namespace Go.Proofs.Ytkgicooplgmmpaa
open Go.RowKit

def fi (n : Int) : FL := fl (floatOfInt .f64 n)
def tweenV (ease : FL → FL) (a b : FL) (n i : Nat) : FL := fadd a (fmul (fsub b a) (ease (fdiv (fi i) (fi n))))
def tweenL (ease : FL → FL) (a b : FL) (n : Nat) : List FL := (List.range n).map fun i => if i + 1 = n then b else tweenV ease a b n (i + 1)

def TwInv (ease : FL → FL) (a b : FL) (n g : Nat) (w : World) (k : Nat) (wr : World) : Prop :=
  ∃ bs : List Nat, bs.length = n ∧ FRow wr w.heap.size (.slice (some ⟨g, 0, none⟩) n n) bs ∧ (bs.take k).map fl = (List.range k).map (fun i => tweenV ease a b n (i + 1)) ∧ Below w.heap.size w wr

theorem TwInv.start {ease : FL → FL} {a b : FL} {n : Nat} {w w1 : World} (h : w1.ownsRow w.heap.size 22 1 (.slice (some ⟨w.heap.size, 0, none⟩) n n) n (madeCells (Value.float .f64 0).cells (n * 1)).toList) (hg : w.grownBy w1 none) :
    TwInv ease a b n w.heap.size w 0 w1 := by
  refine ⟨List.replicate n 0, by simp, ?_, by simp, (Below.refl _ w).grown hg (Nat.le_refl _) (by simp)⟩
  have e : (madeCells (Value.float .f64 0).cells (n * 1)).toList = fvs (List.replicate n 0) := by
    show (madeCells #[Value.float .f64 0] (n * 1)).toList = _
    rw [Nat.mul_one, toList_madeCells_one]; simp [fvs]
  rw [e] at h
  unfold FRow; simpa using h

theorem TwInv.step {ease : FL → FL} {a b : FL} {n k : Nat} {w wr : World} (h : TwInv ease a b n w.heap.size w k wr) (hk : k < n) {r : Nat} (hv : fl r = tweenV ease a b n (k + 1)) (m : Nat) :
    TwInv ease a b n w.heap.size w (k + 1) ((wr.drewN m).setCell ⟨w.heap.size, k, none⟩ (.float .f64 r)) := by
  obtain ⟨bs, hlen, hrow, hval, hbel⟩ := h
  refine ⟨bs.set k r, by simpa using hlen, (hrow.drewN m).set k r, ?_, (below_drewN hbel m).setCell (Nat.le_refl _) _⟩
  rw [take_set_snoc bs k r (by omega), List.map_append, hval, List.range_succ, List.map_append]
  simp [hv]

theorem TwInv.end0 {ease : FL → FL} {a b : FL} {w wr : World} {g : Nat} (h : TwInv ease a b 0 g w 0 wr) : ∃ bs, FRow wr w.heap.size (.slice (some ⟨g, 0, none⟩) 0 0) bs ∧ bs.map fl = tweenL ease a b 0 ∧ Below w.heap.size w wr := by
  obtain ⟨bs, hlen, hrow, hval, hbel⟩ := h
  exact ⟨bs, hrow, by rw [List.eq_nil_of_length_eq_zero hlen]; rfl, hbel⟩
theorem TwInv.end1 {ease : FL → FL} {a : FL} {b n : Nat} {w wr : World} (h : TwInv ease a (fl b) n w.heap.size w n wr) (hn : 0 < n) (m : Nat) (hm : m = n - 1) :
    ∃ bs, FRow (wr.setCell ⟨w.heap.size, m, none⟩ (.float .f64 b)) w.heap.size (.slice (some ⟨w.heap.size, 0, none⟩) n n) bs ∧ bs.map fl = tweenL ease a (fl b) n ∧ Below w.heap.size w (wr.setCell ⟨w.heap.size, m, none⟩ (.float .f64 b)) := by
  obtain ⟨bs, hlen, hrow, hval, hbel⟩ := h
  subst hm
  refine ⟨bs.set (n - 1) b, hrow.set _ b, ?_, hbel.setCell (Nat.le_refl _) _⟩
  rw [List.take_of_length_le (by omega)] at hval
  rw [List.map_set, hval]
  apply List.ext_getElem
  · simp [tweenL]
  · intro i h1 h2
    simp only [tweenL, List.getElem_set, List.getElem_map, List.getElem_range]
    simp at h1
    by_cases hi : n - 1 = i
    · rw [if_pos hi, if_pos (by omega)]
    · rw [if_neg hi, if_neg (by omega)]

set_option maxRecDepth 100000 in
set_option maxHeartbeats 1000000 in
theorem tweenP_ok (way : Int) (a b : Nat) (n : Nat) (hn : n ≤ 65536) (w : World) : Calls Try.prog 17 #[.int .i64 way, .float .f64 a, .float .f64 b, .int .i64 n] w
    fun e w' => ∃ v bs, e = .returned (.tuple #[v, .int .i64 0]) ∧ FRow w' w.heap.size v bs ∧ bs.map fl = tweenL (easeP way) (fl a) (fl b) n ∧ Below w.heap.size w w' := by
  obtain ⟨i0, hi, hz0, hz1, hz2⟩ := info_parts infoF
  go_enter Try.func17, Try.ntmps17
  go_wp2_with (first | (refine wpList_make_full _ rfl _ _ _ rfl w.heap.size 22 i0 (.float .f64 0) 1 Try.underlying26 hi hz0 hz1 .i64 .i64 _ _ n rfl rfl rfl rfl ?c1 ?c2 ?c3 ?k; (case c1 => rw [hz2]; omega); (case c2 => simp [maxLen]; omega); (case c3 => exact Nat.le_refl _); intro w1 hown1 hgrow1))
  have hst := TwInv.start (ease := easeP way) (a := fl a) (b := fl b) hown1 hgrow1
  clear hown1 hgrow1
  go_loopw [22] (fun c wr => ∃ k : Nat, k ≤ n ∧ c = .int .i64 k ∧ TwInv (easeP way) (fl a) (fl b) n w.heap.size w k wr) (fun c _ => n - (intOf c).toNat)
  case atStart => exact ⟨0, Nat.zero_le _, rfl, hst⟩
  case round =>
    obtain ⟨k, hk, rfl, hinv⟩ := hrel
    have hcell : ∀ i, i < n → ∃ v, wr.cell? ⟨w.heap.size, i, none⟩ = some v := by obtain ⟨bs, hlen, hrow, _⟩ := hinv; exact fun i h => ⟨_, hrow.cell hlen.symm i h⟩
    have hfr : ∀ i, wr.frozen? ⟨w.heap.size, i, none⟩ = false := by obtain ⟨bs, hlen, hrow, _⟩ := hinv; exact fun i => hrow.frozen i
    by_cases hkn : k < n
    · obtain ⟨v, hcell'⟩ := hcell k hkn
      have hfr' := hfr k
      clear hcell hfr hst
      go_wp2_with (first | (go_at_call 13; ((with_reducible refine (easeP_any _ _ _).mono ?_); rintro e w' ⟨r, nq, hr, rfl, rfl⟩)) | ((with_reducible apply wpList_fop fop_mul); exact rfl; exact rfl; intro r nq hr K hK) | ((with_reducible apply wpList_fop fop_add); exact rfl; exact rfl; intro r nq hr K hK) | ((with_reducible apply wpList_fop fop_sub); exact rfl; exact rfl; intro r nq hr K hK) | ((with_reducible apply wpList_fop fop_quo); exact rfl; exact rfl; intro r nq hr K hK))
      go_roundw
      case rel => exact ⟨k + 1, by omega, by go_num, hinv.step hkn (by simp [tweenV, fi, *]) _⟩
      case measure => simp [intOf]; omega
    · obtain rfl : k = n := by omega
      by_cases hn0 : 0 < k
      · obtain ⟨v, hcell'⟩ := hcell (k - 1) (by omega)
        have hfr' := hfr (k - 1)
        clear hcell hfr hst
        go_wp2_with fail
        go_ret2
        obtain ⟨bs, h1, h2, h3⟩ := hinv.end1 hn0 (k - 1) rfl
        exact ⟨_, bs, rfl, h1, h2, h3⟩
      · obtain rfl : k = 0 := by omega
        clear hcell hfr hst
        go_wp2_with fail
        go_ret2
        obtain ⟨bs, h1, h2, h3⟩ := hinv.end0
        exact ⟨_, bs, rfl, h1, h2, h3⟩

def TrInv (ease : FL → FL) (a b : FL) (n : Nat) (w : World) (j : Nat) (v : Value) (wr : World) : Prop :=
  ∃ bs : List Nat, bs.length = j ∧ FRow wr w.heap.size v bs ∧ bs.map fl = (List.range j).map (fun i => if i + 1 = n then b else tweenV ease a b n (i + 1)) ∧ Below w.heap.size w wr

theorem TrInv.step {ease : FL → FL} {a b : FL} {n j : Nat} {w wr w1 : World} {v v' : Value} {bs : List Nat} {r : Nat} {m : Nat} (hlen : bs.length = j)
    (hval : bs.map fl = (List.range j).map (fun i => if i + 1 = n then b else tweenV ease a b n (i + 1))) (hbel : Below w.heap.size w wr) (hrow : FRow wr w.heap.size v bs)
    (hr : fl r = if j + 1 = n then b else tweenV ease a b n (j + 1)) (h1 : FRow w1 w.heap.size v' (bs ++ [r])) (hg : ((wr.drewN m).alloc (.cells #[.float .f64 r] 22)).grownBy w1 v.ownBlock) :
    TrInv ease a b n w (j + 1) v' w1 := by
  refine ⟨bs ++ [r], by simp [hlen], h1, by rw [List.map_append, hval, List.range_succ, List.map_append]; simp [hr], ?_⟩
  exact (((below_drewN hbel m).alloc hbel.size _).grown hg (by simp; have := hbel.size; omega) fun k hk => (World.ownsRow.lt hrow k hk).1)

set_option maxRecDepth 100000 in
set_option maxHeartbeats 1000000 in
theorem tweenR_ok (way : Int) (a b : Nat) (n : Nat) (hn : n ≤ 65536) (w : World) : Calls Try.prog 16 #[.int .i64 way, .float .f64 a, .float .f64 b, .int .i64 n] w
    fun e w' => ∃ v bs, e = .returned (.tuple #[v, .int .i64 0]) ∧ FRow w' w.heap.size v bs ∧ bs.map fl = tweenL (easeR way) (fl a) (fl b) n ∧ Below w.heap.size w w' := by
  go_enter Try.func16, Try.ntmps16
  go_wp2_with fail
  go_loopw [10, 11] (fun v c wr => ∃ j : Nat, j ≤ n ∧ c = .int .i64 (j + 1) ∧ TrInv (easeR way) (fl a) (fl b) n w j v wr) (fun _ c _ => n + 1 - (intOf c).toNat)
  case atStart => exact ⟨0, Nat.zero_le _, rfl, [], rfl, FRow.nil _ _, rfl, Below.refl _ _⟩
  case round =>
    obtain ⟨j, hj, rfl, bs, hlen, hrow, hval, hbel⟩ := hrel
    have hlen' := Lib.hid hlen; have hval' := Lib.hid hval
    have hsz := hbel.size
    have hln : bs.length < 1000000000000 := by omega
    clear hlen hval
    by_cases hjn : j < n
    · by_cases hl : j + 1 = n
      all_goals
        go_wp2_with (first | (go_at_call 14; ((with_reducible refine (easeR_any _ _ _).mono ?_); rintro e w' ⟨r, nq, hr, rfl, rfl⟩)) | ((with_reducible apply wpList_fop fop_mul); exact rfl; exact rfl; intro r nq hr K hK) | ((with_reducible apply wpList_fop fop_add); exact rfl; exact rfl; intro r nq hr K hK) | ((with_reducible apply wpList_fop fop_sub); exact rfl; exact rfl; intro r nq hr K hK) | ((with_reducible apply wpList_fop fop_quo); exact rfl; exact rfl; intro r nq hr K hK) | ((with_reducible apply wpList_append_F (B := w.heap.size) (bs := bs)); exact rfl; exact rfl; exact rfl; exact hrow.drewN _; exact hsz; exact hln; intro v' w1 hrow1 hgr1 hpl1 K hK))
        go_roundw
        case rel => exact ⟨j + 1, by omega, by go_num, TrInv.step hlen'.out hval'.out hbel hrow (by simp [tweenV, fi, *]) hrow1 hgr1⟩
        case measure => simp [intOf]; omega
    · obtain rfl : j = n := by omega
      go_wp2_with fail
      go_ret2
      exact ⟨_, bs, rfl, hrow, hval'.out, hbel⟩

set_option maxRecDepth 100000 in
set_option maxHeartbeats 400000 in
theorem tweenP_no (way : Int) (a b : Nat) (n : Int) (hn : n < 0 ∨ 65536 < n) (w : World) : Calls Try.prog 17 #[.int .i64 way, .float .f64 a, .float .f64 b, .int .i64 n] w
    fun e w' => e = .returned (.tuple #[.slice none 0 0, .int .i64 2]) ∧ w' = w := by
  rcases hn with hn | hn
  all_goals
    go_enter Try.func17, Try.ntmps17
    go_wp2_with fail
    go_ret2
    exact ⟨rfl, rfl⟩
set_option maxRecDepth 100000 in
set_option maxHeartbeats 400000 in
theorem tweenR_no (way : Int) (a b : Nat) (n : Int) (hn : n < 0 ∨ 65536 < n) (w : World) : Calls Try.prog 16 #[.int .i64 way, .float .f64 a, .float .f64 b, .int .i64 n] w
    fun e w' => e = .returned (.tuple #[.slice none 0 0, .int .i64 2]) ∧ w' = w := by
  rcases hn with hn | hn
  all_goals
    go_enter Try.func16, Try.ntmps16
    go_wp2_with fail
    go_ret2
    exact ⟨rfl, rfl⟩
end Go.Proofs.Ytkgicooplgmmpaa
