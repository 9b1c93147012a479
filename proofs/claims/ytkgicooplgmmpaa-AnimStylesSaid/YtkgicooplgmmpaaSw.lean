/-
  The walks of both Swings and both Rests.
-/
import Derived.Test.YtkgicooplgmmpaaSp
namespace Go.Proofs.Ytkgicooplgmmpaa
open Go.RowKit

def off (c d A B : FL) : Nat → FL × FL
  | 0 => (A, B)
  | k + 1 => nextA c d (off c d A B k).1 (off c d A B k).2
def swingV (a b c d : FL) (i : Nat) : FL := fadd b (off c d (fsub a b) (fl 0) i).1
def swingL (a b c d : FL) (n : Nat) : List FL := (List.range n).map fun i => swingV a b c d (i + 1)

structure SrInv (a b c d : Nat) (w : World) (g j : Nat) (v : Value) (wr : World) (p q : Nat) (bs : List Nat) : Prop where
  len : bs.length = j
  row : FRow wr (g + 1) v bs
  val : bs.map fl = (List.range j).map fun i => swingV (fl a) (fl b) (fl c) (fl d) (i + 1)
  hp : fl p = (off (fl c) (fl d) (fsub (fl a) (fl b)) (fl 0) j).1
  hq : fl q = (off (fl c) (fl d) (fsub (fl a) (fl b)) (fl 0) j).2
  c0 : wr.cell? ⟨w.heap.size, 0, none⟩ = some (.float .f64 a)
  c1 : wr.cell? ⟨w.heap.size, 1, none⟩ = some (.float .f64 b)
  c2 : wr.cell? ⟨w.heap.size, 2, none⟩ = some (.float .f64 c)
  c3 : wr.cell? ⟨w.heap.size, 3, none⟩ = some (.float .f64 d)
  o0 : wr.cell? ⟨g, 0, none⟩ = some (.float .f64 p)
  o1 : wr.cell? ⟨g, 1, none⟩ = some (.float .f64 q)
  z0 : wr.frozen? ⟨g, 0, none⟩ = false
  z1 : wr.frozen? ⟨g, 1, none⟩ = false
  bel : Below w.heap.size w wr
  lt : w.heap.size < g
  sz : g < wr.heap.size

theorem grown_cell {w w' : World} {row : Option Nat} (hg : w.grownBy w' row) {b : Nat} (hb : b < w.heap.size) (hr : some b ≠ row) (o : Nat) :
    w'.cell? ⟨b, o, none⟩ = w.cell? ⟨b, o, none⟩ ∧ w'.frozen? ⟨b, o, none⟩ = w.frozen? ⟨b, o, none⟩ :=
  have h := hg.block b hb hr
  ⟨World.cell?_of_block (a := ⟨b, o, none⟩) h, World.frozen?_of_block (a := ⟨b, o, none⟩) h⟩

theorem SrInv.step {a b c d : Nat} {w wr w4 w5 : World} {g j p q p4 q4 r nq : Nat} {v v' : Value} {bs : List Nat} (h : SrInv a b c d w g j v wr p q bs) (hb4 : Below wr.heap.size wr w4)
    (hp4 : fl p4 = (nextA (fl c) (fl d) (fl p) (fl q)).1) (hq4 : fl q4 = (nextA (fl c) (fl d) (fl p) (fl q)).2) (hr : fl r = fadd (fl b) (fl p4)) (hrow : FRow w5 (g + 1) v' (bs ++ [r]))
    (hg : ((((w4.setCell ⟨g, 0, none⟩ (.float .f64 p4)).setCell ⟨g, 1, none⟩ (.float .f64 q4)).drewN nq).alloc (.cells #[.float .f64 r] 22)).grownBy w5 v.ownBlock) :
    SrInv a b c d w g (j + 1) v' w5 p4 q4 (bs ++ [r]) := by
  obtain ⟨len, row, val, hp, hq, c0, c1, c2, c3, o0, o1, z0, z1, bel, lt, sz⟩ := h
  have hs4 := hb4.size
  have hne : ∀ b' : Nat, b' ≤ g → some b' ≠ v.ownBlock := fun b' h e => by have := (World.ownsRow.lt row b' e.symm).1; omega
  obtain ⟨hc4, hf4⟩ := bcell hb4
  have hlt : w.heap.size < wr.heap.size := by omega
  have hn1 : ¬ g = w.heap.size := by omega
  have e1 := hp4
  have e2 := hq4
  rw [hp, hq] at e1 e2
  have K := fun (b' o : Nat) (hb : b' ≤ g) => grown_cell hg (b := b') (by simp; omega) (hne b' hb) o
  have hsz := hg.size
  simp at hsz
  refine ⟨by simp [len], hrow, ?_, e1, e2, ?_, ?_, ?_, ?_, ?_, ?_, ?_, ?_, ?_, lt, by omega⟩
  · rw [List.map_append, val, List.range_succ, List.map_append]
    simp [swingV, hr, e1, off]
  · rw [(K _ _ (Nat.le_of_lt lt)).1]; simp [World.cell?_alloc_lt, World.cell?_setCell_other, hc4, hlt, c0, Nat.lt_of_lt_of_le hlt hs4]
  · rw [(K _ _ (Nat.le_of_lt lt)).1]; simp [World.cell?_alloc_lt, World.cell?_setCell_other, hc4, hlt, c1, Nat.lt_of_lt_of_le hlt hs4]
  · rw [(K _ _ (Nat.le_of_lt lt)).1]; simp [World.cell?_alloc_lt, World.cell?_setCell_other, hc4, hlt, c2, Nat.lt_of_lt_of_le hlt hs4]
  · rw [(K _ _ (Nat.le_of_lt lt)).1]; simp [World.cell?_alloc_lt, World.cell?_setCell_other, hc4, hlt, c3, Nat.lt_of_lt_of_le hlt hs4]
  · rw [(K _ _ (Nat.le_refl _)).1]
    have : w4.cell? ⟨g, 0, none⟩ = some (.float .f64 p) := by rw [hc4 _ _ sz, o0]
    simp [World.cell?_alloc_lt, World.cell?_setCell_other, World.cell?_setCell_same _ _ _ this, Nat.lt_of_lt_of_le sz hs4]
  · rw [(K _ _ (Nat.le_refl _)).1]
    have : w4.cell? ⟨g, 1, none⟩ = some (.float .f64 q) := by rw [hc4 _ _ sz, o1]
    have h2 : (w4.setCell ⟨g, 0, none⟩ (.float .f64 p4)).cell? ⟨g, 1, none⟩ = some (.float .f64 q) := by rw [World.cell?_setCell_other _ _ _ _ (by simp), this]
    simp [World.cell?_alloc_lt, World.cell?_setCell_same _ _ _ h2, Nat.lt_of_lt_of_le sz hs4]
  · rw [(K _ _ (Nat.le_refl _)).2]; rw [World.frozen?_alloc_old _ _ _ (by simp; omega)]; simp [hf4, sz, z0]
  · rw [(K _ _ (Nat.le_refl _)).2]; rw [World.frozen?_alloc_old _ _ _ (by simp; omega)]; simp [hf4, sz, z1]
  · refine Below.grown (Below.alloc (below_drewN (Below.setCell (Below.setCell (bel.trans (hb4.mono (by omega))) ?_ _) ?_ _) nq) ?_ _) hg ?_ ?_
    · show w.heap.size ≤ g; omega
    · show w.heap.size ≤ g; omega
    · simp; omega
    · simp; omega
    · intro k hk; have := (World.ownsRow.lt row k hk).1; omega

set_option maxRecDepth 100000 in
set_option maxHeartbeats 1000000 in
theorem swingR_ok (a b c d : Nat) (hR : rightR (fl a) (fl b) (fl c) (fl d) = true) (n : Nat) (hn : n ≤ 65536) (w : World) : Calls Try.prog 19 #[spr a b c d, .int .i64 n] w
    fun e w' => ∃ v bs, e = .returned (.tuple #[v, .int .i64 0]) ∧ FRow w' w.heap.size v bs ∧ bs.map fl = swingL (fl a) (fl b) (fl c) (fl d) n ∧ Below w.heap.size w w' := by
  unfold spr
  go_enter Try.func19, Try.ntmps19
  go_wp2_with (first | (go_at_call 41; (with_reducible refine (right_any _ _ _ _ _).mono ?_); rw [hR]; rintro e w1 ⟨rfl, hb1⟩; obtain ⟨hc1, hf1⟩ := bcell hb1) | (go_at_call 42; (with_reducible refine (first_any _ _ _ _ _).mono ?_); rintro e w2 ⟨p, q, hp, hq, rfl, hb2⟩; obtain ⟨hc2, hf2⟩ := bcell hb2))
  have hs1 := hb1.size
  have hs2 := hb2.size
  simp only [World.size_alloc] at hs1 hs2
  have hst : SrInv a b c d w w2.heap.size 0 (.slice none 0 0) (w2.alloc (.cells #[.float .f64 p, .float .f64 q] 61)) p q [] := by
    have k0 : ∀ i : Nat, w2.cell? ⟨w.heap.size, i, none⟩ = (w.alloc (.cells #[.float .f64 a, .float .f64 b, .float .f64 c, .float .f64 d] 33)).cell? ⟨w.heap.size, i, none⟩ := fun i => by
      rw [hc2 _ _ (by omega), hc1 _ _ (by simp)]
    have k1 : ∀ (o : Obj) (i : Nat), (w2.alloc o).cell? ⟨w.heap.size, i, none⟩ = (w.alloc (.cells #[.float .f64 a, .float .f64 b, .float .f64 c, .float .f64 d] 33)).cell? ⟨w.heap.size, i, none⟩ := fun o i => by
      rw [World.cell?_alloc_lt w2 o ⟨w.heap.size, i, none⟩ (by show w.heap.size < w2.heap.size; omega), k0]
    exact ⟨rfl, FRow.nil _ _, rfl, hp, hq, by rw [k1]; simp, by rw [k1]; simp, by rw [k1]; simp, by rw [k1]; simp, by simp, by simp, by simp, by simp,
      (((Below.refl _ w).alloc (Nat.le_refl _) _).trans ((hb1.mono (by simp)).trans (hb2.mono (by omega)))).alloc (by omega) _, by omega, by simp⟩
  clear hc1 hc2 hf1 hf2 hb1 hb2 hs1 hs2
  generalize w2.heap.size = g at hst ⊢
  generalize w2.alloc (.cells #[.float .f64 p, .float .f64 q] 61) = w3 at hst ⊢
  go_loopw [7, 9] (fun v i wr => ∃ j : Nat, j ≤ n ∧ i = .int .i64 (j + 1) ∧ ∃ p q bs, SrInv a b c d w g j v wr p q bs) (fun _ i _ => n + 1 - (intOf i).toNat)
  case atStart => exact ⟨0, Nat.zero_le _, rfl, _, _, _, hst⟩
  case round =>
    clear hst
    obtain ⟨j, hj, rfl, p, q, bs, hI⟩ := hrel
    by_cases hjn : j < n
    · obtain ⟨len, row, val, hp1, hq1, c0, c1, c2, c3, o0, o1, z0, z1, bel, lt, sz⟩ := id hI
      have hln : bs.length < 1000000000000 := by omega
      have hwz : w.heap.size < wr.heap.size := by omega
      have hne : ¬ w.heap.size = g := by omega
      have hne2 : ¬ g = w.heap.size := by omega
      clear len val hp1 hq1 bel
      go_wp2_with (first | (go_at_call 43; (with_reducible refine (next_any _ _ _ _ _ _ _).mono ?_); rintro e w4 ⟨p4, q4, hp4, hq4, rfl, hb4⟩; obtain ⟨hc4, hf4⟩ := bcell hb4) | ((with_reducible apply wpList_fop fop_mul); exact rfl; exact rfl; intro r nq hr K hK) | ((with_reducible apply wpList_fop fop_add); exact rfl; exact rfl; intro r nq hr K hK) | ((with_reducible apply wpList_fop fop_sub); exact rfl; exact rfl; intro r nq hr K hK) | ((with_reducible apply wpList_fop fop_quo); exact rfl; exact rfl; intro r nq hr K hK) | ((with_reducible apply wpList_append_F (B := g + 1) (bs := bs)); exact rfl; exact rfl; simp; exact (((row.belowSize hb4).setLow (by simp) _).setLow (by simp) _).drewN _; (simp; have := hb4.size; omega); exact hln; intro v' w5 hrow5 hgr5 hpl5 K hK))
      go_roundw
      case rel => exact ⟨j + 1, by omega, by go_num, _, _, _, hI.step hb4 hp4 hq4 hr hrow5 hgr5⟩
      case measure => simp [intOf]; omega
    · obtain rfl : j = n := by omega
      go_wp2_with fail
      go_ret2
      exact ⟨_, bs, rfl, hI.row.base (by have := hI.lt; omega), hI.val, hI.bel⟩

structure SpInv (a b c d n : Nat) (w : World) (g k : Nat) (wr : World) (p q : Nat) (bs : List Nat) : Prop where
  len : bs.length = n
  row : FRow wr g (.slice (some ⟨g, 0, none⟩) n n) bs
  val : (bs.take k).map fl = (List.range k).map fun i => swingV (fl a) (fl b) (fl c) (fl d) (i + 1)
  hp : fl p = (off (fl c) (fl d) (fsub (fl a) (fl b)) (fl 0) k).1
  hq : fl q = (off (fl c) (fl d) (fsub (fl a) (fl b)) (fl 0) k).2
  c1 : wr.cell? ⟨w.heap.size, 1, none⟩ = some (.float .f64 b)
  bel : Below w.heap.size w wr
  lt : w.heap.size < g

theorem turn_next (c d A B : FL) : timesC A B (turnC c d).1 (turnC c d).2 = nextA c d A B := rfl

theorem SpInv.step {a b c d n : Nat} {w wr : World} {g k p q p4 q4 r m : Nat} {bs : List Nat} (h : SpInv a b c d n w g k wr p q bs) (hk : k < n)
    (hp4 : fl p4 = (nextA (fl c) (fl d) (fl p) (fl q)).1) (hq4 : fl q4 = (nextA (fl c) (fl d) (fl p) (fl q)).2) (hr : fl r = fadd (fl b) (fl p4)) :
    SpInv a b c d n w g (k + 1) ((wr.drewN m).setCell ⟨g, k, none⟩ (.float .f64 r)) p4 q4 (bs.set k r) := by
  obtain ⟨len, row, val, hp, hq, c1, bel, lt⟩ := h
  rw [hp, hq] at hp4 hq4
  refine ⟨by simpa using len, (row.drewN m).set k r, ?_, hp4, hq4, ?_, (below_drewN bel m).setCell (Nat.le_of_lt lt) _, lt⟩
  · rw [take_set_snoc bs k r (by omega), List.map_append, val, List.range_succ, List.map_append]
    simp [swingV, hr, hp4, off]
  · rw [World.cell?_setCell_other _ _ _ _ (by intro e; simp at e)]; exact c1

set_option maxRecDepth 100000 in
set_option maxHeartbeats 1000000 in
theorem swingP_ok (a b c d : Nat) (hR : rightP (fl a) (fl b) (fl c) (fl d) = true) (n : Nat) (hn : n ≤ 65536) (w : World) : Calls Try.prog 20 #[spr a b c d, .int .i64 n] w
    fun e w' => ∃ v bs, e = .returned (.tuple #[v, .int .i64 0]) ∧ FRow w' w.heap.size v bs ∧ bs.map fl = swingL (fl a) (fl b) (fl c) (fl d) n ∧ Below w.heap.size w w' := by
  obtain ⟨i0, hi, hz0, hz1, hz2⟩ := info_parts infoF
  go_enter Try.func20, Try.ntmps20
  go_wp2_with (first | (go_at_call 44; (with_reducible refine (turn_any _ _ _ _ _).mono ?_); rintro e w1 ⟨⟨tp, tq, he, ht0⟩, hb1⟩; rw [hR] at he ht0; subst he; obtain ⟨htp, htq⟩ := ht0 rfl; clear ht0; obtain ⟨hc1, hf1⟩ := bcell hb1) | ((with_reducible apply wpList_fop fop_mul); exact rfl; exact rfl; intro r nq hr K hK) | ((with_reducible apply wpList_fop fop_add); exact rfl; exact rfl; intro r nq hr K hK) | ((with_reducible apply wpList_fop fop_sub); exact rfl; exact rfl; intro r nq hr K hK) | ((with_reducible apply wpList_fop fop_quo); exact rfl; exact rfl; intro r nq hr K hK) | (refine wpList_make_full _ rfl _ _ _ rfl w1.heap.size 22 i0 (.float .f64 0) 1 Try.underlying26 hi hz0 hz1 .i64 .i64 _ _ n rfl rfl rfl rfl ?c1 ?c2 ?c3 ?k; (case c1 => rw [hz2]; omega); (case c2 => simp [maxLen]; omega); (case c3 => exact Nat.le_refl _); intro w2 hown2 hgrow2; have hc2 : ∀ b o, b < w1.heap.size → w2.cell? ⟨b, o, none⟩ = w1.cell? ⟨b, o, none⟩ := fun b o h => (grown_cell hgrow2 h (by simp) o).1; have hlt2 : w.heap.size < w1.heap.size := (by have := hb1.size; simp at this; omega)))
  have hst : SpInv a b c d n w w1.heap.size 0 (w2.drewN nq) r 0 (List.replicate n 0) := by
    refine ⟨by simp, ?_, by simp, hr, rfl, ?_, ?_, hlt2⟩
    · have e : (madeCells (Value.float .f64 0).cells (n * 1)).toList = fvs (List.replicate n 0) := by
        show (madeCells #[Value.float .f64 0] (n * 1)).toList = _
        rw [Nat.mul_one, toList_madeCells_one]; simp [fvs]
      rw [e] at hown2
      show FRow w2 _ _ _
      unfold FRow; simpa using hown2
    · show w2.cell? _ = _
      rw [hc2 _ _ hlt2, hc1 _ _ (by simp)]; simp
    · exact below_drewN ((((Below.refl _ w).alloc (Nat.le_refl _) _).trans (hb1.mono (by simp))).grown hgrow2 (Nat.le_of_lt hlt2) (by simp)) _
  clear hc1 hf1 hb1 hown2 hgrow2 hc2 hr hlt2
  generalize w1.heap.size = g at hst ⊢
  generalize w2.drewN nq = w3 at hst ⊢
  go_loopw [9, 36] (fun z i wr => ∃ k : Nat, k ≤ n ∧ i = .int .i64 k ∧ ∃ p q bs, z = .complex .f64 p q ∧ SpInv a b c d n w g k wr p q bs) (fun _ i _ => n - (intOf i).toNat)
  case atStart => exact ⟨0, Nat.zero_le _, rfl, _, _, _, rfl, hst⟩
  case round =>
    clear hst
    obtain ⟨k, hk, rfl, p, q, bs, rfl, hI⟩ := hrel
    by_cases hkn : k < n
    · obtain ⟨len, row, val, hp1, hq1, c1, bel, lt⟩ := id hI
      have hcell := row.cell len.symm k hkn
      have hfr := row.frozen k
      have hne : ¬ w.heap.size = g := by omega
      clear len row val hp1 hq1 bel
      have htp' := Lib.hid htp
      have htq' := Lib.hid htq
      clear htp htq
      go_wp2_with (first | (go_at_call 45; (with_reducible refine (times_any _ _ _ _ _).mono ?_); rintro e w4 ⟨p4, q4, n4, hp4, hq4, rfl, rfl⟩) | ((with_reducible apply wpList_fop fop_mul); exact rfl; exact rfl; intro r nq hr K hK) | ((with_reducible apply wpList_fop fop_add); exact rfl; exact rfl; intro r nq hr K hK) | ((with_reducible apply wpList_fop fop_sub); exact rfl; exact rfl; intro r nq hr K hK) | ((with_reducible apply wpList_fop fop_quo); exact rfl; exact rfl; intro r nq hr K hK))
      rw [htp'.out, htq'.out, turn_next] at hp4 hq4
      go_roundw
      case rel => exact ⟨k + 1, by omega, by go_num, _, _, _, rfl, hI.step hkn hp4 hq4 hr⟩
      case measure => simp [intOf]; omega
    · obtain rfl : k = n := by omega
      go_wp2_with fail
      go_ret2
      refine ⟨_, bs, rfl, hI.row.base (Nat.le_of_lt hI.lt), ?_, hI.bel⟩
      have hv := hI.val
      rw [List.take_of_length_le (by have := hI.len; omega)] at hv
      exact hv

set_option maxRecDepth 100000 in
set_option maxHeartbeats 1000000 in
theorem swingP_no (a b c d : Nat) (n : Int) (hn : rightP (fl a) (fl b) (fl c) (fl d) = false ∨ n < 0 ∨ 65536 < n) (w : World) : Calls Try.prog 20 #[spr a b c d, .int .i64 n] w
    fun e w' => e = .returned (.tuple #[.slice none 0 0, .int .i64 2]) ∧ Below w.heap.size w w' := by
  cases hR : rightP (fl a) (fl b) (fl c) (fl d)
  · have hR' := Lib.hid hR
    clear hR hn
    go_enter Try.func20, Try.ntmps20
    go_wp2_with (first | (go_at_call 44; (with_reducible refine (turn_any _ _ _ _ _).mono ?_); rintro e w1 ⟨⟨tp, tq, he, htq⟩, hb1⟩; rw [hR'.out] at he; subst he; obtain ⟨hc1, hf1⟩ := bcell hb1))
    go_ret2
    exact ⟨rfl, ((Below.refl _ w).alloc (Nat.le_refl _) _).trans (hb1.mono (by simp))⟩
  · have hR' := Lib.hid hR
    rw [hR] at hn
    have hn := hn.resolve_left (by simp)
    clear hR
    rcases hn with hn | hn
    all_goals
      go_enter Try.func20, Try.ntmps20
      go_wp2_with (first | (go_at_call 44; (with_reducible refine (turn_any _ _ _ _ _).mono ?_); rintro e w1 ⟨⟨tp, tq, he, htq⟩, hb1⟩; rw [hR'.out] at he; subst he; obtain ⟨hc1, hf1⟩ := bcell hb1))
      go_ret2
      exact ⟨rfl, ((Below.refl _ w).alloc (Nat.le_refl _) _).trans (hb1.mono (by simp))⟩

set_option maxRecDepth 100000 in
set_option maxHeartbeats 1000000 in
theorem swingR_no (a b c d : Nat) (n : Int) (hn : rightR (fl a) (fl b) (fl c) (fl d) = false ∨ n < 0 ∨ 65536 < n) (w : World) : Calls Try.prog 19 #[spr a b c d, .int .i64 n] w
    fun e w' => e = .returned (.tuple #[.slice none 0 0, .int .i64 2]) ∧ Below w.heap.size w w' := by
  by_cases hn0 : n < 0
  · cases hR : rightR (fl a) (fl b) (fl c) (fl d)
    all_goals
      have hR' := Lib.hid hR
      clear hR hn
      go_enter Try.func19, Try.ntmps19
      go_wp2_with (first | (go_at_call 41; (with_reducible refine (right_any _ _ _ _ _).mono ?_); rw [hR'.out]; rintro e w1 ⟨rfl, hb1⟩; obtain ⟨hc1, hf1⟩ := bcell hb1))
      go_ret2
      exact ⟨rfl, ((Below.refl _ w).alloc (Nat.le_refl _) _).trans (hb1.mono (by simp))⟩
  · by_cases hn1 : 65536 < n
    · cases hR : rightR (fl a) (fl b) (fl c) (fl d)
      all_goals
        have hR' := Lib.hid hR
        clear hR hn
        go_enter Try.func19, Try.ntmps19
        go_wp2_with (first | (go_at_call 41; (with_reducible refine (right_any _ _ _ _ _).mono ?_); rw [hR'.out]; rintro e w1 ⟨rfl, hb1⟩; obtain ⟨hc1, hf1⟩ := bcell hb1))
        go_ret2
        exact ⟨rfl, ((Below.refl _ w).alloc (Nat.le_refl _) _).trans (hb1.mono (by simp))⟩
    · have hR : rightR (fl a) (fl b) (fl c) (fl d) = false := by rcases hn with h | h | h <;> first | exact h | omega
      have hR' := Lib.hid hR
      clear hR hn
      go_enter Try.func19, Try.ntmps19
      go_wp2_with (first | (go_at_call 41; (with_reducible refine (right_any _ _ _ _ _).mono ?_); rw [hR'.out]; rintro e w1 ⟨rfl, hb1⟩; obtain ⟨hc1, hf1⟩ := bcell hb1))
      go_ret2
      exact ⟨rfl, ((Below.refl _ w).alloc (Nat.le_refl _) _).trans (hb1.mono (by simp))⟩
end Go.Proofs.Ytkgicooplgmmpaa
