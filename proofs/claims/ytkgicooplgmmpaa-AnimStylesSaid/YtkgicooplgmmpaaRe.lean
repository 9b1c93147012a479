/-
  The walks of both Rests.
-/
import Derived.Test.YtkgicooplgmmpaaSw
namespace Go.Proofs.Ytkgicooplgmmpaa
open Go.RowKit

/-- The first place from k on, of f places, that answers yes. -/
def restL (ok : Nat → Bool) : Nat → Nat → Option Nat
  | 0, _ => none
  | f + 1, k => if ok k then some k else restL ok f (k + 1)
def restV (o : Option Nat) : Value := match o with | some k => .tuple #[.int .i64 k, .bool true] | none => .tuple #[.int .i64 0, .bool false]

def okR (near A B : FL) : Bool := fge A (fneg near) && fle A near && fge B (fneg near) && fle B near
def okP (near A B : FL) : Bool := fle (fabs A) near && fle (fabs B) near
def offOk (ok : FL → FL → FL → Bool) (a b c d near : FL) (k : Nat) : Bool := ok near (off c d (fsub a b) (fl 0) k).1 (off c d (fsub a b) (fl 0) k).2
def restsR (a b c d near : FL) : Option Nat := if rightR a b c d && feq near near then restL (offOk okR a b c d near) 65537 0 else none
def restsP (a b c d near : FL) : Option Nat := if rightP a b c d && feq near near then restL (offOk okP a b c d near) 65537 0 else none

structure RpInv (a b c d near : Nat) (w : World) (k : Nat) (wr : World) (p q : Nat) : Prop where
  hp : fl p = (off (fl c) (fl d) (fsub (fl a) (fl b)) (fl 0) k).1
  hq : fl q = (off (fl c) (fl d) (fsub (fl a) (fl b)) (fl 0) k).2
  rest : restL (offOk okP (fl a) (fl b) (fl c) (fl d) (fl near)) 65537 0 = restL (offOk okP (fl a) (fl b) (fl c) (fl d) (fl near)) (65537 - k) k
  bel : Below w.heap.size w wr

theorem restL_no {ok : Nat → Bool} {k : Nat} (hk : k < 65537) (h : ok k = false) : restL ok (65537 - k) k = restL ok (65537 - (k + 1)) (k + 1) := by
  rw [show 65537 - k = (65537 - (k + 1)) + 1 from by omega, restL]; simp [h]
theorem restL_yes {ok : Nat → Bool} {k : Nat} (hk : k < 65537) (h : ok k = true) : restL ok (65537 - k) k = some k := by
  rw [show 65537 - k = (65537 - (k + 1)) + 1 from by omega, restL]; simp [h]

set_option maxRecDepth 100000 in
set_option maxHeartbeats 1000000 in
theorem restsP_any (a b c d near : Nat) (w : World) : Calls Try.prog 22 #[spr a b c d, .float .f64 near] w
    fun e w' => e = .returned (restV (restsP (fl a) (fl b) (fl c) (fl d) (fl near))) ∧ Below w.heap.size w w' := by
  cases hR : rightP (fl a) (fl b) (fl c) (fl d)
  · have hR' := Lib.hid hR
    have hz : restsP (fl a) (fl b) (fl c) (fl d) (fl near) = none := by simp [restsP, hR]
    have hz' := Lib.hid hz
    clear hR hz
    go_enter Try.func22, Try.ntmps22
    go_wp2_with (first | (go_at_call 44; (with_reducible refine (turn_any _ _ _ _ _).mono ?_); rintro e w1 ⟨⟨tp, tq, he, htq⟩, hb1⟩; rw [hR'.out] at he; subst he; obtain ⟨hc1, hf1⟩ := bcell hb1))
    go_ret2
    exact ⟨by rw [hz'.out]; rfl, ((Below.refl _ w).alloc (Nat.le_refl _) _).trans (hb1.mono (by simp))⟩
  · cases hN : feq (fl near) (fl near)
    · have hR' := Lib.hid hR
      have hz : restsP (fl a) (fl b) (fl c) (fl d) (fl near) = none := by simp [restsP, hN]
      have hz' := Lib.hid hz
      clear hR hz
      go_enter Try.func22, Try.ntmps22
      go_wp2_with (first | (go_at_call 44; (with_reducible refine (turn_any _ _ _ _ _).mono ?_); rintro e w1 ⟨⟨tp, tq, he, htq⟩, hb1⟩; rw [hR'.out] at he; subst he; obtain ⟨hc1, hf1⟩ := bcell hb1) | (go_at_call 46; ((with_reducible refine (isNaN_any _ _).mono ?_); rintro e w' ⟨rfl, rfl⟩)))
      go_ret2
      exact ⟨by rw [hz'.out]; rfl, ((Below.refl _ w).alloc (Nat.le_refl _) _).trans (hb1.mono (by simp))⟩
    · have hR' := Lib.hid hR
      have hz : restsP (fl a) (fl b) (fl c) (fl d) (fl near) = restL (offOk okP (fl a) (fl b) (fl c) (fl d) (fl near)) 65537 0 := by simp [restsP, hR, hN]
      have hz' := Lib.hid hz
      clear hR hz
      go_enter Try.func22, Try.ntmps22
      go_wp2_with (first | (go_at_call 44; (with_reducible refine (turn_any _ _ _ _ _).mono ?_); rintro e w1 ⟨⟨tp, tq, he, ht0⟩, hb1⟩; rw [hR'.out] at he ht0; subst he; obtain ⟨htp, htq⟩ := ht0 rfl; clear ht0; obtain ⟨hc1, hf1⟩ := bcell hb1) | (go_at_call 46; ((with_reducible refine (isNaN_any _ _).mono ?_); rintro e w' ⟨rfl, rfl⟩)) | ((with_reducible apply wpList_fop fop_mul); exact rfl; exact rfl; intro r nq hr K hK) | ((with_reducible apply wpList_fop fop_add); exact rfl; exact rfl; intro r nq hr K hK) | ((with_reducible apply wpList_fop fop_sub); exact rfl; exact rfl; intro r nq hr K hK) | ((with_reducible apply wpList_fop fop_quo); exact rfl; exact rfl; intro r nq hr K hK))
      have hst : RpInv a b c d near w 0 (w1.drewN nq) r 0 := ⟨hr, rfl, rfl, below_drewN (((Below.refl _ w).alloc (Nat.le_refl _) _).trans (hb1.mono (by simp))) _⟩
      have htp' := Lib.hid htp
      have htq' := Lib.hid htq
      clear hc1 hf1 hb1 hr htp htq
      generalize w1.drewN nq = w3 at hst ⊢
      go_loopw [8, 27] (fun z i wr => ∃ k : Nat, k ≤ 65537 ∧ i = .int .i64 k ∧ ∃ p q, z = .complex .f64 p q ∧ RpInv a b c d near w k wr p q) (fun _ i _ => 65537 - (intOf i).toNat)
      case atStart => exact ⟨0, Nat.zero_le _, rfl, _, _, rfl, hst⟩
      case round =>
        clear hst
        obtain ⟨k, hk, rfl, p, q, rfl, hI⟩ := hrel
        by_cases hkn0 : k < 65537
        · have hlt : (k : Int) < 65537 := by omega
          have hkn := Lib.hid hkn0
          have hk' := Lib.hid hk
          clear hk hkn0
          cases h1 : fle (fabs (fl p)) (fl near)
          · have hok : offOk okP (fl a) (fl b) (fl c) (fl d) (fl near) k = false := by rw [offOk, ← hI.hp, ← hI.hq]; simp [okP, h1]
            have hok' := Lib.hid hok
            clear hok
            go_wp2_with (first | (go_at_call 47; ((with_reducible refine (abs_any _ _).mono ?_); rintro e w' ⟨r, nq, hr, rfl, rfl⟩)) | (go_at_call 45; (with_reducible refine (times_any _ _ _ _ _).mono ?_); rintro e w4 ⟨p4, q4, n4, hp4, hq4, rfl, rfl⟩))
            rw [htp'.out, htq'.out, turn_next] at hp4 hq4
            go_roundw
            case rel =>
              rw [hI.hp, hI.hq] at hp4 hq4
              exact ⟨k + 1, Nat.succ_le_of_lt hkn.out, by go_num, _, _, rfl, hp4, hq4, hI.rest.trans (restL_no hkn.out hok'.out), below_drewN hI.bel _⟩
            case measure => simp [intOf]; omega
          · cases h2 : fle (fabs (fl q)) (fl near)
            · have hok : offOk okP (fl a) (fl b) (fl c) (fl d) (fl near) k = false := by rw [offOk, ← hI.hp, ← hI.hq]; simp [okP, h1, h2]
              have hok' := Lib.hid hok
              clear hok
              go_wp2_with (first | (go_at_call 47; ((with_reducible refine (abs_any _ _).mono ?_); rintro e w' ⟨r, nq, hr, rfl, rfl⟩)) | (go_at_call 45; (with_reducible refine (times_any _ _ _ _ _).mono ?_); rintro e w4 ⟨p4, q4, n4, hp4, hq4, rfl, rfl⟩))
              rw [htp'.out, htq'.out, turn_next] at hp4 hq4
              go_roundw
              case rel =>
                rw [hI.hp, hI.hq] at hp4 hq4
                exact ⟨k + 1, Nat.succ_le_of_lt hkn.out, by go_num, _, _, rfl, hp4, hq4, hI.rest.trans (restL_no hkn.out hok'.out), below_drewN hI.bel _⟩
              case measure => simp [intOf]; omega
            · have hok : offOk okP (fl a) (fl b) (fl c) (fl d) (fl near) k = true := by rw [offOk, ← hI.hp, ← hI.hq]; simp [okP, h1, h2]
              have hok' := Lib.hid hok
              clear hok
              go_wp2_with (first | (go_at_call 47; ((with_reducible refine (abs_any _ _).mono ?_); rintro e w' ⟨r, nq, hr, rfl, rfl⟩)))
              go_ret2
              exact ⟨by rw [hz'.out, hI.rest, restL_yes hkn.out hok'.out]; rfl, below_drewN hI.bel _⟩
        · obtain rfl : k = 65537 := by omega
          go_wp2_with fail
          go_ret2
          exact ⟨by rw [hz'.out, hI.rest]; rfl, hI.bel⟩

structure RrInv (a b c d near : Nat) (w : World) (g k : Nat) (wr : World) (p q : Nat) : Prop where
  hp : fl p = (off (fl c) (fl d) (fsub (fl a) (fl b)) (fl 0) k).1
  hq : fl q = (off (fl c) (fl d) (fsub (fl a) (fl b)) (fl 0) k).2
  rest : restL (offOk okR (fl a) (fl b) (fl c) (fl d) (fl near)) 65537 0 = restL (offOk okR (fl a) (fl b) (fl c) (fl d) (fl near)) (65537 - k) k
  c0 : wr.cell? ⟨w.heap.size, 0, none⟩ = some (.float .f64 a)
  c1 : wr.cell? ⟨w.heap.size, 1, none⟩ = some (.float .f64 b)
  c2 : wr.cell? ⟨w.heap.size, 2, none⟩ = some (.float .f64 c)
  c3 : wr.cell? ⟨w.heap.size, 3, none⟩ = some (.float .f64 d)
  o0 : wr.cell? ⟨g, 0, none⟩ = some (.float .f64 p)
  o1 : wr.cell? ⟨g, 1, none⟩ = some (.float .f64 q)
  z0 : wr.frozen? ⟨g, 0, none⟩ = false
  z1 : wr.frozen? ⟨g, 1, none⟩ = false
  bel : Below w.heap.size w wr
  lt : w.heap.size < g
  sz : g < wr.heap.size

theorem RrInv.step {a b c d near : Nat} {w wr w4 : World} {g k p q p4 q4 : Nat} (h : RrInv a b c d near w g k wr p q) (hb4 : Below wr.heap.size wr w4)
    (hp4 : fl p4 = (nextA (fl c) (fl d) (fl p) (fl q)).1) (hq4 : fl q4 = (nextA (fl c) (fl d) (fl p) (fl q)).2) (hk : k < 65537) (hok : offOk okR (fl a) (fl b) (fl c) (fl d) (fl near) k = false) :
    RrInv a b c d near w g (k + 1) ((w4.setCell ⟨g, 0, none⟩ (.float .f64 p4)).setCell ⟨g, 1, none⟩ (.float .f64 q4)) p4 q4 := by
  obtain ⟨hp, hq, rest, c0, c1, c2, c3, o0, o1, z0, z1, bel, lt, sz⟩ := h
  have hs4 := hb4.size
  obtain ⟨hc4, hf4⟩ := bcell hb4
  have hlt : w.heap.size < wr.heap.size := by omega
  have hn1 : ¬ g = w.heap.size := by omega
  rw [hp, hq] at hp4 hq4
  refine ⟨hp4, hq4, rest.trans (restL_no hk hok), ?_, ?_, ?_, ?_, ?_, ?_, ?_, ?_, ?_, lt, by simp; omega⟩
  · simp [World.cell?_setCell_other, hc4, hlt, c0]
  · simp [World.cell?_setCell_other, hc4, hlt, c1]
  · simp [World.cell?_setCell_other, hc4, hlt, c2]
  · simp [World.cell?_setCell_other, hc4, hlt, c3]
  · have : w4.cell? ⟨g, 0, none⟩ = some (.float .f64 p) := by rw [hc4 _ _ sz, o0]
    simp [World.cell?_setCell_other, World.cell?_setCell_same _ _ _ this]
  · have : w4.cell? ⟨g, 1, none⟩ = some (.float .f64 q) := by rw [hc4 _ _ sz, o1]
    have h2 : (w4.setCell ⟨g, 0, none⟩ (.float .f64 p4)).cell? ⟨g, 1, none⟩ = some (.float .f64 q) := by rw [World.cell?_setCell_other _ _ _ _ (by simp), this]
    simp [World.cell?_setCell_same _ _ _ h2]
  · simp [hf4, sz, z0]
  · simp [hf4, sz, z1]
  · refine Below.setCell (Below.setCell (bel.trans (hb4.mono (by omega))) ?_ _) ?_ _
    · show w.heap.size ≤ g; omega
    · show w.heap.size ≤ g; omega

set_option maxRecDepth 100000 in
set_option maxHeartbeats 1000000 in
theorem restsR_any (a b c d near : Nat) (w : World) : Calls Try.prog 21 #[spr a b c d, .float .f64 near] w
    fun e w' => e = .returned (restV (restsR (fl a) (fl b) (fl c) (fl d) (fl near))) ∧ Below w.heap.size w w' := by
  cases hR : rightR (fl a) (fl b) (fl c) (fl d)
  · have hR' := Lib.hid hR
    have hz : restsR (fl a) (fl b) (fl c) (fl d) (fl near) = none := by simp [restsR, hR]
    have hz' := Lib.hid hz
    clear hR hz
    go_enter Try.func21, Try.ntmps21
    go_wp2_with (first | (go_at_call 41; (with_reducible refine (right_any _ _ _ _ _).mono ?_); rw [hR'.out]; rintro e w1 ⟨rfl, hb1⟩; obtain ⟨hc1, hf1⟩ := bcell hb1))
    go_ret2
    exact ⟨by rw [hz'.out]; rfl, ((Below.refl _ w).alloc (Nat.le_refl _) _).trans (hb1.mono (by simp))⟩
  · cases hN : feq (fl near) (fl near)
    · have hR' := Lib.hid hR
      have hz : restsR (fl a) (fl b) (fl c) (fl d) (fl near) = none := by simp [restsR, hN]
      have hz' := Lib.hid hz
      clear hR hz
      go_enter Try.func21, Try.ntmps21
      go_wp2_with (first | (go_at_call 41; (with_reducible refine (right_any _ _ _ _ _).mono ?_); rw [hR'.out]; rintro e w1 ⟨rfl, hb1⟩; obtain ⟨hc1, hf1⟩ := bcell hb1))
      go_ret2
      exact ⟨by rw [hz'.out]; rfl, ((Below.refl _ w).alloc (Nat.le_refl _) _).trans (hb1.mono (by simp))⟩
    · have hR' := Lib.hid hR
      have hz : restsR (fl a) (fl b) (fl c) (fl d) (fl near) = restL (offOk okR (fl a) (fl b) (fl c) (fl d) (fl near)) 65537 0 := by simp [restsR, hR, hN]
      have hz' := Lib.hid hz
      clear hR hz
      go_enter Try.func21, Try.ntmps21
      go_wp2_with (first | (go_at_call 41; (with_reducible refine (right_any _ _ _ _ _).mono ?_); rw [hR'.out]; rintro e w1 ⟨rfl, hb1⟩; obtain ⟨hc1, hf1⟩ := bcell hb1) | (go_at_call 42; (with_reducible refine (first_any _ _ _ _ _).mono ?_); rintro e w2 ⟨p, q, hp, hq, rfl, hb2⟩; obtain ⟨hc2, hf2⟩ := bcell hb2))
      have hs1 := hb1.size
      have hs2 := hb2.size
      simp only [World.size_alloc] at hs1 hs2
      have hst : RrInv a b c d near w w2.heap.size 0 (w2.alloc (.cells #[.float .f64 p, .float .f64 q] 61)) p q := by
        have k0 : ∀ i : Nat, w2.cell? ⟨w.heap.size, i, none⟩ = (w.alloc (.cells #[.float .f64 a, .float .f64 b, .float .f64 c, .float .f64 d] 33)).cell? ⟨w.heap.size, i, none⟩ := fun i => by
          rw [hc2 _ _ (by omega), hc1 _ _ (by simp)]
        have k1 : ∀ (o : Obj) (i : Nat), (w2.alloc o).cell? ⟨w.heap.size, i, none⟩ = (w.alloc (.cells #[.float .f64 a, .float .f64 b, .float .f64 c, .float .f64 d] 33)).cell? ⟨w.heap.size, i, none⟩ := fun o i => by
          rw [World.cell?_alloc_lt w2 o ⟨w.heap.size, i, none⟩ (by show w.heap.size < w2.heap.size; omega), k0]
        exact ⟨hp, hq, rfl, by rw [k1]; simp, by rw [k1]; simp, by rw [k1]; simp, by rw [k1]; simp, by simp, by simp, by simp, by simp,
          (((Below.refl _ w).alloc (Nat.le_refl _) _).trans ((hb1.mono (by simp)).trans (hb2.mono (by omega)))).alloc (by omega) _, by omega, by simp⟩
      clear hc1 hc2 hf1 hf2 hb1 hb2 hs1 hs2
      generalize w2.heap.size = g at hst ⊢
      generalize w2.alloc (.cells #[.float .f64 p, .float .f64 q] 61) = w3 at hst ⊢
      go_loopw [8] (fun i wr => ∃ k : Nat, k ≤ 65537 ∧ i = .int .i64 k ∧ ∃ p q, RrInv a b c d near w g k wr p q) (fun i _ => 65537 - (intOf i).toNat)
      case atStart => exact ⟨0, Nat.zero_le _, rfl, _, _, hst⟩
      case round =>
        clear hst
        obtain ⟨k, hk, rfl, p, q, hI⟩ := hrel
        by_cases hkn0 : k < 65537
        · have hlt : (k : Int) ≤ 65536 := by omega
          have hkn := Lib.hid hkn0
          clear hk hkn0
          obtain ⟨hp1, hq1, rest, c0, c1, c2, c3, o0, o1, z0, z1, bel, lt, sz⟩ := id hI
          have hwz : w.heap.size < wr.heap.size := by omega
          have hne : ¬ w.heap.size = g := by omega
          have hne2 : ¬ g = w.heap.size := by omega
          clear hp1 hq1 rest bel
          cases h1 : fge (fl p) (fneg (fl near))
          · have hok : offOk okR (fl a) (fl b) (fl c) (fl d) (fl near) k = false := by rw [offOk, ← hI.hp, ← hI.hq]; simp [okR, h1]
            have hok' := Lib.hid hok
            clear hok
            go_wp2_with (first | (go_at_call 43; (with_reducible refine (next_any _ _ _ _ _ _ _).mono ?_); rintro e w4 ⟨p4, q4, hp4, hq4, rfl, hb4⟩; obtain ⟨hc4, hf4⟩ := bcell hb4))
            go_roundw
            case rel => exact ⟨k + 1, Nat.succ_le_of_lt hkn.out, by go_num, _, _, hI.step hb4 hp4 hq4 hkn.out hok'.out⟩
            case measure => simp [intOf]; omega
          · cases h2 : fle (fl p) (fl near)
            · have hok : offOk okR (fl a) (fl b) (fl c) (fl d) (fl near) k = false := by rw [offOk, ← hI.hp, ← hI.hq]; simp [okR, h1, h2]
              have hok' := Lib.hid hok
              clear hok
              go_wp2_with (first | (go_at_call 43; (with_reducible refine (next_any _ _ _ _ _ _ _).mono ?_); rintro e w4 ⟨p4, q4, hp4, hq4, rfl, hb4⟩; obtain ⟨hc4, hf4⟩ := bcell hb4))
              go_roundw
              case rel => exact ⟨k + 1, Nat.succ_le_of_lt hkn.out, by go_num, _, _, hI.step hb4 hp4 hq4 hkn.out hok'.out⟩
              case measure => simp [intOf]; omega
            · cases h3 : fge (fl q) (fneg (fl near))
              · have hok : offOk okR (fl a) (fl b) (fl c) (fl d) (fl near) k = false := by rw [offOk, ← hI.hp, ← hI.hq]; simp [okR, h1, h2, h3]
                have hok' := Lib.hid hok
                clear hok
                go_wp2_with (first | (go_at_call 43; (with_reducible refine (next_any _ _ _ _ _ _ _).mono ?_); rintro e w4 ⟨p4, q4, hp4, hq4, rfl, hb4⟩; obtain ⟨hc4, hf4⟩ := bcell hb4))
                go_roundw
                case rel => exact ⟨k + 1, Nat.succ_le_of_lt hkn.out, by go_num, _, _, hI.step hb4 hp4 hq4 hkn.out hok'.out⟩
                case measure => simp [intOf]; omega
              · cases h4 : fle (fl q) (fl near)
                · have hok : offOk okR (fl a) (fl b) (fl c) (fl d) (fl near) k = false := by rw [offOk, ← hI.hp, ← hI.hq]; simp [okR, h1, h2, h3, h4]
                  have hok' := Lib.hid hok
                  clear hok
                  go_wp2_with (first | (go_at_call 43; (with_reducible refine (next_any _ _ _ _ _ _ _).mono ?_); rintro e w4 ⟨p4, q4, hp4, hq4, rfl, hb4⟩; obtain ⟨hc4, hf4⟩ := bcell hb4))
                  go_roundw
                  case rel => exact ⟨k + 1, Nat.succ_le_of_lt hkn.out, by go_num, _, _, hI.step hb4 hp4 hq4 hkn.out hok'.out⟩
                  case measure => simp [intOf]; omega
                · have hok : offOk okR (fl a) (fl b) (fl c) (fl d) (fl near) k = true := by rw [offOk, ← hI.hp, ← hI.hq]; simp [okR, h1, h2, h3, h4]
                  have hok' := Lib.hid hok
                  clear hok
                  go_wp2_with fail
                  go_ret2
                  exact ⟨by rw [hz'.out, hI.rest, restL_yes hkn.out hok'.out]; rfl, hI.bel⟩
        · obtain rfl : k = 65537 := by omega
          go_wp2_with fail
          go_ret2
          exact ⟨by rw [hz'.out, hI.rest]; rfl, hI.bel⟩
end Go.Proofs.Ytkgicooplgmmpaa
