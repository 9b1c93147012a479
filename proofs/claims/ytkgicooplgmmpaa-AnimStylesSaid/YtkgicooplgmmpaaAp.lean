/-
  The walk of apart.
-/
import Derived.Test.YtkgicooplgmmpaaSa
namespace Go.Proofs.Ytkgicooplgmmpaa
open Go.RowKit

structure ApInv (Ba Bb Bw : Nat) (w : World) (va : Value) (xs : List Nat) (vb : Value) (bs : List Nat) (vw : Value) (ws : List Nat) (wr : World) : Prop where
  row : FRow wr Ba va xs
  rb : FRow wr Bb vb bs
  rw : FRow wr Bw vw ws
  db : ∀ k, vb.ownBlock = some k → va.ownBlock ≠ some k
  dw : ∀ k, vw.ownBlock = some k → va.ownBlock ≠ some k
  bel : Below Ba w wr
  lo : Ba ≤ wr.heap.size

section
variable {Ba Bb Bw : Nat} {w : World} {va : Value} {xs : List Nat} {vb : Value} {bs : List Nat} {vw : Value} {ws : List Nat} {wr : World}
theorem ne_of {v v' : Value} (h : ∀ k, v.ownBlock = some k → v'.ownBlock ≠ some k) : v.ownBlock = none ∨ v.ownBlock ≠ v'.ownBlock := by
  cases e : v.ownBlock with
  | none => exact .inl rfl
  | some k => exact .inr fun e2 => h k e e2.symm
theorem ApInv.drewN (h : ApInv Ba Bb Bw w va xs vb bs vw ws wr) (n : Nat) : ApInv Ba Bb Bw w va xs vb bs vw ws (wr.drewN n) :=
  ⟨h.row, h.rb, h.rw, h.db, h.dw, below_drewN h.bel n, h.lo⟩
theorem ApInv.set {g n c : Nat} (h : ApInv Ba Bb Bw w (.slice (some ⟨g, 0, none⟩) n c) xs vb bs vw ws wr) (i b : Nat) :
    ApInv Ba Bb Bw w (.slice (some ⟨g, 0, none⟩) n c) (xs.set i b) vb bs vw ws (wr.setCell ⟨g, i, none⟩ (.float .f64 b)) := by
  have hn := h.row.len
  subst hn
  have hg := (World.ownsRow.stored h.row i (.float .f64 b)).2
  refine ⟨h.row.set i b, h.rb.grown hg (ne_of h.db), h.rw.grown hg (ne_of h.dw), h.db, h.dw, h.bel.setCell (World.ownsRow.lt h.row g rfl).1 _, by simpa using h.lo⟩
theorem ApInv.app {v' : Value} {w1 : World} {r : Nat} (h : ApInv Ba Bb Bw w va xs vb bs vw ws wr) (h1 : FRow w1 Ba v' (xs ++ [r])) (hg : (wr.alloc (.cells #[.float .f64 r] 22)).grownBy w1 va.ownBlock) (hp : v'.ownBlock = va.ownBlock ∨ v'.ownBlock = some (wr.heap.size + 1)) :
    ApInv Ba Bb Bw w v' (xs ++ [r]) vb bs vw ws w1 := by
  have lb := fun k hk => (World.ownsRow.lt h.rb k hk).2
  have lw := fun k hk => (World.ownsRow.lt h.rw k hk).2
  have hsz := hg.size
  simp at hsz
  refine ⟨h1, (h.rb.alloc _).grown hg (ne_of h.db), (h.rw.alloc _).grown hg (ne_of h.dw), ?_, ?_, ?_, by have := h.lo; omega⟩
  · intro k hk e
    rcases hp with hp | hp
    · exact h.db k hk (hp ▸ e)
    · rw [hp] at e; cases e; have := lb _ hk; omega
  · intro k hk e
    rcases hp with hp | hp
    · exact h.dw k hk (hp ▸ e)
    · rw [hp] at e; cases e; have := lw _ hk; omega
  · exact ((h.bel.alloc h.lo _).grown hg (by simp; have := h.lo; omega) fun k hk => (World.ownsRow.lt h.row k hk).1)
end

theorem FRow.shape {w : World} {B : Nat} {v : Value} {bs : List Nat} (h : FRow w B v bs) (h0 : 0 < bs.length) : ∃ g c, v = .slice (some ⟨g, 0, none⟩) bs.length c := by
  rcases h.2 with ⟨_, h2⟩ | ⟨g, cap, cur, h1, _⟩
  · omega
  · exact ⟨g, cap, h1⟩
theorem FRow.slice {w : World} {B : Nat} {v : Value} {bs : List Nat} (h : FRow w B v bs) : ∃ p c, v = .slice p bs.length c := by
  rcases h.2 with ⟨h1, h2⟩ | ⟨g, cap, cur, h1, _⟩
  · exact ⟨none, 0, by rw [h1, h2]⟩
  · exact ⟨_, cap, h1⟩

theorem q77 : feq (fl 13858490847093325824) (fl 13858490847093325824) = true := by decide +kernel
theorem q78 : feq (fl 13858561215837503488) (fl 13858561215837503488) = true := by decide +kernel

theorem snoc_replicate (n k : Nat) (m b : Nat) : List.replicate n m ++ List.replicate k b ++ [b] = List.replicate n m ++ List.replicate (k + 1) b := by
  rw [List.append_assoc, List.replicate_succ']
theorem set_first {xs : List Nat} {k m : Nat} (h : ∀ j, j < k → xs.getD j 0 = m) (hk : k < xs.length) : ∀ j, j < k + 1 → (xs.set k m).getD j 0 = m := by
  intro j hj
  by_cases e : j = k
  · subst e; simp [hk]
  · have := h j (by omega)
    simp only [List.getD_eq_getElem?_getD] at this ⊢
    rw [List.getElem?_set_ne (by omega)]
    exact this
theorem all_first {xs : List Nat} {m : Nat} (h : ∀ j, j < xs.length → xs.getD j 0 = m) : xs = List.replicate xs.length m := by
  apply List.ext_getElem
  · simp
  · intro i h1 h2
    have := h i h1
    simp [h1] at this
    simp [this]
theorem getD_app (n k m b i : Nat) : (List.replicate n m ++ List.replicate k b).getD i 0 = if i < n then m else if i < n + k then b else 0 := by
  simp only [List.getD_eq_getElem?_getD, List.getElem?_append, List.length_replicate, List.getElem?_replicate]
  split
  · simp
  · by_cases h : i < n + k
    · rw [if_pos h, if_pos (by omega)]; simp
    · rw [if_neg h, if_neg (by omega)]; simp

set_option maxRecDepth 100000 in
set_option maxHeartbeats 2000000 in
theorem apart_any (us bs ws : List Nat) (va vb vw : Value) (w : World) (Ba Bb Bw : Nat) (hI : ApInv Ba Bb Bw w va us vb bs vw ws w)
    (hlA : us.length = ws.length) (hA : ∀ i, i < us.length → sameE (fl (us.getD i 0)) (fl (ws.getD i 0)) = true) (hlB : bs.length = ws.length) (hB : ∀ i, i < bs.length → sameE (fl (bs.getD i 0)) (fl (ws.getD i 0)) = true)
    (hsm : us.length ≤ 100000) : Calls Try.prog 18 #[va, vb, vw] w fun e w' => e = .returned (.bool true) ∧ Below Ba w w' := by
  have HA := Lib.hid hA
  have HB := Lib.hid hB
  have LA := Lib.hid hlA
  have LB := Lib.hid hlB
  clear hA hB hlA hlB
  have hq7 := q77
  have hq8 := q78
  go_enter Try.func18, Try.ntmps18
  go_wp2_with (first | (go_at_call 40; ((with_reducible refine (same_any us ws va vw _ hI.row.see hI.rw.see LA.out HA.out).mono ?_); rintro e w1 ⟨n1, rfl, rfl⟩)) | (go_at_call 40; ((with_reducible refine (same_any bs ws vb vw _ (hI.drewN _).rb.see (hI.drewN _).rw.see LB.out HB.out).mono ?_); rintro e w2 ⟨n2, rfl, rfl⟩)))
  have hw2 := hI.drewN (n1 + n2)
  generalize w.drewN (n1 + n2) = w0 at hw2 ⊢
  generalize hnn : ws.length = n at *
  have LA' := LA
  have LW := Lib.hid hnn
  clear hnn
  have hsn : n ≤ 100000 := by have := LA'.out; omega
  obtain ⟨p, c, rfl⟩ := hI.row.slice
  obtain ⟨pw', cw, rfl⟩ := hI.rw.slice
  rw [LA'.out] at hw2 ⊢
  rw [LW.out] at hw2 ⊢
  go_loopw [9] (fun i wr => ∃ k : Nat, k ≤ n ∧ i = .int .i64 k ∧ ∃ xs, xs.length = n ∧ (∀ j, j < k → xs.getD j 0 = 13858490847093325824) ∧ ApInv Ba Bb Bw w (.slice p n c) xs vb bs (.slice pw' n cw) ws wr) (fun i _ => n - (intOf i).toNat)
  case atStart => exact ⟨0, Nat.zero_le _, rfl, us, LA'.out, fun j hj => absurd hj (Nat.not_lt_zero _), hw2⟩
  case round =>
    clear hw2
    obtain ⟨k, hk, rfl, xs, hxl, hx7, hJ⟩ := hrel
    have XL := Lib.hid hxl
    have X7 := Lib.hid hx7
    clear hxl hx7
    by_cases hkn : k < n
    · obtain ⟨g, c', e⟩ := hJ.row.shape (by have := XL.out; omega)
      cases e
      have hcell := hJ.row.cell XL.out.symm k hkn
      have hfr := hJ.row.frozen k
      go_wp2_with fail
      go_roundw
      case rel => exact ⟨k + 1, by omega, by go_num, xs.set k 13858490847093325824, by simp, set_first X7.out (by have := XL.out; omega), hJ.set k _⟩
      case measure => simp [intOf]; omega
    · obtain rfl : k = n := by omega
      have hxs := all_first (xs := xs) (m := 13858490847093325824) (by rw [XL.out]; exact X7.out)
      rw [XL.out] at hxs
      subst hxs
      have hJ' : ApInv Ba Bb Bw w (.slice p k c) (List.replicate k 13858490847093325824 ++ List.replicate 0 13858561215837503488) vb bs (.slice pw' k cw) ws wr := by rw [List.replicate_zero, List.append_nil]; exact hJ
      clear X7 XL hJ
      go_wp2_with fail
      obtain ⟨wz, hwz⟩ : ∃ wz : World, wz = wr := ⟨_, rfl⟩
      rw [← hwz] at hJ' ⊢
      clear hwz hk
      clear wr
      go_loopw [0, 10] (fun v i wr => ∃ j : Nat, j ≤ 70 ∧ i = .int .i64 j ∧ ApInv Ba Bb Bw w v (List.replicate k 13858490847093325824 ++ List.replicate j 13858561215837503488) vb bs (.slice pw' k cw) ws wr) (fun _ i _ => 70 - (intOf i).toNat)
      case atStart => exact ⟨0, Nat.zero_le _, rfl, hJ'⟩
      case round =>
        clear hJ'
        obtain ⟨j, hj, rfl, hJ⟩ := hrel
        have hlen : (List.replicate k 13858490847093325824 ++ List.replicate j 13858561215837503488).length = k + j := by simp
        have hlo := hJ.lo
        by_cases hjn : j < 70
        · have hln : (List.replicate k 13858490847093325824 ++ List.replicate j 13858561215837503488).length < 1000000000000 := by omega
          clear hlen
          go_wp2_with (first | ((with_reducible apply wpList_append_F (B := Ba) (bs := List.replicate k 13858490847093325824 ++ List.replicate j 13858561215837503488)); exact rfl; exact rfl; exact rfl; exact hJ.row; exact hlo; exact hln; intro v' w3 hrow3 hgr3 hpl3 K hK))
          go_roundw
          case rel => exact ⟨j + 1, by omega, by go_num, by have := hJ.app hrow3 hgr3 hpl3; rw [snoc_replicate] at this; exact this⟩
          case measure => simp [intOf]; omega
        · obtain rfl : j = 70 := by omega
          obtain ⟨g, c3, e3⟩ := hJ.row.shape (by rw [hlen]; omega)
          rw [hlen] at e3
          subst e3
          have hcells : ∀ i, i < k + 70 → wr.cell? ⟨g, i, none⟩ = some (.float .f64 (if i < k then 13858490847093325824 else 13858561215837503488)) := by
            intro i hi
            rw [hJ.row.cell hlen.symm i hi, getD_app]
            by_cases h : i < k
            · rw [if_pos h, if_pos h]
            · rw [if_neg h, if_neg h, if_pos hi]
          have HC := Lib.hid hcells
          clear hcells hlen hlo hj
          have hJ2 := hJ
          clear hJ
          go_wp2_with fail
          go_loop [11] (fun i => ∃ m : Nat, m ≤ k + 70 ∧ i = .int .i64 m) (fun i => k + 70 - (intOf i).toNat)
          case atStart => exact ⟨0, Nat.zero_le _, rfl⟩
          case round =>
            obtain ⟨m, hm, rfl⟩ := hrel
            by_cases hmn : m < k + 70
            · by_cases hmk : m < k
              · have hc := HC.out m hmn
                rw [if_pos hmk] at hc
                go_wp2_with fail
                go_round
                case rel => exact ⟨m + 1, by omega, by go_num⟩
                case measure => simp [intOf]; omega
              · have hc := HC.out m hmn
                rw [if_neg hmk] at hc
                go_wp2_with fail
                go_round
                case rel => exact ⟨m + 1, by omega, by go_num⟩
                case measure => simp [intOf]; omega
            · obtain rfl : m = k + 70 := by omega
              go_wp2_with (first | (go_at_call 40; ((with_reducible refine (same_any bs ws vb _ _ hJ2.rb.see hJ2.rw.see (LB.out.trans LW.out.symm) HB.out).mono ?_); rintro e w5 ⟨n5, rfl, rfl⟩)))
              go_ret
              exact ⟨rfl, below_drewN hJ2.bel _⟩
end Go.Proofs.Ytkgicooplgmmpaa
