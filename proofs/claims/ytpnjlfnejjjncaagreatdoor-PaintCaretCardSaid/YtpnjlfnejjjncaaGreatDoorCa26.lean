/-
  What a tree of one input is painted from, in memory.
-/
import Derived.Test.YtpnjlfnejjjncaaGreatDoorCa24
import Derived.Test.YtpnjlfnejjjncaaGreatDoorCa25
import Derived.BigQuiet
import Derived.Deep.QuietTactic
import Derived.Test.YtpnjlfnejjjncaaGreatDoorCa05
set_option linter.unusedVariables false
set_option linter.unusedSimpArgs false
namespace Go.Proofs.YtpnjlfnejjjncaaGreatDoor
open Go.RowKit

/-- What of a text of letters is shown. -/
def cut1 (l : List UInt8) (f m : Nat) : List UInt8 := (l.drop f).take m
/-- The cells from a place on. -/
def At (W : World) (b o : Nat) (l : List Value) : Prop := b < W.heap.size ∧ ∀ (j : Nat) (v : Value), l[j]? = some v → W.cell? ⟨b, o + j, none⟩ = some v
section
variable {W W' : World} {b o : Nat} {l : List Value}
theorem At.cell (h : At W b o l) {j : Nat} {v : Value} (hj : l[j]? = some v) : W.cell? ⟨b, o + j, none⟩ = some v := h.2 j v hj
theorem At.cell0 (h : At W b o l) {v : Value} (hj : l[0]? = some v) : W.cell? ⟨b, o, none⟩ = some v := h.2 0 v hj
theorem At.below (h : At W b o l) (hb : Below W.heap.size W W') : At W' b o l := ⟨Nat.lt_of_lt_of_le h.1 hb.size, fun j v hj => (hb.cell (p := ⟨b, o + j, none⟩) h.1).trans (h.2 j v hj)⟩
theorem At.grown {row : Option Nat} (h : At W b o l) (hg : W.grownBy W' row) (hne : some b ≠ row) : At W' b o l := by
  have e := hg.block b h.1 hne
  refine ⟨?_, fun j v hj => ?_⟩
  · have h1 := h.1
    have : W.heap[b]? = some W.heap[b] := by simp [h1]
    rw [← e] at this
    exact (Array.getElem?_eq_some_iff.1 this).1
  · exact (World.cell?_of_block (a := ⟨b, o + j, none⟩) e).trans (h.2 j v hj)
theorem At.alloc {l2 : List Value} {e2 : TypeId} (h : At W b o l) : At (W.alloc (.cells l2.toArray e2)) b o l := h.below ((Below.refl _ W).alloc (Nat.le_refl _) _)
theorem At.allocD {l2 : List Value} {e2 : TypeId} (h : At W b o l) : At (W.alloc (.cells l2.toArray e2)).drew b o l := h.below (Below.drew ((Below.refl _ W).alloc (Nat.le_refl _) _))
theorem At.drew (h : At W b o l) : At W.drew b o l := h
end
/-- What a tree of one input is painted from: its node, its box, its style, what it holds. -/
structure Inp (w : World) (NB oN BB oB SB oS EB oE n : Nat) (s : ByteArray) (x : Int) : Prop where
  node : At w NB oN inpL
  box : At w BB oB (boxL n)
  sty : At w SB oS [.int .i32 0, .int .i32 0, .int .u8 0]
  ent : At w EB oE [.int .i64 0, .string s, .int .i64 x]
theorem Inp.below {w w' : World} {NB oN BB oB SB oS EB oE n : Nat} {s : ByteArray} {x : Int} (h : Inp w NB oN BB oB SB oS EB oE n s x) (hb : Below w.heap.size w w') : Inp w' NB oN BB oB SB oS EB oE n s x := ⟨h.node.below hb, h.box.below hb, h.sty.below hb, h.ent.below hb⟩
end Go.Proofs.YtpnjlfnejjjncaaGreatDoor
/-
  The walk of paint.cursor, at an input that is the tree's only node and has the focus.
-/
namespace Go.Proofs.YtpnjlfnejjjncaaGreatDoor
open Go.RowKit

def CurPost (S oS col : Nat) (w : World) (e : Ending) (w' : World) : Prop :=
  ∃ w1, e = .returned (.tuple #[]) ∧ Below w.heap.size w w1 ∧ w' = ((w1.setCell ⟨S, oS + 3, none⟩ (.int .i64 col)).setCell ⟨S, oS + 4, none⟩ (.int .i64 0)).setCell ⟨S, oS + 5, none⟩ (.bool true)
set_option maxRecDepth 100000 in
set_option maxHeartbeats 4000000 in
theorem cursor_any (NB oN cN BB oB cB EB oE cE S oS WB oW cW n : Nat) (s : ByteArray) (x : Int) (v3 v4 v5 : Value) (w : World) (hN : At w NB oN inpL) (hB : At w BB oB (boxL n)) (hE : At w EB oE [.int .i64 0, .string s, .int .i64 x])
    (hS : At w S oS [.int .i64 n, .int .i64 1]) (h3 : w.cell? ⟨S, oS + 3, none⟩ = some v3) (h4 : w.cell? ⟨S, oS + 4, none⟩ = some v4) (h5 : w.cell? ⟨S, oS + 5, none⟩ = some v5) (f3 : w.frozen? ⟨S, oS + 3, none⟩ = false) (f4 : w.frozen? ⟨S, oS + 4, none⟩ = false) (f5 : w.frozen? ⟨S, oS + 5, none⟩ = false)
    (hW : At w WB oW (List.replicate n (.int .i64 0))) (hn : 1 ≤ n ∧ n ≤ 60) (hs : s.size ≤ 255) (hl : ∀ b ∈ s.data.toList, lett b) (hx : -9223372036854775808 ≤ x ∧ x ≤ 9223372036854775807) :
    Calls Tryz.prog 20 #[.agg #[.slice (some ⟨NB, oN, none⟩) 1 cN], .slice (some ⟨BB, oB, none⟩) 1 cB, .agg #[.int .i64 0, .slice (some ⟨EB, oE, none⟩) 1 cE], .pointer (some ⟨S, oS, none⟩), .slice (some ⟨WB, oW, none⟩) n cW] w
      (CurPost S oS (vcol (car x s.size) n) w) := by
  have HEN : Hid (∀ W, At W EB oE [.int .i64 0, .string s, .int .i64 x] → Calls Tryz.prog 39 #[.agg #[.slice (some ⟨NB, oN, none⟩) 1 cN], .agg #[.int .i64 0, .slice (some ⟨EB, oE, none⟩) 1 cE], .int .i64 0] W (EntPost (one1 s.data.toList) x W)) :=
    Lib.hid fun W h => entry_one _ EB oE cE s x W h.1 (h.cell0 rfl) (h.cell (j := 1) rfl) (h.cell (j := 2) rfl) (by omega) hl
  obtain ⟨m, hm⟩ : ∃ m, s.size = m := ⟨_, rfl⟩
  have hlen : (one1 s.data.toList).length = m := by rw [one1_len, blen]; exact hm
  have HVI : Hid (∀ A c W, SeeC W A m (one1 s.data.toList) → Calls Tryz.prog 40 #[.slice A m c, .int .i64 x, .int .i64 n] W (VRet (.tuple #[.int .i64 ((car x m - vcol (car x m) n : Nat) : Int), .int .i64 (vmany m (car x m - vcol (car x m) n) n : Nat), .int .i64 (vcol (car x m) n : Nat)]) W)) :=
    Lib.hid fun A c W h => view_any A c m x n _ W h (one1_ones _) (by omega) hx (by omega)
  have HM := Lib.hid hlen
  rw [hm]
  have hcl : vcol (car x m) n ≤ n - 1 := by unfold vcol; omega
  obtain ⟨col, hcol⟩ : ∃ col, vcol (car x m) n = col := ⟨_, rfl⟩
  rw [hcol] at hcl
  rw [hcol] at HVI
  rw [hcol]
  have hr : (List.replicate n (.int .i64 0 : Value))[col]? = some (.int .i64 0) := by rw [List.getElem?_replicate, if_pos (by omega)]
  have hwc := hW.cell hr
  clear hr
  have HN := Lib.hid hN
  have HB := Lib.hid hB
  have HE := Lib.hid hE
  have HS := Lib.hid hS
  have n0 := hN.cell0 (v := .int .i8 7) rfl
  have b0 := hB.cell (j := 4) rfl
  have b1 := hB.cell (j := 5) rfl
  have b2 := hB.cell (j := 6) rfl
  have b3 := hB.cell (j := 7) rfl
  have lN := hN.1
  have lB := hB.1
  have lE := hE.1
  have lS := hS.1
  have lW := hW.1
  clear hN hB hE hS hW hl hm hlen
  go_enter Tryz.func20, Tryz.ntmps20
  go_upto_region 5 with (fail)
  obtain ⟨T, hT⟩ : ∃ T, w.heap.size = T := ⟨_, rfl⟩
  obtain ⟨w3, hw3⟩ : ∃ w3, ((w.alloc (.cells #[.slice (some ⟨NB, oN, none⟩) 1 cN] 49)).alloc (.cells #[.int .i64 0, .slice (some ⟨EB, oE, none⟩) 1 cE] 44)).alloc (.cells #[.int .i64 0, .int .i64 0, .int .i64 n, .int .i64 1] 71) = w3 := ⟨_, rfl⟩
  have hbw : Below w.heap.size w w3 := by rw [← hw3]; exact (((Below.refl _ w).alloc (Nat.le_refl _) _).alloc (by simp) _).alloc (by simp; omega) _
  have hT0 : Bk1 w3 T [.slice (some ⟨NB, oN, none⟩) 1 cN] 49 := by
    rw [← hw3, ← hT]; exact Bk1.below (heap_alloc2_old w _ _) ((Below.refl _ _).alloc (Nat.le_refl _) _)
  have hT1 : Bk1 w3 (T + 1) [.int .i64 0, .slice (some ⟨EB, oE, none⟩) 1 cE] 44 := by
    rw [← hw3, ← hT]; exact Bk1.below (heap_alloc2_new w _ _) ((Below.refl _ _).alloc (Nat.le_refl _) _)
  have hT2 : Bk1 w3 (T + 1 + 1) (rectL n) 71 := by
    have e : w.heap.size + 1 + 1 = ((w.alloc (.cells #[.slice (some ⟨NB, oN, none⟩) 1 cN] 49)).alloc (.cells #[.int .i64 0, .slice (some ⟨EB, oE, none⟩) 1 cE] 44)).heap.size := by simp
    rw [← hw3, ← hT, e]
    exact heap_alloc_new _ _
  have HE3 := Lib.hid (HE.out.below hbw)
  have HBW := Lib.hid hbw
  have HT2 := Lib.hid hT2
  have t0 := hT0.cell (j := 0) rfl
  have t1 := hT1.cell (j := 0) rfl
  have t2 := hT1.cell (j := 1) rfl
  have l0 := hT0.lt
  have l1 := hT1.lt
  have l2 := hT2.lt
  have s0w := HS.out.cell0 (v := .int .i64 n) rfl
  have s1w := HS.out.cell (j := 1) (v := .int .i64 1) rfl
  rw [hw3, hT]
  clear hw3 hbw hT0 hT1 hT2 n0 b0 b1 b2 b3
  go_upto_region 6 with (first | (go_at_call 39; ((with_reducible refine (HEN.out _ HE3.out).mono ?_); rintro e5 w5 ⟨A, c, rfl, hc1, hc2, hSe, hb5⟩)))
  rw [HM.out] at hSe hc1 ⊢
  have hT5 := HT2.out.below hb5
  have HBW5 := Lib.hid (HBW.out.trans (hb5.mono HBW.out.size))
  have r0 := hT5.cell (j := 0) rfl
  have r1 := hT5.cell (j := 1) rfl
  have r2 := hT5.cell (j := 2) rfl
  have k0 := (HBW5.out.cell (p := ⟨S, oS, none⟩) lS).trans s0w
  have k1 := (HBW5.out.cell (p := ⟨S, oS + 1, none⟩) lS).trans s1w
  have k3 := (HBW5.out.cell (p := ⟨S, oS + 3, none⟩) lS).trans h3
  have k4 := (HBW5.out.cell (p := ⟨S, oS + 4, none⟩) lS).trans h4
  have k5 := (HBW5.out.cell (p := ⟨S, oS + 5, none⟩) lS).trans h5
  have kw := (HBW5.out.cell (p := ⟨WB, oW + col, none⟩) lW).trans hwc
  have g3 : w5.frozen? ⟨S, oS + 3, none⟩ = false := (World.frozen?_of_block (a := ⟨S, oS + 3, none⟩) (HBW5.out.block S lS)).trans f3
  have g4 : w5.frozen? ⟨S, oS + 4, none⟩ = false := (World.frozen?_of_block (a := ⟨S, oS + 4, none⟩) (HBW5.out.block S lS)).trans f4
  have g5 : w5.frozen? ⟨S, oS + 5, none⟩ = false := (World.frozen?_of_block (a := ⟨S, oS + 5, none⟩) (HBW5.out.block S lS)).trans f5
  have lS5 : S < w5.heap.size := by have := HBW5.out.size; omega
  have HSE := Lib.hid hSe
  clear hSe s0w s1w h3 h4 h5 f3 f4 f5 hwc t0 t1 t2 hb5
  go_upto_region 7 with (first | (go_at_call 40; ((with_reducible refine (HVI.out _ _ _ HSE.out).mono ?_); rintro e6 w6 ⟨rfl, hw6⟩; obtain rfl := hw6.symm)))
  have hc0 : (col : Int) < n := by omega
  go_quiet (fail)
  go_wp2
  go_end0
  exact ⟨w5.drewN nq, rfl, below_drewN HBW5.out _, rfl⟩
end Go.Proofs.YtpnjlfnejjjncaaGreatDoor
/-
  frescolaw20.alone at an input of one row: what the values known by name are; a picture's row and cursor as known calls, out of their walks.
-/
set_option linter.unusedSectionVars false
namespace Go.Proofs.YtpnjlfnejjjncaaGreatDoor
open Go.RowKit Go.Eng

def shown (s : ByteArray) (x : Int) (n : Nat) : ByteArray := ⟨(cut1 s.data.toList (car x s.size - vcol (car x s.size) n) (vmany s.size (car x s.size - vcol (car x s.size) n) n)).toArray⟩
/-- The texts of the row's cells. -/
def txts (s : ByteArray) (x : Int) (n : Nat) : List ByteArray := txK (shown s x n).data.toList (List.replicate n sp) (shown s x n).size
theorem cut1_len (l : List UInt8) (f m : Nat) : (cut1 l f m).length ≤ m := by simp [cut1]; omega
theorem cut1_mem {l : List UInt8} {f m : Nat} {b : UInt8} (h : b ∈ cut1 l f m) : b ∈ l := List.mem_of_mem_drop (List.mem_of_mem_take h)
theorem shown_size (s : ByteArray) (x : Int) (n : Nat) : (shown s x n).size ≤ n := by
  have h := cut1_len s.data.toList (car x s.size - vcol (car x s.size) n) (vmany s.size (car x s.size - vcol (car x s.size) n) n)
  have : (shown s x n).size = (cut1 s.data.toList (car x s.size - vcol (car x s.size) n) (vmany s.size (car x s.size - vcol (car x s.size) n) n)).length := rfl
  have h2 : vmany s.size (car x s.size - vcol (car x s.size) n) n ≤ n := by unfold vmany; omega
  omega
theorem shown_lett {s : ByteArray} {x : Int} {n : Nat} (hl : ∀ b ∈ s.data.toList, lett b) : ∀ b ∈ (shown s x n).data.toList, lett b := fun b hb => hl b (cut1_mem (by simpa [shown] using hb))
theorem txts_len (s : ByteArray) (x : Int) (n : Nat) : (txts s x n).length = n := by
  have h := shown_size s x n
  unfold txts
  rw [txK_len _ _ _ (by exact Nat.le_refl _) (by simpa using h)]
  simp
/-- The values behind the names. -/
structure Vals [Env] (n : Nat) (s : ByteArray) (x : Int) : Prop where
  v0 : Env.val 0 = .string s
  v1 : Env.val 1 = .int .i64 x
  v2 : Env.val 2 = .string (shown s x n)
  v3 : Env.val 3 = .int .i64 (vcol (car x s.size) n : Nat)
  v10 : ∀ i t, (txts s x n)[i]? = some t → Env.val (10 + i) = .string t

theorem at_of {W : World} {c o : Nat} {l : List Value} (hne : l ≠ []) (h : ∀ (j : Nat) (v : Value), l[j]? = some v → W.cell? ⟨c, o + j, none⟩ = some v) : At W c o l := by
  refine ⟨?_, h⟩
  cases l with
  | nil => exact absurd rfl hne
  | cons v l =>
    have := h 0 v rfl
    rcases Nat.lt_or_ge c W.heap.size with q | q
    · exact q
    · simp [World.cell?, Array.getElem?_eq_none q] at this
section
variable [Env] {σ : Sg}
theorem agg_inv {l : List Value} {v' : Value} (h : VR σ (.agg ⟨l⟩) v') : ∃ l', v' = .agg ⟨l'⟩ ∧ VRs σ l l' := by
  cases h with
  | atom e => simp [atomV] at e
  | agg h => exact ⟨_, rfl, h⟩
theorem tuple_inv {l : List Value} {v' : Value} (h : VR σ (.tuple ⟨l⟩) v') : ∃ l', v' = .tuple ⟨l'⟩ ∧ VRs σ l l' := by
  cases h with
  | atom e => simp [atomV] at e
  | tuple h => exact ⟨_, rfl, h⟩
theorem iface_inv {t : TypeId} {v v' : Value} (h : VR σ (.iface t v) v') : ∃ u, v' = .iface t u ∧ VR σ v u := by
  cases h with
  | atom e => simp [atomV] at e
  | iface h => exact ⟨_, rfl, h⟩
theorem nil_inv {l' : List Value} (h : VRs σ [] l') : l' = [] := by cases h; rfl
theorem cels_VR : ∀ (ts : List ByteArray) (i : Nat), (∀ j t, ts[j]? = some t → Env.val (10 + (i + j)) = .string t) → VRs σ (cels ts.length i) (rowL ts)
  | [], _, _ => .nil
  | t :: ts, i, h => by
    have h0 := h 0 t rfl
    refine .cons ?_ (.cons (.atom rfl) (.cons (.atom rfl) (.cons (.atom rfl) (.cons (.atom rfl) (cels_VR ts (i + 1) fun j t hj => ?_)))))
    · rw [← h0]; exact .tok
    · have := h (j + 1) t (by simpa using hj)
      rw [← this]; congr 1; omega
theorem cels_inv : ∀ (ts : List ByteArray) (i : Nat) (l' : List Value), (∀ j t, ts[j]? = some t → Env.val (10 + (i + j)) = .string t) → VRs σ (cels ts.length i) l' → l' = rowL ts
  | [], _, l', _, hv => nil_inv hv
  | t :: ts, i, l', h, hv => by
    have h0 := h 0 t rfl
    obtain ⟨v1, m1, rfl, e1, hv1⟩ := VRs.snoc_inv (v := tokV (10 + i)) (l := .int .i8 1 :: .int .i32 0 :: .int .i32 0 :: .int .u8 0 :: cels ts.length (i + 1)) hv
    obtain ⟨v2, m2, rfl, e2, hv2⟩ := hv1.snoc_inv
    obtain ⟨v3, m3, rfl, e3, hv3⟩ := hv2.snoc_inv
    obtain ⟨v4, m4, rfl, e4, hv4⟩ := hv3.snoc_inv
    obtain ⟨v5, m5, rfl, e5, hv5⟩ := hv4.snoc_inv
    obtain rfl := VR.eq_of_closed e2 rfl
    obtain rfl := VR.eq_of_closed e3 rfl
    obtain rfl := VR.eq_of_closed e4 rfl
    obtain rfl := VR.eq_of_closed e5 rfl
    obtain rfl := tok_inv e1
    have hr := cels_inv ts (i + 1) m5 (fun j t hj => by
      have := h (j + 1) t (by simpa using hj)
      rw [← this]; congr 1; omega) hv5
    have h1 : Env.val (10 + i) = .string t := h0
    rw [hr, h1]
    rfl
theorem zerosL_eq : ∀ n, zerosL n = List.replicate n (.int .i64 0)
  | 0 => rfl
  | n + 1 => by rw [zerosL, zerosL_eq n]; rfl
theorem zeros_closed : ∀ n, closedVs (zerosL n) = true
  | 0 => rfl
  | n + 1 => by simp [zerosL, closedVs, closedV, zeros_closed n]
end
section
variable [Env] {base : Nat} {σ : Sg} {A A1 : AS} {W : World}
theorem ent_at {n : Nat} {s : ByteArray} {x : Int} (hV : Vals n s x) (h : R Tryz.prog base σ A W) {eb eo : Nat} {m3 : Im} (hm3 : σ eb = some m3) (c3 : cellsAre A eb eo [.int .i64 0, tokV 0, tokV 1] = true) : At W m3.c (eo + m3.δ) [.int .i64 0, .string s, .int .i64 x] := by
  obtain ⟨l', r1, hcell⟩ := cellsAre_spec h hm3 c3
  obtain ⟨x1, l1, rfl, t1, r2⟩ := r1.snoc_inv
  obtain ⟨x2, l2, rfl, t2, r3⟩ := r2.snoc_inv
  obtain ⟨x3, l3, rfl, t3, r4⟩ := r3.snoc_inv
  obtain rfl := nil_inv r4
  obtain rfl := VR.eq_of_closed t1 rfl
  obtain rfl := tok_inv t2
  obtain rfl := tok_inv t3
  rw [hV.v0, hV.v1] at hcell
  exact at_of (by simp) hcell
theorem kmRow_ok {n : Nat} {s : ByteArray} {x : Int} (hV : Vals n s x) (hn : 1 ≤ n ∧ n ≤ 60) (hl : ∀ b ∈ s.data.toList, lett b) {args args' : List Value} {v : Value} (hk : kmRow n args A = some (v, A1)) (h : R Tryz.prog base σ A W) (ha : VRs σ args args') :
    Calls Tryz.prog 18 ⟨args'⟩ W fun e W1 => ∃ σ1 v', e = .returned v' ∧ R Tryz.prog base σ1 A1 W1 ∧ Ext A σ W A1 σ1 W1 ∧ VR σ1 v v' := by
  unfold kmRow at hk
  split at hk <;> try (simp at hk; done)
  rename_i t sl l y
  split at hk <;> try (simp at hk; done)
  rename_i b o hsl
  cases hc : (beqV y (.int .i64 0) && Nat.beq t 142 && beqVs l (picL 0 0 0 n).tail && cellsAre A b o [tokV 2]) with
  | false => rw [hc] at hk; simp at hk
  | true =>
    rw [hc] at hk
    simp only [cond_true, Option.some.injEq, Prod.mk.injEq] at hk
    obtain ⟨rfl, rfl⟩ := hk
    simp only [Bool.and_eq_true] at hc
    obtain ⟨⟨⟨hy, ht⟩, hll⟩, hcl⟩ := hc
    obtain rfl := beqV_eq _ _ hy
    obtain rfl : t = 142 := Nat.eq_of_beq_eq_true ht
    obtain rfl := beqVs_eq _ _ hll
    obtain ⟨a1, r1, rfl, e1, ha1⟩ := ha.snoc_inv
    obtain ⟨a2, r2, rfl, e2, ha2⟩ := ha1.snoc_inv
    obtain rfl := nil_inv ha2
    obtain rfl := VR.eq_of_closed e2 rfl
    obtain ⟨l1, rfl, d1⟩ := agg_inv e1
    obtain ⟨p1, l2, rfl, e3, d2⟩ := d1.snoc_inv
    obtain rfl := VRs.eq_of_closed d2 rfl
    obtain ⟨u, rfl, d3⟩ := iface_inv e3
    obtain ⟨m, c, hm, rfl⟩ := slN_spec d3 hsl
    obtain ⟨q, hq, hcell⟩ := cellsAre_spec h hm hcl
    obtain ⟨q1, q2, rfl, e4, hq2⟩ := hq.snoc_inv
    obtain rfl := nil_inv hq2
    obtain rfl := tok_inv e4
    have hat : At W m.c (o + m.δ) [.string (shown s x n)] := by
      rw [← hV.v2]
      exact at_of (by simp) hcell
    have hR := picRow_any m.c (o + m.δ) c n (shown s x n) W (hat.cell0 rfl) hat.1 hn (shown_size s x n) (shown_lett hl)
    refine Calls.mono hR fun e W1 ⟨S, he, hbk, hb, hS, _⟩ => ?_
    have hrow : VRs σ (cels n 0) (rowL (txts s x n)) := by
      have := cels_VR (σ := σ) (txts s x n) 0 (fun j t hj => by rw [Nat.zero_add]; exact hV.v10 j t hj)
      rw [txts_len] at this; exact this
    have hlen : (cels n 0).length = 5 * n := by
      have := hrow.length
      rw [rowL_len, txts_len] at this; exact this.symm
    have hnew := h.newAt (o := rowA (cels n 0) 5 62) (o' := .cells ⟨rowL (txts s x n)⟩ 62 (0, 0)) (m := ⟨S, 0, (cels n 0).length, 5⟩) hb.size (fun c hc => hb.block c hc) ⟨hb.os, hb.output, hb.tape⟩ hS hbk (rowA_OR hrow (by omega))
    exact ⟨_, _, he, hnew.1, hnew.2, .slice (m := ⟨S, 0, (cels n 0).length, 5⟩) (Sg.add_at _ _ _) (Nat.le_refl _) (Nat.le_refl _) (.inl rfl) (.inl rfl)⟩
theorem kmCur_ok {n : Nat} {s : ByteArray} {x : Int} (hV : Vals n s x) (hn : 1 ≤ n ∧ n ≤ 60) (hs : s.size ≤ 255) (hl : ∀ b ∈ s.data.toList, lett b) (hx : -9223372036854775808 ≤ x ∧ x ≤ 9223372036854775807) {args args' : List Value} {v : Value} (hk : kmCur n args A = some (v, A1)) (h : R Tryz.prog base σ A W) (ha : VRs σ args args') :
    Calls Tryz.prog 20 ⟨args'⟩ W fun e W1 => ∃ σ1 v', e = .returned v' ∧ R Tryz.prog base σ1 A1 W1 ∧ Ext A σ W A1 σ1 W1 ∧ VR σ1 v v' := by
  unfold kmCur at hk
  split at hk <;> try (simp at hk; done)
  rename_i nd bx z en p wh
  split at hk <;> try (simp at hk; done)
  rename_i nb no bb bo eb eo sb so wb wo q1 q2 q3 q4 q5
  cases hc : curHit n nb no bb bo eb eo sb so wb wo z A with
  | false => rw [hc] at hk; simp at hk
  | true =>
    rw [hc] at hk
    simp only [cond_true] at hk
    unfold curHit at hc
    simp only [Bool.and_eq_true] at hc
    obtain ⟨⟨⟨⟨⟨⟨⟨⟨hz, c1⟩, c2⟩, c3⟩, c4⟩, c5⟩, p3⟩, p4⟩, p5⟩ := hc
    obtain rfl := beqV_eq _ _ hz
    obtain ⟨P3, p3⟩ := Option.isSome_iff_exists.1 p3
    obtain ⟨P4, p4⟩ := Option.isSome_iff_exists.1 p4
    obtain ⟨P5, p5⟩ := Option.isSome_iff_exists.1 p5
    simp only [putQ, p3] at hk
    cases h4 : aPutCells sb (so + 4) [.int .i64 0] P3 with
    | none => rw [h4] at hk; simp [putQ, curEnd] at hk
    | some A4 =>
    rw [h4] at hk
    simp only [putQ] at hk
    cases h5 : aPutCells sb (so + 5) [.bool true] A4 with
    | none => rw [h5] at hk; simp [curEnd] at hk
    | some A5 =>
    rw [h5] at hk
    simp only [curEnd, Option.some.injEq, Prod.mk.injEq] at hk
    obtain ⟨rfl, rfl⟩ := hk
    obtain ⟨a1, r1, rfl, e1, ha1⟩ := ha.snoc_inv
    obtain ⟨a2, r2, rfl, e2, ha2⟩ := ha1.snoc_inv
    obtain ⟨a3, r3, rfl, e3, ha3⟩ := ha2.snoc_inv
    obtain ⟨a4, r4, rfl, e4, ha4⟩ := ha3.snoc_inv
    obtain ⟨a5, r5, rfl, e5, ha5⟩ := ha4.snoc_inv
    obtain rfl := nil_inv ha5
    obtain ⟨l1, rfl, d1⟩ := agg_inv e1
    obtain ⟨nd', l2, rfl, d2, d3⟩ := d1.snoc_inv
    obtain rfl := nil_inv d3
    obtain ⟨l3, rfl, d4⟩ := agg_inv e3
    obtain ⟨z', l4, rfl, d5, d6⟩ := d4.snoc_inv
    obtain ⟨en', l5, rfl, d7, d8⟩ := d6.snoc_inv
    obtain rfl := nil_inv d8
    obtain rfl := VR.eq_of_closed d5 rfl
    obtain ⟨m1, k1, hm1, rfl⟩ := slN_spec d2 q1
    obtain ⟨m2, k2, hm2, rfl⟩ := slN_spec e2 q2
    obtain ⟨m3, k3, hm3, rfl⟩ := slN_spec d7 q3
    obtain ⟨m4, hm4, rfl⟩ := ptA_spec e4 q4
    obtain ⟨m5, k5, hm5, rfl⟩ := slN_spec e5 q5
    have hN : At W m1.c (no + m1.δ) inpL := at_of (by simp [inpL]) (cellsAre_closed h hm1 c1 rfl)
    have hB : At W m2.c (bo + m2.δ) (boxL n) := at_of (by simp [boxL]) (cellsAre_closed h hm2 c2 rfl)
    have hS : At W m4.c (so + m4.δ) [.int .i64 n, .int .i64 1] := at_of (by simp) (cellsAre_closed h hm4 c4 rfl)
    have hW : At W m5.c (wo + m5.δ) (List.replicate n (.int .i64 0)) := by
      rw [← zerosL_eq]
      exact at_of (by obtain ⟨k, rfl⟩ : ∃ k, n = k + 1 := ⟨n - 1, by omega⟩; simp [zerosL]) (cellsAre_closed h hm5 c5 (zeros_closed n))
    have hE : At W m3.c (eo + m3.δ) [.int .i64 0, .string s, .int .i64 x] := by
      exact ent_at hV h hm3 c3
    obtain ⟨⟨o3, u3⟩, f3, _⟩ := put1_sound h hm4 (v' := Env.val 3) .tok p3
    obtain ⟨⟨o4, u4⟩, f4, _⟩ := put1_sound h hm4 (v' := .int .i64 0) (.atom rfl) p4
    obtain ⟨⟨o5, u5⟩, f5, _⟩ := put1_sound h hm4 (v' := .bool true) (.atom rfl) p5
    have g3 : so + 3 + m4.δ = so + m4.δ + 3 := by omega
    have g4 : so + 4 + m4.δ = so + m4.δ + 4 := by omega
    have g5 : so + 5 + m4.δ = so + m4.δ + 5 := by omega
    rw [g3] at u3 f3
    rw [g4] at u4 f4
    rw [g5] at u5 f5
    refine Calls.mono (cursor_any m1.c (no + m1.δ) k1 m2.c (bo + m2.δ) k2 m3.c (eo + m3.δ) k3 m4.c (so + m4.δ) m5.c (wo + m5.δ) k5 n s x o3 o4 o5 W hN hB hE hS u3 u4 u5 f3 f4 f5 hW hn hs hl hx) fun e W1 ⟨w1, he, hb, hw⟩ => ?_
    subst hw
    obtain ⟨R0, X0⟩ := h.grow (W1 := w1) hb.size (fun c hc => hb.block c hc) ⟨hb.os, hb.output, hb.tape⟩
    obtain ⟨_, _, R3, X3⟩ := put1_sound R0 hm4 (v' := Env.val 3) .tok p3
    obtain ⟨_, _, R4, X4⟩ := put1_sound R3 hm4 (v' := .int .i64 0) (.atom rfl) h4
    obtain ⟨_, _, R5, X5⟩ := put1_sound R4 hm4 (v' := .bool true) (.atom rfl) h5
    rw [g3, g4, g5, hV.v3] at R5 X5
    rw [g3, g4, hV.v3] at X4
    rw [g3, hV.v3] at X3
    exact ⟨σ, _, he, R5, ((X0.trans X3).trans X4).trans X5, .tuple .nil⟩
end
end Go.Proofs.YtpnjlfnejjjncaaGreatDoor
/-
  The walk of the piece of paint.draw that an input comes to (paint.go:202 .. 208), out of a frame of which five slots are known.
-/
namespace Go.Proofs.YtpnjlfnejjjncaaGreatDoor
open Go.RowKit

def cT : Code → Code
  | .cond _ a _ => a
  | c => c
def cF : Code → Code
  | .cond _ _ b => b
  | c => c
noncomputable def drawB : Code := Go.Eng.bodyOf Tryz.f17
noncomputable def drawE : Code := Go.Eng.rgt (Go.Eng.rgt (Go.Eng.rgt (Go.Eng.rgt (Go.Eng.rgt (Go.Eng.rgt drawB)))))
noncomputable def drawD : Code := Go.Eng.lft (Go.Eng.rgt (Go.Eng.lft drawE))
noncomputable def drawG : Code := Go.Eng.rgt (cF (Go.Eng.rgt drawD))
noncomputable def drawX : Code := cT drawG
theorem ba_snoc (l : List UInt8) (b : UInt8) : (⟨l.toArray⟩ : ByteArray) ++ mkS [b.toNat] = ⟨(l ++ [b]).toArray⟩ := by
  have h : mkS [b.toNat] = ⟨[b].toArray⟩ := by simp [mkS, toBytes]
  rw [h]
  apply ByteArray.ext
  simp [ByteArray.data_append]
def DXPost (n : Nat) (s : ByteArray) (x : Int) (C oC : Nat) (u10 : Value) (W : World) (e : Exit) (a : Act) (w' : World) : Prop :=
  e = .normal ∧ a.defers = [] ∧ (∃ L w1, Bk1 w1 L [.string (shown s x n)] 9 ∧ W.heap.size ≤ L ∧ Below W.heap.size W w1 ∧ w' = w1.setCell ⟨C, oC, none⟩ (.iface 142 (.slice (some ⟨L, 0, none⟩) 1 1))) ∧
    a.tmps.size = 214 ∧ a.tmps[10]? = some u10 ∧ a.tmps[13]? = some (.pointer (some ⟨C, oC, none⟩))
set_option maxRecDepth 100000 in
set_option maxHeartbeats 4000000 in
theorem drawX_wp (T oT K oK C oC NB oN cN EB oE cE n : Nat) (s : ByteArray) (x : Int) (v0 : Value) (W : World) (u0 u1 u2 u3 u6 u7 u9 u10 u11 u12 u15 u16 u17 u18 u19 u20 u21 u22 u23 u24 u25 u26 u27 u28 u29 u30 u31 u32 u33 u34 u35 u36 u37 u38 u39 u40 u41 u42 u43 u44 u45 u46 u47 u48 u49 u50 u51 u52 u53 u54 u55 u56 u57 u58 u59 u60 u61 u62 u63 u64 u65 u66 u67 u68 u69 u70 u71 u72 u73 u74 u75 u76 u77 u78 u79 u80 u81 u82 u83 u84 u85 u86 u87 u88 u89 u90 u91 u92 u93 u94 u95 u96 u97 u98 u99 u100 u101 u102 u103 u104 u105 u106 u107 u108 u109 u110 u111 u112 u113 u114 u115 u116 u117 u118 u119 u120 u121 u122 u123 u124 u125 u126 u127 u128 u129 u130 u131 u132 u133 u134 u135 u136 u137 u138 u139 u140 u141 u142 u143 u144 u145 u146 u147 u148 u149 u150 u151 u152 u153 u154 u155 u156 u157 u158 u159 u160 u161 u162 u163 u164 u165 u166 u167 u168 u169 u170 u171 u172 u173 u174 u175 u176 u177 u178 u179 u180 u181 u182 u183 u184 u185 u186 u187 u188 u189 u190 u191 u192 u193 u194 u195 u196 u197 u198 u199 u200 u201 u202 u203 u204 u205 u206 u207 u208 u209 u210 u211 u212 u213 : Value)
    (hT : At W T oT [.slice (some ⟨NB, oN, none⟩) 1 cN]) (hK : At W K oK [.int .i64 0, .slice (some ⟨EB, oE, none⟩) 1 cE]) (hE : At W EB oE [.int .i64 0, .string s, .int .i64 x])
    (hC : W.cell? ⟨C, oC, none⟩ = some v0) (fC : W.frozen? ⟨C, oC, none⟩ = false) (hn : 1 ≤ n ∧ n ≤ 60) (hs : s.size ≤ 255) (hl : ∀ b ∈ s.data.toList, lett b) (hx : -9223372036854775808 ≤ x ∧ x ≤ 9223372036854775807) :
    drawX.wp Tryz.prog (DXPost n s x C oC u10 W) ⟨#[u0, u1, u2, u3, .int .i64 0, .pointer (some ⟨T, oT, none⟩), u6, u7, .pointer (some ⟨K, oK, none⟩), u9, u10, u11, u12, .pointer (some ⟨C, oC, none⟩), .int .i64 n, u15, u16, u17, u18, u19, u20, u21, u22, u23, u24, u25, u26, u27, u28, u29, u30, u31, u32, u33, u34, u35, u36, u37, u38, u39, u40, u41, u42, u43, u44, u45, u46, u47, u48, u49, u50, u51, u52, u53, u54, u55, u56, u57, u58, u59, u60, u61, u62, u63, u64, u65, u66, u67, u68, u69, u70, u71, u72, u73, u74, u75, u76, u77, u78, u79, u80, u81, u82, u83, u84, u85, u86, u87, u88, u89, u90, u91, u92, u93, u94, u95, u96, u97, u98, u99, u100, u101, u102, u103, u104, u105, u106, u107, u108, u109, u110, u111, u112, u113, u114, u115, u116, u117, u118, u119, u120, u121, u122, u123, u124, u125, u126, u127, u128, u129, u130, u131, u132, u133, u134, u135, u136, u137, u138, u139, u140, u141, u142, u143, u144, u145, u146, u147, u148, u149, u150, u151, u152, u153, u154, u155, u156, u157, u158, u159, u160, u161, u162, u163, u164, u165, u166, u167, u168, u169, u170, u171, u172, u173, u174, u175, u176, u177, u178, u179, u180, u181, u182, u183, u184, u185, u186, u187, u188, u189, u190, u191, u192, u193, u194, u195, u196, u197, u198, u199, u200, u201, u202, u203, u204, u205, u206, u207, u208, u209, u210, u211, u212, u213], []⟩ W := by
  have HEN : Hid (∀ W, At W EB oE [.int .i64 0, .string s, .int .i64 x] → Calls Tryz.prog 39 #[.agg #[.slice (some ⟨NB, oN, none⟩) 1 cN], .agg #[.int .i64 0, .slice (some ⟨EB, oE, none⟩) 1 cE], .int .i64 0] W (EntPost (one1 s.data.toList) x W)) :=
    Lib.hid fun W h => entry_one _ EB oE cE s x W h.1 (h.cell0 rfl) (h.cell (j := 1) rfl) (h.cell (j := 2) rfl) (by omega) hl
  obtain ⟨m, hm⟩ : ∃ m, s.size = m := ⟨_, rfl⟩
  have hlen : (one1 s.data.toList).length = m := by rw [one1_len, blen]; exact hm
  have hlen2 : s.data.toList.length = m := by rw [← hlen, one1_len]
  obtain ⟨col, hcol⟩ : ∃ col, vcol (car x m) n = col := ⟨_, rfl⟩
  obtain ⟨fr, hfr⟩ : ∃ fr, car x m - col = fr := ⟨_, rfl⟩
  obtain ⟨mn, hmn⟩ : ∃ mn, vmany m fr n = mn := ⟨_, rfl⟩
  have hcar : car x m ≤ m := by unfold car; omega
  have hfrm : fr + mn ≤ m := by unfold vmany at hmn; omega
  have HSH : Hid (shown s x n = ⟨((s.data.toList.drop fr).take mn).toArray⟩) := Lib.hid (by unfold shown cut1; rw [hm, hcol, hfr, hmn])
  have HVI : Hid (∀ A c W, SeeC W A m (one1 s.data.toList) → Calls Tryz.prog 40 #[.slice A m c, .int .i64 x, .int .i64 n] W (VRet (.tuple #[.int .i64 fr, .int .i64 mn, .int .i64 col]) W)) :=
    Lib.hid fun A c W h => by
      have := view_any A c m x n _ W h (one1_ones _) (by omega) hx (by omega)
      rw [hcol, hfr, hmn] at this
      exact this
  have HM := Lib.hid hlen
  have HM2 := Lib.hid hlen2
  have HE := Lib.hid hE
  have t0 := hT.cell0 rfl
  have k0 := hK.cell0 rfl
  have k1 := hK.cell (j := 1) rfl
  have lT := hT.1
  have lK := hK.1
  have lE := hE.1
  have hm2 : m ≤ 255 := by omega
  have lC : C < W.heap.size := by
    rcases Nat.lt_or_ge C W.heap.size with q | q
    · exact q
    · simp [World.cell?, Array.getElem?_eq_none q] at hC
  clear hT hK hE hl hm hs hlen hlen2 hcol hfr hmn hx hcar
  unfold drawX drawG drawD drawE drawB
  dsimp only [Go.Eng.bodyOf, Tryz.f17, Go.Eng.rgt, Go.Eng.lft, cF, cT]
  go_upto_region 13 with (first | (go_at_call 39; ((with_reducible refine (HEN.out _ HE.out).mono ?_); rintro e5 w5 ⟨A, c, rfl, hc1, hc2, hSe, hb5⟩)))
  rw [HM.out] at hSe hc1 ⊢
  have hC5 : w5.cell? ⟨C, oC, none⟩ = some v0 := (hb5.cell (p := ⟨C, oC, none⟩) lC).trans hC
  have fC5 : w5.frozen? ⟨C, oC, none⟩ = false := (World.frozen?_of_block (a := ⟨C, oC, none⟩) (hb5.block C lC)).trans fC
  have lC5 : C < w5.heap.size := by have := hb5.size; omega
  have HC5 := Lib.hid (And.intro hC5 fC5)
  have HB5 := Lib.hid hb5
  have HSE := Lib.hid hSe
  clear hSe hb5 hC fC t0 k0 k1 hC5 fC5
  go_upto_region 14 with (first | (go_at_call 40; ((with_reducible refine (HVI.out _ _ _ HSE.out).mono ?_); rintro e6 w6 ⟨rfl, hw6⟩; obtain rfl := hw6.symm)))
  obtain ⟨cs, hcs⟩ : ∃ cs, one1 s.data.toList = cs := ⟨_, rfl⟩
  have HCS := Lib.hid hcs
  rw [hcs] at HSE
  clear hcs
  go_upto_region 15 with (fail)
  go_cut [105, 106, 107] from 23 (fun v l i W => ∃ A2 c2, v = .slice A2 mn c2 ∧ l = .int .i64 mn ∧ i = .int .i64 0 ∧ W = w5 ∧ (0 < mn → ∃ g o, A2 = some ⟨g, o, none⟩ ∧ g < w5.heap.size ∧ RdC w5 g o (cs.drop fr)))
  case first =>
    rcases Nat.eq_zero_or_pos m with h0 | h0
    · obtain rfl : fr = 0 := by omega
      obtain rfl : mn = 0 := by omega
      rcases A with _ | ⟨g, o, k⟩
      · go_wp2
        go_meet
        exact ⟨_, _, rfl, rfl, rfl, rfl, fun q => absurd q (by omega)⟩
      · rcases Nat.eq_zero_or_pos c with hc0 | hc0
        · subst hc0
          go_wp2
          go_meet
          exact ⟨_, _, rfl, rfl, rfl, rfl, fun q => absurd q (by omega)⟩
        · have hc00 : ¬ c = 0 := by omega
          go_wp2
          go_meet
          exact ⟨_, _, rfl, rfl, rfl, rfl, fun q => absurd q (by omega)⟩
    · obtain ⟨g, o, rfl, hg, hR⟩ := HSE.out.2 h0
      have HR := Lib.hid hR
      clear hR
      have hle : fr + mn ≤ c := by omega
      rcases Nat.lt_or_ge fr c with hfc | hfc
      · have hfc1 : ¬ c = fr := by omega
        have hfc2 : ¬ fr = c := by omega
        have hfc3 : ¬ c - fr = 0 := by omega
        go_wp2
        go_meet
        exact ⟨some ⟨g, o + fr * 2, none⟩, c - fr, by rw [Nat.add_sub_cancel_left], by first | rfl | rw [Nat.add_sub_cancel_left], rfl, rfl, fun _ => ⟨g, o + fr * 2, rfl, hg, HR.out.drop fr⟩⟩
      · obtain rfl : c = fr := by omega
        obtain rfl : mn = 0 := by omega
        go_wp2
        go_meet
        exact ⟨_, _, rfl, rfl, rfl, rfl, fun q => absurd q (by omega)⟩
  case rest =>
  obtain ⟨A2, c2, rfl, rfl, rfl, hw, hA⟩ := hcut
  obtain rfl := hw.symm
  have HA := Lib.hid hA
  clear hA
  go_wp2
  go_loopw [21, 107] (fun st i wr => ∃ k : Nat, st = .string ⟨((s.data.toList.drop fr).take k).toArray⟩ ∧ i = .int .i64 k ∧ k ≤ mn ∧ Below w5.heap.size w5 wr) (fun _ i _ => mn - (intOf i).toNat)
  case atStart => exact ⟨0, by simp, rfl, by omega, Below.refl _ _⟩
  case round =>
    obtain ⟨k, rfl, rfl, hk, hbr⟩ := hrel
    rcases Nat.lt_or_ge k mn with hlt | hge
    · obtain ⟨g, o, rfl, hg, hR⟩ := HA.out (by omega)
      obtain ⟨b, hb⟩ : ∃ b, (s.data.toList.drop fr)[k]? = some b := ⟨_, List.getElem?_eq_getElem (by have := HM2.out; simp at this ⊢; omega)⟩
      have hy : (cs.drop fr)[k]? = some ([b.toNat], 1) := by rw [← HCS.out]; rw [List.getElem?_drop] at hb ⊢; simp [one1] at hb ⊢; exact ⟨b, hb, rfl⟩
      have hc0 : wr.cell? ⟨g, o + k * 2, none⟩ = some (.string (mkS [b.toNat])) := (hbr.cell (p := ⟨g, o + k * 2, none⟩) hg).trans (hR k _ hy).1
      have hc1' : wr.cell? ⟨g, o + k * 2 + 1, none⟩ = some (.int .i64 1) := (hbr.cell (p := ⟨g, o + k * 2 + 1, none⟩) hg).trans (hR k _ hy).2
      have HY := Lib.hid hb
      have lg : g < wr.heap.size := by have := hbr.size; omega
      have HBR := Lib.hid hbr
      clear hR hy hb hbr
      have e1 : (s.data.toList.drop fr).take (k + 1) = (s.data.toList.drop fr).take k ++ [b] := by
        obtain ⟨q1, q2⟩ := List.getElem?_eq_some_iff.1 HY.out
        rw [List.take_succ_eq_append_getElem q1, q2]
      have e2 := ba_snoc ((s.data.toList.drop fr).take k) b
      rw [← e1] at e2
      have z1 : (⟨((s.data.toList.drop fr).take k).toArray⟩ : ByteArray).size ≤ k := by
        have : (⟨((s.data.toList.drop fr).take k).toArray⟩ : ByteArray).size = ((s.data.toList.drop fr).take k).length := rfl
        rw [this]; simp; omega
      have z2 : (mkS [b.toNat]).size = 1 := by rw [show mkS [b.toNat] = ⟨[b].toArray⟩ by simp [mkS, toBytes]]; rfl
      obtain ⟨sa, hsa⟩ : ∃ sa : ByteArray, ⟨((s.data.toList.drop fr).take k).toArray⟩ = sa := ⟨_, rfl⟩
      obtain ⟨sb, hsb⟩ : ∃ sb : ByteArray, mkS [b.toNat] = sb := ⟨_, rfl⟩
      rw [hsa] at e2 z1
      rw [hsb] at e2 z2 hc0
      rw [hsa]
      have E2 := Lib.hid e2
      clear e1 e2 hsa hsb
      go_wp2
      all_goals try (exfalso; simp only [maxLen] at *; omega)
      go_roundw
      case rel =>
        exact ⟨k + 1, by rw [E2.out], by first | rfl | go_num, by omega, HBR.out.alloc HBR.out.size _⟩
      case measure => simp [intOf]; omega
    · obtain rfl : k = mn := by omega
      have hge' : ((k : Int) < k) = False := by simp
      have hCr : wr.cell? ⟨C, oC, none⟩ = some v0 := (hbr.cell (p := ⟨C, oC, none⟩) lC5).trans HC5.out.1
      have fCr : wr.frozen? ⟨C, oC, none⟩ = false := (World.frozen?_of_block (a := ⟨C, oC, none⟩) (hbr.block C lC5)).trans HC5.out.2
      have lCr : C < wr.heap.size := by have := hbr.size; omega
      have HBR := Lib.hid (HB5.out.trans (hbr.mono HB5.out.size))
      clear hbr
      go_wp2
      refine ⟨rfl, rfl, ⟨wr.heap.size, _, ?_, HBR.out.size, HBR.out.alloc HBR.out.size (.cells #[.string ⟨((s.data.toList.drop fr).take k).toArray⟩] 9), by first | exact (World.setCell_alloc_past _ _ _ _ lCr).symm | exact (World.setCell_alloc_past _ _ _ _ _ lCr).symm⟩, rfl, rfl, rfl⟩
      rw [HSH.out]
      exact heap_alloc_new wr _
end Go.Proofs.YtpnjlfnejjjncaaGreatDoor
/-
  paint.draw at frescolaw20.alone's input: run by the abstract machine up to the piece that an input comes to, that piece by hand, the rest by the abstract machine.
-/
set_option linter.unusedSectionVars false
namespace Go.Proofs.YtpnjlfnejjjncaaGreatDoor
open Go.RowKit Go.Eng

def picZ : List Value := [.nilIface, .int .i64 0, .int .i64 0, .int .i64 0, .int .i64 0, .int .i64 0, .int .i64 0, .int .i64 0, .int .i64 0, .int .i64 0, .int .i64 0, .int .i64 0, .int .i64 0, .int .i64 0, .int .i64 0, .int .i64 0, .int .i64 0, .int .i64 0, .int .i64 0, .int .i32 0, .int .i32 0, .int .u8 0, .int .i8 0, .int .i64 0]
/-- A picture of nothing. -/
def picN (n : Nat) : List Value := .iface 128 (.agg ⟨[]⟩) :: (picL 0 0 0 n).tail
def ifc : Value := .iface 142 (.slice (some ⟨992, 0, none⟩) 1 1)
def dBase (n : Nat) : List (Nat × Blk) := dNeed n ++ [(941, .cells [.slice (some ⟨24, 0, none⟩) 1 1] 1 1 49 0 0), (942, .cells [.int .i64 0, .slice (some ⟨20, 0, none⟩) 1 1] 2 2 44 0 0), (943, .rep picZ 24 24 89 0 0)]
noncomputable def ck1 (n : Nat) : Ck := ⟨[(4, .int .i64 0), (5, .pointer (some ⟨941, 0, none⟩)), (8, .pointer (some ⟨942, 0, none⟩)), (10, .pointer (some ⟨943, 0, none⟩)), (11, .pointer (some ⟨953, 0, none⟩)), (13, .pointer (some ⟨968, 0, none⟩)), (14, .int .i64 n)], 214, 992, dBase n ++ [(953, .cells inpL 34 34 39 0 0), (968, .cells (picN n) 24 24 89 0 0)]⟩
noncomputable def ck2 (n : Nat) : Ck := { ck1 n with sl := (68, .int .i8 7) :: (ck1 n).sl }
noncomputable def ck3 (n : Nat) : Ck := { ck2 n with sl := (69, .bool false) :: (ck2 n).sl }
noncomputable def ck4 (n : Nat) : Ck := ⟨[(4, .int .i64 0), (5, .pointer (some ⟨941, 0, none⟩)), (8, .pointer (some ⟨942, 0, none⟩)), (10, .pointer (some ⟨943, 0, none⟩)), (13, .pointer (some ⟨968, 0, none⟩)), (14, .int .i64 n), (83, .bool true)], 214, 992, dBase n ++ [(968, .cells (picN n) 24 24 89 0 0)]⟩
noncomputable def ck5 (n : Nat) : Ck := ⟨[(10, .pointer (some ⟨943, 0, none⟩)), (13, .pointer (some ⟨968, 0, none⟩))], 214, 993, dBase n ++ [(968, .cells (picL 992 0 1 n) 24 24 89 0 0), dShown]⟩
/-- The statements ahead, the piece, the rest. -/
noncomputable def drawL : List Code := [lft drawB, lft (rgt drawB), lft (rgt (rgt drawB)), lft (rgt (rgt (rgt drawB))), lft (rgt (rgt (rgt (rgt drawB)))), lft (rgt (rgt (rgt (rgt (rgt drawB)))))]
noncomputable def drawR8 : Code := lft (lft drawE)
noncomputable def drawR9 : Code := lft drawD
noncomputable def drawR11 : Code := lft (cF (rgt drawD))
noncomputable def drawT : Code := rgt drawE
noncomputable def ifcTo (n : Nat) : Option AS → Bool
  | some A => Nat.beq A.nx 993 && Nat.beq A.lo 21 && okAll A.h (ck5 n).bl
  | none => false
noncomputable def okN (n : Nat) : Bool :=
  okTo 21 (ck1 n) (runPre Tryz.prog kn0 100000 drawL (startF Tryz.f17 (entD n).args) ((entD n).start 21)) &&
  okTo 21 (ck2 n) (runPre Tryz.prog kn0 100000 [drawR8] (ck1 n).F ((ck1 n).A 21)) &&
  okTo 21 (ck3 n) (runPre Tryz.prog kn0 100000 [drawR9] (ck2 n).F ((ck2 n).A 21)) &&
  okTo 21 (ck4 n) (runPre Tryz.prog kn0 100000 [drawR11] (ck3 n).F ((ck3 n).A 21)) &&
  ifcTo n (aPutCells 968 0 [ifc] (((ck4 n).A 21).new (rowA [tokV 2] 1 9))) &&
  okEnd Tryz.prog Tryz.f17.results.toList (entD n) (ev Tryz.prog kn0 100000 (.code drawT (ck5 n).F ((ck5 n).A 21)))
set_option maxRecDepth 100000 in
theorem okN_all : (List.range 60).all (fun i => okN (i + 1)) = true := by kernel_rfl
theorem okN_any (n : Nat) (h : 1 ≤ n ∧ n ≤ 60) : okN n = true := by
  have := List.all_eq_true.1 okN_all (n - 1) (List.mem_range.2 (by omega))
  rwa [show n - 1 + 1 = n by omega] at this
set_option maxRecDepth 100000 in
theorem draw_shape : drawB = seqs drawL (.seq (seqs [drawR8] (.block 0 (seqs [drawR9] (.cond (.tmp 69) (cT (rgt drawD)) (seqs [drawR11] (.cond (.tmp 83) drawX (cF drawG))))))) drawT) := by kernel_rfl
end Go.Proofs.YtpnjlfnejjjncaaGreatDoor
/-
  paint.draw's piece as a fact of the abstract machine; draw as an entry; the known calls of frescolaw20.alone are right.
-/
set_option linter.unusedSectionVars false
namespace Go.Proofs.YtpnjlfnejjjncaaGreatDoor
open Go.RowKit Go.Eng

theorem ten {l : List Value} {k : Nat} (h : l.length = k + 10) : ∃ a b c d e f g i j m r, l = a :: b :: c :: d :: e :: f :: g :: i :: j :: m :: r ∧ r.length = k := by
  rcases l with _ | ⟨a, _ | ⟨b, _ | ⟨c, _ | ⟨d, _ | ⟨e, _ | ⟨f, _ | ⟨g, _ | ⟨i, _ | ⟨j, _ | ⟨m, r⟩⟩⟩⟩⟩⟩⟩⟩⟩⟩ <;> simp at h
  exact ⟨a, b, c, d, e, f, g, i, j, m, r, rfl, h⟩
theorem four {l : List Value} (h : l.length = 4) : ∃ a b c d, l = [a, b, c, d] := by
  rcases l with _ | ⟨a, _ | ⟨b, _ | ⟨c, _ | ⟨d, _ | ⟨e, r⟩⟩⟩⟩⟩ <;> simp at h
  exact ⟨a, b, c, d, rfl⟩
section
variable [Env]
theorem ext_weakR {σ σ1 : Sg} {A A1 A2 : AS} {W W1 : World} (h : Ext A σ W A1 σ1 W1) (w : Weak A1 A2) : Ext A σ W A2 σ1 W1 :=
  ⟨h.le, h.same, by rw [w.1]; exact h.nx, by rw [w.2.1]; exact h.lo, h.size, fun c hc hi => h.img c hc (w.img hi), h.frame, h.rest⟩
set_option maxRecDepth 100000 in
set_option maxHeartbeats 4000000 in
theorem drawX_fact {n : Nat} {s : ByteArray} {x : Int} (hV : Vals n s x) (hn : 1 ≤ n ∧ n ≤ 60) (hs : s.size ≤ 255) (hl : ∀ b ∈ s.data.toList, lett b) (hx : -9223372036854775808 ≤ x ∧ x ≤ 9223372036854775807)
    (hok : ifcTo n (aPutCells 968 0 [ifc] (((ck4 n).A 21).new (rowA [tokV 2] 1 9))) = true) (base : Nat) : Fact Tryz.prog base drawX (ck4 n).F ((ck4 n).A 21) .normal (ck5 n).F ((ck5 n).A 21) := by
  refine fact_wp rfl rfl rfl rfl fun σ W tm hR ht => ?_
  obtain ⟨l⟩ := tm
  have h214 : l.length = 204 + 10 := ht.1
  obtain ⟨x4, e4, r4⟩ := ht.2 4 (.int .i64 0) (by kernel_rfl)
  obtain ⟨x5, e5, r5⟩ := ht.2 5 (.pointer (some ⟨941, 0, none⟩)) (by kernel_rfl)
  obtain ⟨x8, e8, r8⟩ := ht.2 8 (.pointer (some ⟨942, 0, none⟩)) (by kernel_rfl)
  obtain ⟨x10, e10, r10⟩ := ht.2 10 (.pointer (some ⟨943, 0, none⟩)) (by kernel_rfl)
  obtain ⟨x13, e13, r13⟩ := ht.2 13 (.pointer (some ⟨968, 0, none⟩)) (by kernel_rfl)
  obtain ⟨x14, e14, r14⟩ := ht.2 14 (.int .i64 n) (by kernel_rfl)
  replace e4 : l[4]? = some x4 := by simpa using e4
  replace e5 : l[5]? = some x5 := by simpa using e5
  replace e8 : l[8]? = some x8 := by simpa using e8
  replace e10 : l[10]? = some x10 := by simpa using e10
  replace e13 : l[13]? = some x13 := by simpa using e13
  replace e14 : l[14]? = some x14 := by simpa using e14
  obtain rfl := VR.eq_of_closed r4 rfl
  obtain rfl := VR.eq_of_closed r14 rfl
  obtain ⟨m5, hm5, rfl⟩ := ptA_spec r5 rfl
  obtain ⟨m8, hm8, rfl⟩ := ptA_spec r8 rfl
  obtain ⟨m13, hm13, rfl⟩ := ptA_spec r13 rfl
  obtain ⟨q1, hq1, c5⟩ := cellsAre_spec (b := 941) (o := 0) (l := [.slice (some ⟨24, 0, none⟩) 1 1]) hR hm5 (by kernel_rfl)
  obtain ⟨y1, z1, rfl, t1, hq1'⟩ := hq1.snoc_inv
  obtain rfl := nil_inv hq1'
  obtain ⟨mN, cN, hmN, rfl⟩ := slN_spec (n := 1) t1 rfl
  obtain ⟨q2, hq2, c8⟩ := cellsAre_spec (b := 942) (o := 0) (l := [.int .i64 0, .slice (some ⟨20, 0, none⟩) 1 1]) hR hm8 (by kernel_rfl)
  obtain ⟨y2, z2, rfl, t2, hq2'⟩ := hq2.snoc_inv
  obtain ⟨y3, z3, rfl, t3, hq2''⟩ := hq2'.snoc_inv
  obtain rfl := nil_inv hq2''
  obtain rfl := VR.eq_of_closed t2 rfl
  obtain ⟨mE, cE, hmE, rfl⟩ := slN_spec (n := 1) t3 rfl
  have hT := at_of (by simp) c5
  have hK := at_of (by simp) c8
  have hE := ent_at (eb := 20) (eo := 0) hV hR hmE (by kernel_rfl)
  have hp0 : (aPutCells 968 0 [.nilIface] ((ck4 n).A 21)).isSome = true := by kernel_rfl
  obtain ⟨P0, hp0⟩ := Option.isSome_iff_exists.1 hp0
  obtain ⟨⟨old, hold⟩, hfz, _⟩ := put1_sound hR hm13 (v' := .nilIface) (.atom rfl) hp0
  cases hp : aPutCells 968 0 [ifc] (((ck4 n).A 21).new (rowA [tokV 2] 1 9)) with
  | none => rw [hp] at hok; simp [ifcTo] at hok
  | some A6 =>
  rw [hp] at hok
  simp only [ifcTo, Bool.and_eq_true] at hok
  obtain ⟨⟨w1, w2⟩, w3⟩ := hok
  have hweak : Weak A6 ((ck5 n).A 21) := weak_blkT (nx := 993) (lo := 21) (Nat.eq_of_beq_eq_true w1) (Nat.eq_of_beq_eq_true w2) w3
  clear ht hp0 w1 w2 w3
  simp only [Nat.zero_add] at hT hK hE hold hfz
  obtain ⟨u0, u1, u2, u3, u4, u5, u6, u7, u8, u9, l1, rfl, h1⟩ := ten h214
  obtain ⟨u10, u11, u12, u13, u14, u15, u16, u17, u18, u19, l2, rfl, h2⟩ := ten h1
  obtain ⟨u20, u21, u22, u23, u24, u25, u26, u27, u28, u29, l3, rfl, h3⟩ := ten h2
  obtain ⟨u30, u31, u32, u33, u34, u35, u36, u37, u38, u39, l4, rfl, h4⟩ := ten h3
  obtain ⟨u40, u41, u42, u43, u44, u45, u46, u47, u48, u49, l5, rfl, h5⟩ := ten h4
  obtain ⟨u50, u51, u52, u53, u54, u55, u56, u57, u58, u59, l6, rfl, h6⟩ := ten h5
  obtain ⟨u60, u61, u62, u63, u64, u65, u66, u67, u68, u69, l7, rfl, h7⟩ := ten h6
  obtain ⟨u70, u71, u72, u73, u74, u75, u76, u77, u78, u79, l8, rfl, h8⟩ := ten h7
  obtain ⟨u80, u81, u82, u83, u84, u85, u86, u87, u88, u89, l9, rfl, h9⟩ := ten h8
  obtain ⟨u90, u91, u92, u93, u94, u95, u96, u97, u98, u99, l10, rfl, h10⟩ := ten h9
  obtain ⟨u100, u101, u102, u103, u104, u105, u106, u107, u108, u109, l11, rfl, h11⟩ := ten h10
  obtain ⟨u110, u111, u112, u113, u114, u115, u116, u117, u118, u119, l12, rfl, h12⟩ := ten h11
  obtain ⟨u120, u121, u122, u123, u124, u125, u126, u127, u128, u129, l13, rfl, h13⟩ := ten h12
  obtain ⟨u130, u131, u132, u133, u134, u135, u136, u137, u138, u139, l14, rfl, h14⟩ := ten h13
  obtain ⟨u140, u141, u142, u143, u144, u145, u146, u147, u148, u149, l15, rfl, h15⟩ := ten h14
  obtain ⟨u150, u151, u152, u153, u154, u155, u156, u157, u158, u159, l16, rfl, h16⟩ := ten h15
  obtain ⟨u160, u161, u162, u163, u164, u165, u166, u167, u168, u169, l17, rfl, h17⟩ := ten h16
  obtain ⟨u170, u171, u172, u173, u174, u175, u176, u177, u178, u179, l18, rfl, h18⟩ := ten h17
  obtain ⟨u180, u181, u182, u183, u184, u185, u186, u187, u188, u189, l19, rfl, h19⟩ := ten h18
  obtain ⟨u190, u191, u192, u193, u194, u195, u196, u197, u198, u199, l20, rfl, h20⟩ := ten h19
  obtain ⟨u200, u201, u202, u203, u204, u205, u206, u207, u208, u209, l21, rfl, h21⟩ := ten h20
  obtain ⟨u210, u211, u212, u213, rfl⟩ := four h21
  obtain rfl : u4 = .int .i64 0 := by simpa using e4
  obtain rfl : u5 = _ := by simpa using e5
  obtain rfl : u8 = _ := by simpa using e8
  obtain rfl : u10 = x10 := by simpa using e10
  obtain rfl : u13 = _ := by simpa using e13
  obtain rfl : u14 = .int .i64 n := by simpa using e14
  refine Code.wp_mono (fun e a w' => ?_) (drawX_wp m5.c m5.δ m8.c m8.δ m13.c m13.δ mN.c mN.δ cN mE.c mE.δ cE n s x old W u0 u1 u2 u3 u6 u7 u9 u10 u11 u12 u15 u16 u17 u18 u19 u20 u21 u22 u23 u24 u25 u26 u27 u28 u29 u30 u31 u32 u33 u34 u35 u36 u37 u38 u39 u40 u41 u42 u43 u44 u45 u46 u47 u48 u49 u50 u51 u52 u53 u54 u55 u56 u57 u58 u59 u60 u61 u62 u63 u64 u65 u66 u67 u68 u69 u70 u71 u72 u73 u74 u75 u76 u77 u78 u79 u80 u81 u82 u83 u84 u85 u86 u87 u88 u89 u90 u91 u92 u93 u94 u95 u96 u97 u98 u99 u100 u101 u102 u103 u104 u105 u106 u107 u108 u109 u110 u111 u112 u113 u114 u115 u116 u117 u118 u119 u120 u121 u122 u123 u124 u125 u126 u127 u128 u129 u130 u131 u132 u133 u134 u135 u136 u137 u138 u139 u140 u141 u142 u143 u144 u145 u146 u147 u148 u149 u150 u151 u152 u153 u154 u155 u156 u157 u158 u159 u160 u161 u162 u163 u164 u165 u166 u167 u168 u169 u170 u171 u172 u173 u174 u175 u176 u177 u178 u179 u180 u181 u182 u183 u184 u185 u186 u187 u188 u189 u190 u191 u192 u193 u194 u195 u196 u197 u198 u199 u200 u201 u202 u203 u204 u205 u206 u207 u208 u209 u210 u211 u212 u213 hT hK hE hold hfz hn hs hl hx)
  rintro ⟨he, hd, ⟨L, w1, hbk, hL, hb, hw⟩, hsz, h10, h13⟩
  subst hw
  have hnew := hR.newAt (o := rowA [tokV 2] 1 9) (o' := .cells ⟨[.string (shown s x n)]⟩ 9 (0, 0)) (m := ⟨L, 0, 1, 1⟩) hb.size (fun c hc => hb.block c hc) ⟨hb.os, hb.output, hb.tape⟩ hL hbk (rowA_OR (l' := [.string (shown s x n)]) (.cons (by rw [← hV.v2]; exact .tok) .nil) (by simp))
  have hifc : VR (σ.add ((ck4 n).A 21).nx ⟨L, 0, 1, 1⟩) ifc (.iface 142 (.slice (some ⟨L, 0, none⟩) 1 1)) := .iface (.slice (m := ⟨L, 0, 1, 1⟩) (Sg.add_at _ _ _) (Nat.le_refl _) (Nat.le_refl _) (.inl rfl) (.inl rfl))
  obtain ⟨_, _, R2, X2⟩ := put1_sound hnew.1 (hnew.2.le _ _ hm13) hifc hp
  rw [Nat.zero_add] at R2 X2
  refine ⟨he, hd, _, R2.weak hweak, ext_weakR (hnew.2.trans X2) hweak, hsz, fun i v hv => ?_⟩
  rcases setL_get hv with q | q
  · simp only [ck5, List.mem_cons, Prod.mk.injEq, List.not_mem_nil, or_false] at q
    rcases q with ⟨rfl, rfl⟩ | ⟨rfl, rfl⟩
    · exact ⟨_, h10, r10.mono hnew.2.le⟩
    · exact ⟨_, h13, by rw [← Nat.zero_add m13.δ]; exact r13.mono hnew.2.le⟩
  · simp [T.get_leaf] at q
set_option maxRecDepth 100000 in
theorem entD_fact {n : Nat} {s : ByteArray} {x : Int} (hV : Vals n s x) (hn : 1 ≤ n ∧ n ≤ 60) (hs : s.size ≤ 255) (hl : ∀ b ∈ s.data.toList, lett b) (hx : -9223372036854775808 ≤ x ∧ x ≤ 9223372036854775807) : EntFact Tryz.prog 21 17 (entD n) := by
  have hok := okN_any n hn
  unfold okN at hok
  simp only [Bool.and_eq_true] at hok
  obtain ⟨⟨⟨⟨⟨h1, h2⟩, h3⟩, h4⟩, h5⟩, h6⟩ := hok
  refine entFact_of_end (kn := kn0) kn0_ok mixed (fn := Tryz.f17) (c := drawB) (tl := drawT) (C := ck5 n) Tryz.func17 rfl (by kernel_rfl) h6 fun base F1 A1 ht => ?_
  rw [draw_shape]
  exact ck_pre kn0_ok mixed h1 (fact_seq (ck_pre kn0_ok mixed h2 (fact_block (ck_pre kn0_ok mixed h3 (fact_cond false (by kernel_rfl) (ck_pre kn0_ok mixed h4 (fact_cond true (by kernel_rfl) (drawX_fact hV hn hs hl hx h5 base))))))) ht)
theorem good_draw : fnGood Tryz.prog 17 = true := by kernel_rfl
theorem good_row : fnGood Tryz.prog 18 = true := by kernel_rfl
theorem good_cur : fnGood Tryz.prog 20 = true := by kernel_rfl
theorem knP_ok {n : Nat} {s : ByteArray} {x : Int} (hV : Vals n s x) (hn : 1 ≤ n ∧ n ≤ 60) (hs : s.size ≤ 255) (hl : ∀ b ∈ s.data.toList, lett b) (hx : -9223372036854775808 ≤ x ∧ x ≤ 9223372036854775807) : KnOK Tryz.prog (knP n) := by
  refine ⟨fun f args v h => by simp [knP, kn0] at h, fun f args A v A1 h => ?_, kn0_ok.ne, kn0_ok.mz, fun c F A e F1 A1 h => by simp [knP, kn0] at h⟩
  have h : kmAll n f args A = some (v, A1) := h
  unfold kmAll at h
  cases hb1 : Nat.beq f 17 with
  | true =>
    rw [hb1] at h
    obtain rfl := Nat.eq_of_beq_eq_true hb1
    exact km_ok2 good_draw (fun x hx' => by simp only [List.mem_cons, List.not_mem_nil, or_false] at hx'; subst hx'; exact entD_fact hV hn hs hl hx) h
  | false =>
  rw [hb1] at h
  cases hb2 : Nat.beq f 18 with
  | true =>
    rw [hb2] at h
    obtain rfl := Nat.eq_of_beq_eq_true hb2
    exact ⟨fnGood_spec good_row, fun base σ W args' hR ha => kmRow_ok hV hn hl h hR ha⟩
  | false =>
  rw [hb2] at h
  cases hb3 : Nat.beq f 20 with
  | true =>
    rw [hb3] at h
    obtain rfl := Nat.eq_of_beq_eq_true hb3
    exact ⟨fnGood_spec good_cur, fun base σ W args' hR ha => kmCur_ok hV hn hs hl hx h hR ha⟩
  | false =>
  rw [hb3] at h
  simp at h
end
end Go.Proofs.YtpnjlfnejjjncaaGreatDoor
