/-
  The walk of wrap.Lines: how many lines there are.
-/
import Derived.Test.YthhomflonpjbmaaGreatDoorQt16
import Derived.Deep.RegionHeld3
import Derived.Outline
import Derived.Test.YthhomflonpjbmaaGreatDoorQt14
import Derived.Deep.DeepCutAuto
namespace Go.Proofs.YthhomflonpjbmaaGreatDoor
open Go.RowKit

theorem elL : ElOK 73 109 4 48 (.agg #[.string ByteArray.empty, .int .i64 0, .int .i8 0, .string ByteArray.empty]) := ⟨Tryz.underlying73, by kernel_rfl, rfl, by decide, by decide⟩
/-- How many lines a row has. -/
def lineR (mode : Int) (w : Nat) (r : List Cl) : Nat := if mode = 2 then 1 else cntR (decide (mode = 0)) w r
def linesN (mode : Int) (w : Nat) (rs : List (List Cl)) : Nat := (rs.map (lineR mode w)).sum
theorem linesN_take (mode : Int) (w : Nat) (rs : List (List Cl)) (k : Nat) (r : List Cl) (h : rs[k]? = some r) : linesN mode w (rs.take (k + 1)) = linesN mode w (rs.take k) + lineR mode w r := by
  obtain ⟨h1, h2⟩ := List.getElem?_eq_some_iff.1 h
  unfold linesN
  rw [List.take_succ_eq_append_getElem h1, List.map_append, List.sum_append, h2]; simp
theorem cntR_le (word : Bool) (w : Nat) (l : List Cl) : cntR word w l ≤ l.length + 1 := by
  generalize hn : l.length = n
  induction n using Nat.strongRecOn generalizing l with
  | ind n ih =>
    unfold cntR
    split
    · omega
    · rename_i h
      split
      · omega
      · have hp := advS_pos word w l
        have hl : 0 < l.length := by
          rcases Nat.eq_zero_or_pos l.length with h0 | h0
          · have := List.eq_nil_of_length_eq_zero h0; subst this; simp [wideS] at h
          · exact h0
        have := ih (l.drop (advS word w l)).length (by simp only [List.length_drop]; omega) _ rfl
        simp only [List.length_drop] at this
        omega
theorem lineR_le (mode : Int) (w : Nat) (l : List Cl) : lineR mode w l ≤ l.length + 1 := by
  unfold lineR
  split
  · omega
  · exact cntR_le _ _ _
theorem rowsN_sum (l : List Cl) : ((rowsN l).map fun r => r.length + 1).sum = l.length + 1 ∧ (rowsN l).length ≤ l.length + 1 := by
  induction l with
  | nil => simp [rowsN]
  | cons c l ih =>
    simp only [rowsN]
    split
    · simp only [List.map_cons, List.sum_cons, List.length_nil, List.length_cons]; omega
    · cases h : rowsN l with
      | nil => exact absurd h (rowsN_ne _)
      | cons r rs =>
        rw [h] at ih
        simp only [List.map_cons, List.sum_cons, List.length_cons] at ih ⊢
        omega
theorem linesN_le (mode : Int) (w : Nat) (rs : List (List Cl)) : linesN mode w rs ≤ (rs.map fun r => r.length + 1).sum := by
  induction rs with
  | nil => simp [linesN]
  | cons r rs ih =>
    have := lineR_le mode w r
    simp only [linesN, List.map_cons, List.sum_cons] at ih ⊢
    omega
theorem map_take_sum (f : List Cl → Nat) (rs : List (List Cl)) (k : Nat) : ((rs.take k).map f).sum ≤ (rs.map f).sum := by
  have : (rs.map f).sum = ((rs.take k).map f).sum + ((rs.drop k).map f).sum := by rw [← List.sum_append, ← List.map_append, List.take_append_drop]
  omega
theorem single_le_sum_nat {α : Type} (f : α → Nat) (l : List α) (x : α) (h : x ∈ l) : f x ≤ (l.map f).sum := by
  induction l with
  | nil => simp at h
  | cons y l ih =>
    rcases List.mem_cons.1 h with rfl | h
    · simp only [List.map_cons, List.sum_cons]; omega
    · have := ih h; simp only [List.map_cons, List.sum_cons]; omega
theorem growS_16 (b pk n : Nat) (l : List Nat) (h : n ≤ 16) : growS b pk n l ≤ 16 := by
  induction l generalizing pk n with
  | nil => simpa [growS] using h
  | cons r rs ih =>
    simp only [growS]
    split
    · rename_i h'; exact ih _ _ (by omega)
    · exact h
theorem lengthS_16 (l : List Nat) : (lengthS l).1 ≤ 16 := by
  cases l with
  | nil => simp [lengthS]
  | cons r rs =>
    simp only [lengthS]
    split
    · simp
    · cases rs with
      | nil => simp
      | cons x xs =>
        simp only
        split
        · exact growS_16 _ _ _ _ (by omega)
        · exact growS_16 _ _ _ _ (by omega)
theorem clustersS_64 (l : List Nat) : ∀ c ∈ clustersS l, c.1.length ≤ 64 := by
  generalize hn : l.length = n
  induction n using Nat.strongRecOn generalizing l with
  | ind n ih =>
    cases l with
    | nil => simp [clustersS]
    | cons r rs =>
      rw [clustersS_cons]
      intro c hc
      rcases List.mem_cons.1 hc with rfl | hc
      · have h1 := textS_len ((r :: rs).take (lengthS (r :: rs)).1)
        have h2 := lengthS_16 (r :: rs)
        simp only [List.length_take] at h1
        simp only
        omega
      · have h := lengthS_size r rs
        exact ih _ (by simp only [List.length_drop, List.length_cons] at h hn ⊢; omega) ((r :: rs).drop (lengthS (r :: rs)).1) rfl c hc
theorem flowS_ok (s : List UInt8) : ∀ c ∈ flowS s, okC c ∧ c.1.length ≤ 64 := by
  intro c hc
  have := (List.mem_filter.1 hc).1
  exact ⟨clustersS_ok _ c this, clustersS_64 _ c this⟩
theorem flowS_len (s : List UInt8) : (flowS s).length ≤ 4 * s.length := by
  refine Nat.le_trans (List.length_filter_le _ _) (Nat.le_trans (clustersS_len _) (Nat.le_trans (runesS_len _) ?_))
  have h1 := textS_len (flowR (runesS s))
  have h2 : (flowR (runesS s)).length ≤ (runesS s).length := by unfold flowR; rw [List.length_map]; exact List.length_filter_le _ _
  have h3 := runesS_len s
  simp only [toBytes, List.length_map]; omega
theorem rowsN_mem (l : List Cl) : ∀ r ∈ rowsN l, ∀ c ∈ r, c ∈ l := by
  induction l with
  | nil => simp [rowsN]
  | cons c l ih =>
    simp only [rowsN]
    split
    · intro r hr
      rcases List.mem_cons.1 hr with rfl | hr
      · simp
      · exact fun x hx => List.mem_cons_of_mem _ (ih r hr x hx)
    · cases h : rowsN l with
      | nil => exact absurd h (rowsN_ne _)
      | cons r0 rs =>
        rw [h] at ih
        intro r hr
        rcases List.mem_cons.1 hr with rfl | hr
        · intro x hx
          rcases List.mem_cons.1 hx with rfl | hx
          · simp
          · exact List.mem_cons_of_mem _ (ih r0 (by simp) x hx)
        · exact fun x hx => List.mem_cons_of_mem _ (ih r (List.mem_cons_of_mem _ hr) x hx)
def LinesPost (n : Nat) (w : World) (e : Ending) (w' : World) : Prop :=
  ∃ v xs, e = .returned v ∧ Below w.heap.size w w' ∧ w'.ownsRow w.heap.size 109 4 v n xs
/-- What the outer loop holds. -/
def OutRel (mode : Int) (w0 : Nat) (rs : List (List Cl)) (w : World) (v i : Value) (wr : World) : Prop :=
  ∃ (k : Nat) (xs : List Value), i = .int .i64 k ∧ k ≤ rs.length ∧ Hid (wr.ownsRow w.heap.size 109 4 v (linesN mode w0 (rs.take k)) xs) ∧ Hid (Below w.heap.size w wr)
/-- What the inner loop holds. -/
def InRel (mode : Int) (w0 N : Nat) (w : World) (v r ov : Value) (wr : World) : Prop :=
  ∃ (m : Nat) (xs : List Value), Hid (wr.ownsRow w.heap.size 109 4 v m xs) ∧ Hid (Below w.heap.size w wr) ∧ m ≤ 100000000 ∧
    ((ov = .bool false ∧ ∃ (A : Option Addr) (c n : Nat) (cs : List Cl), r = .slice A n c ∧ n ≤ c ∧ Hid (c ≤ maxLen) ∧ n ≤ 100000000 ∧ Hid (SeeC w A n cs) ∧ Hid (m + lineR mode w0 cs = N) ∧ Hid (∀ x ∈ cs, okC x ∧ x.1.length ≤ 64)) ∨ (ov = .bool true ∧ m = N))
/-- A line's block of the call's own: its text, its width, how it ends, what was lost. -/
def LineCut (W : World) (s : Value) (wx : World) : Prop := ∃ (Bx : Nat) (t t2 : ByteArray) (q : Nat), s = .pointer (some ⟨Bx, 0, none⟩) ∧ W.heap.size ≤ Bx ∧ Bx < wx.heap.size ∧ wx.cell? ⟨Bx, 0, none⟩ = some (.string t) ∧ wx.cell? ⟨Bx, 1, none⟩ = some (.int .i64 q) ∧ wx.cell? ⟨Bx, 2, none⟩ = some (.int .i8 3) ∧ wx.cell? ⟨Bx, 3, none⟩ = some (.string t2) ∧
  wx.frozen? ⟨Bx, 2, none⟩ = false ∧ Below W.heap.size W wx
abbrev SW (W w' : World) : Prop := Below W.heap.size W w'
theorem SW.below {W w1 w2 : World} (h : SW W w1) (hb : Below w1.heap.size w1 w2) : SW W w2 := h.trans (hb.mono h.size)
theorem SW.alloc' {W w1 : World} (h : SW W w1) (o : Obj) : SW W (w1.alloc o) := Below.alloc h h.size o
theorem SW.set' {W w1 : World} (h : SW W w1) {p : Addr} (hp : W.heap.size ≤ p.block) (u : Value) : SW W (w1.setCell p u) := Below.setCell h hp u
theorem SW.set4 {W w1 : World} (h : SW W w1) {b : Nat} (hb : W.heap.size ≤ b) (x0 x1 x2 x3 : Value) : SW W ((((w1.setCell ⟨b, 0, none⟩ x0).setCell ⟨b, 1, none⟩ x1).setCell ⟨b, 2, none⟩ x2).setCell ⟨b, 3, none⟩ x3) :=
  (((h.setCell (p := ⟨b, 0, none⟩) hb _).setCell (p := ⟨b, 1, none⟩) hb _).setCell (p := ⟨b, 2, none⟩) hb _).setCell (p := ⟨b, 3, none⟩) hb _
theorem SeeC.take {w : World} {A : Option Addr} {n k : Nat} {cs : List Cl} (h : SeeC w A n cs) (hk : k ≤ n) : SeeC w A k (cs.take k) := by
  refine ⟨by rw [List.length_take, h.1]; omega, fun h0 => ?_⟩
  obtain ⟨g, o, e, hg, hR⟩ := h.2 (by omega)
  refine ⟨g, o, e, hg, fun i x hx => hR i x ?_⟩
  obtain ⟨h1, h2⟩ := List.getElem?_eq_some_iff.1 hx
  rw [List.getElem_take] at h2
  exact List.getElem?_eq_some_iff.2 ⟨by simp at h1; omega, h2⟩
theorem and_cell {W w' : World} {a : Addr} {v : Value} (hc : W.cell? a = some v) (ha : a.block < W.heap.size) (h : SW W w') : w'.cell? a = some v ∧ SW W w' := ⟨(h.cell (p := a) ha).trans hc, h⟩
def EndCut (W : World) (s : Value) (wx : World) : Prop := (∃ e : Int, s = .int .i8 e) ∧ wx = W
set_option maxRecDepth 100000 in
set_option maxHeartbeats 4000000 in
theorem lines_any (s : ByteArray) (w0 : Nat) (mode : Int) (hm : mode = 0 ∨ mode = 1 ∨ mode = 2) (h1 : 1 ≤ w0) (h2 : w0 ≤ 1000000) (hs : s.size ≤ 1000000) (w : World) :
    Calls Tryz.prog 27 #[.string s, .int .i64 w0, .int .i8 mode] w (LinesPost (linesN mode w0 (rowsS (flowS s.data.toList))) w) := by
  obtain ⟨cs, hcs⟩ : ∃ cs, flowS s.data.toList = cs := ⟨_, rfl⟩
  have hok : ∀ c ∈ cs, okC c ∧ c.1.length ≤ 64 := by rw [← hcs]; exact flowS_ok _
  have hlen : cs.length ≤ 4000000 := by rw [← hcs]; have := flowS_len s.data.toList; rw [blen] at this; omega
  have HFL := Lib.hid (flow_any s (by omega) w)
  rw [hcs] at HFL ⊢
  obtain ⟨rs, hrs⟩ : ∃ rs, rowsS cs = rs := ⟨_, rfl⟩
  obtain ⟨N, hN⟩ : ∃ N, rs.length = N := ⟨_, rfl⟩
  have hRall : N ≤ 4000001 ∧ (∀ r ∈ rs, r.length ≤ 4000000 ∧ ∀ c ∈ r, c ∈ cs) ∧ linesN mode w0 rs ≤ 4000001 := by
    rw [← hN, ← hrs]
    by_cases h0 : cs = []
    · rw [h0]; exact ⟨by simp [rowsS], fun r hr => by simp [rowsS] at hr, by simp [rowsS, linesN]⟩
    · rw [rowsS_eq cs h0]
      have h1 := rowsN_sum cs
      refine ⟨by omega, fun r hr => ⟨?_, rowsN_mem cs r hr⟩, Nat.le_trans (linesN_le mode w0 _) (by omega)⟩
      have h3 := single_le_sum_nat (fun r : List Cl => r.length + 1) (rowsN cs) r hr
      omega
  have hNl := hRall.1
  have hrok : ∀ r ∈ rs, r.length ≤ 4000000 ∧ ∀ c ∈ r, okC c ∧ c.1.length ≤ 64 := fun r hr => ⟨(hRall.2.1 r hr).1, fun c hc => hok c ((hRall.2.1 r hr).2 c hc)⟩
  have hsum := hRall.2.2
  have HROWS : Hid (∀ (A : Option Addr) (c : Nat) (W : World), SeeC W A cs.length cs → cs.length ≤ c → c ≤ maxLen → Calls Tryz.prog 76 #[.slice A cs.length c] W (RowsPost cs W)) := Lib.hid fun A c W hS hc hcm => rows_any A c cs.length cs W hS hc hcm (by omega) fun x hx => (hok x hx).1
  obtain ⟨n, hn⟩ : ∃ n, cs.length = n := ⟨_, rfl⟩
  have HNN := Lib.hid hN
  have HRSS := Lib.hid hrs
  have HROK := Lib.hid hrok
  have HSUM := Lib.hid hsum
  have HNC := Lib.hid hn
  rw [hn] at HFL HROWS hlen
  have hm0 : (mode < 0) = False := by simp; omega
  have hm2 : (2 < mode) = False := by simp; omega
  have hmn : ¬ mode < 0 := by omega
  have hmn2 : ¬ 2 < mode := by omega
  have HM := Lib.hid hm
  clear hcs hok hrs hN hrok hsum hn hm0 hm2 hm hRall
  go_enter Tryz.func27, Tryz.ntmps27
  go_wp2_with (first | (go_at_call 28; ((with_reducible refine HFL.out.mono ?_); rintro e w1 ⟨v, rfl, hb1, hrow⟩; obtain ⟨A, c, rfl, hc1, hc2, hA⟩ := slice_form2 hrow; have HSE : Hid (SeeC w1 A n cs) := Lib.hid ⟨HNC.out, fun h0 => (by obtain ⟨g, e1, _, e3, e4⟩ := hA h0; exact ⟨g, 0, e1, e3, fun i x hx => ⟨by rw [Nat.zero_add]; exact e4 _ _ (cv_get cs i x hx).1, by rw [Nat.zero_add]; exact e4 _ _ (cv_get cs i x hx).2⟩⟩)⟩; have HB1 := Lib.hid hb1; have HCM := Lib.hid hc2; clear hA hrow hb1 hc2)) | (go_at_call 76; ((with_reducible refine (HROWS.out _ _ _ HSE.out hc1 HCM.out).mono ?_); rintro e w2 ⟨v2, xr, rfl, hb2, hrow2, hsee2⟩; rw [HRSS.out, HNN.out] at hrow2; obtain ⟨A2, c2, rfl, hd1, hd2, hA2⟩ := slice_form2 hrow2; have HA2 := Lib.hid hA2; have HSR : Hid (SeeRows w2 xr rs) := Lib.hid (by rw [← HRSS.out]; exact hsee2); have HB2 := Lib.hid hb2; clear hA2 hrow2 hsee2 hb2 hd1 hd2)))
  go_loopw [7, 32] (OutRel mode w0 rs w2) (fun _ i _ => N - (intOf i).toNat)
  case atStart => exact ⟨0, [], rfl, by omega, World.ownsRow_nil _ _ _ _, Below.refl _ _⟩
  case round =>
    obtain ⟨k, xs, rfl, hk, HR, HBE⟩ := hrel
    rw [HNN.out] at hk
    by_cases hlt : k < N
    · obtain ⟨gR, rfl, _, hgR, hcR⟩ := HA2.out (by omega)
      obtain ⟨r, hr⟩ : ∃ r, rs[k]? = some r := ⟨_, List.getElem?_eq_getElem (by rw [HNN.out]; exact hlt)⟩
      obtain ⟨A, c, hx, hrc, hcm, hSr⟩ := HSR.out.2 k r hr
      have hcell : wr.cell? ⟨gR, k, none⟩ = some (.slice A r.length c) := (HBE.out.cell (p := ⟨gR, k, none⟩) hgR).trans (hcR k _ hx)
      have HT := Lib.hid (linesN_take mode w0 rs k r hr)
      have HNB : Hid (linesN mode w0 (rs.take (k + 1)) ≤ 4000001) := Lib.hid (Nat.le_trans (map_take_sum (lineR mode w0) rs (k + 1)) HSUM.out)
      have HRO := Lib.hid (HROK.out r (List.mem_of_getElem? hr))
      have HSr := Lib.hid hSr
      have HCMr := Lib.hid hcm
      obtain ⟨nr, hnr⟩ : ∃ nr, r.length = nr := ⟨_, rfl⟩
      rw [hnr] at hcell hrc HSr
      have HNR := Lib.hid hnr
      clear hx hcm hSr hcR hr hnr
      go_upto_if 41 with (fail)
      go_cut [11] (EndCut wr)
      case first =>
        by_cases hke : k + 1 = N
        · have e1 : ((k : Int) == (N : Int) - 1) = true := by simp; omega
          go_wp2
          go_meet
          exact ⟨⟨_, rfl⟩, rfl⟩
        · have e1 : ((k : Int) == (N : Int) - 1) = false := by simp; omega
          go_wp2
          go_meet
          exact ⟨⟨_, rfl⟩, rfl⟩
      case rest =>
        obtain ⟨⟨e, rfl⟩, he⟩ := hcut
        subst he
        go_wp2
        go_loopw [7, 10, 12] (InRel mode w0 (linesN mode w0 (rs.take (k + 1))) w2) (fun _ q o _ => 2 * lenSl q + (match o with | .bool false => 1 | _ => 0))
        case atStart => exact ⟨_, xs, HR, HBE, by have h1 := HT.out; have h3 := HNB.out; omega, .inl ⟨rfl, A, c, nr, r, rfl, hrc, HCMr, by have := HRO.out.1; have := HNR.out; omega, HSr, by rw [HT.out]; exact rfl, HRO.out.2⟩⟩
        case round =>
          obtain ⟨m, ys, HY, HB3, hm3, (⟨rfl, A', c', n', cs', rfl, hnc, HC', hn', HS', HM', HO'⟩ | ⟨rfl, rfl⟩)⟩ := hrel
          · have hSW := HS'.out.below HB3.out
            have HSW := Lib.hid hSW
            have HWD := Lib.hid (wide_any A' c' n' cs' wr hSW (by omega) fun x hx => (HO'.out x hx).1.1)
            have HJN : Hid (∀ W, Below wr.heap.size wr W → Calls Tryz.prog 78 #[.slice A' n' c'] W (VBel (.string (mkS (joinB cs'))) W)) := Lib.hid fun W hb => join_any A' c' n' cs' W (hSW.below hb) (by omega) fun x hx => (HO'.out x hx).2
            obtain ⟨tw, htw⟩ : ∃ tw, wideS cs' = tw := ⟨_, rfl⟩
            have htwl : tw ≤ 200000000 := by
              have := wideS_le cs' fun x hx => (HO'.out x hx).1.1
              have := HS'.out.1
              omega
            rw [htw] at HWD
            by_cases hfin : mode = 2 ∨ tw ≤ w0
            · have HL1 : Hid (lineR mode w0 cs' = 1) := Lib.hid (by
                unfold lineR
                rcases hfin with h | h
                · rw [if_pos h]
                · split
                  · rfl
                  · unfold cntR; rw [dif_pos (by rw [htw]; exact h)])
              have HM1 : Hid (m + 1 = linesN mode w0 (rs.take (k + 1))) := Lib.hid (by have := HM'.out; rw [HL1.out] at this; exact this)
              clear hSW htw
              by_cases hme : mode = 2
              · subst hme
                clear hfin
                go_wp2_with (first | (go_at_call 77; ((with_reducible refine HWD.out.mono ?_); rintro e1' w3 ⟨rfl, hb3⟩; have hz3 := hb3.size)) | (go_at_call 78; ((with_reducible refine (HJN.out _ hb3).mono ?_); rintro e2' w4 ⟨rfl, hb4⟩; have hz4 := hb4.size)) | ((with_reducible apply wpList_append_new elL (B := w2.heap.size) (n := m) (xs := ys) (nw := #[.string (mkS (joinB cs')), .int .i64 tw, .int .i8 e, .string ⟨#[]⟩])); exact rfl; exact rfl; (first | exact rfl | simp); exact orow_belowSize (orow_belowSize HY.out hb3) hb4; (have := HB3.out.size; omega); omega; exact rfl; (intro u hu; simp at hu; rcases hu with rfl | rfl | rfl | rfl <;> rfl); intro v' w5 hrow5 hgr5 hpl5 K hK; have HR5 := Lib.hid hrow5; clear hrow5))
                go_roundw
                case rel =>
                  refine ⟨k + 1, _, by go_num, by rw [HNN.out]; omega, by rw [← HM1.out]; exact HR5, ?_⟩
                  exact ((((HB3.out.trans (hb3.mono HB3.out.size)).trans (hb4.mono (Nat.le_trans HB3.out.size hz3))).alloc (Nat.le_trans HB3.out.size (Nat.le_trans hz3 hz4)) _).grown hgr5 (by have := HB3.out.size; simp; omega) (fun k e => (World.ownsRow.lt HY.out k e).1))
                case measure => simp [intOf]; omega
              · have e1 : (mode == 2) = false := by simp [hme]
                have e2 : (tw : Int) ≤ (w0 : Int) := by rcases hfin with h | h; exact absurd h hme; omega
                clear hfin
                go_wp2_with (first | (go_at_call 77; ((with_reducible refine HWD.out.mono ?_); rintro e1' w3 ⟨rfl, hb3⟩; have hz3 := hb3.size)) | (go_at_call 78; ((with_reducible refine (HJN.out _ hb3).mono ?_); rintro e2' w4 ⟨rfl, hb4⟩; have hz4 := hb4.size)) | ((with_reducible apply wpList_append_new elL (B := w2.heap.size) (n := m) (xs := ys) (nw := #[.string (mkS (joinB cs')), .int .i64 tw, .int .i8 e, .string ⟨#[]⟩])); exact rfl; exact rfl; (first | exact rfl | simp); exact orow_belowSize (orow_belowSize HY.out hb3) hb4; (have := HB3.out.size; omega); omega; exact rfl; (intro u hu; simp at hu; rcases hu with rfl | rfl | rfl | rfl <;> rfl); intro v' w5 hrow5 hgr5 hpl5 K hK; have HR5 := Lib.hid hrow5; clear hrow5))
                go_roundw
                case rel =>
                  refine ⟨k + 1, _, by go_num, by rw [HNN.out]; omega, by rw [← HM1.out]; exact HR5, ?_⟩
                  exact ((((HB3.out.trans (hb3.mono HB3.out.size)).trans (hb4.mono (Nat.le_trans HB3.out.size hz3))).alloc (Nat.le_trans HB3.out.size (Nat.le_trans hz3 hz4)) _).grown hgr5 (by have := HB3.out.size; simp; omega) (fun k e => (World.ownsRow.lt HY.out k e).1))
                case measure => simp [intOf]; omega
            · have hme : mode = 0 ∨ mode = 1 := by rcases HM.out with h | h | h; exact .inl h; exact .inr h; exact absurd (.inl h) hfin
              have htw2 : w0 < tw := by
                rcases Nat.lt_or_ge w0 tw with h | h
                · exact h
                · exact absurd (.inr h) hfin
              have hne2 : ¬ mode = 2 := fun h => hfin (.inl h)
              have e1 : (mode == 2) = false := by simp [hne2]
              have e2 : ¬ (tw : Int) ≤ (w0 : Int) := by omega
              obtain ⟨kf, hkf⟩ : ∃ kf, fitS cs' w0 = kf := ⟨_, rfl⟩
              have HFT : Hid (∀ W, Below wr.heap.size wr W → Calls Tryz.prog 79 #[.slice A' n' c', .int .i64 w0] W (VBel (.int .i64 kf) W)) := Lib.hid fun W hb => by
                rw [← hkf]; exact fit_any A' c' n' w0 cs' W (hSW.below hb) (by omega) (by omega) fun x hx => (HO'.out x hx).1.1
              have hkn : kf < n' := by
                have h1 := fitS_le cs' w0
                rw [hkf, HS'.out.1] at h1
                rcases Nat.lt_or_ge kf n' with h | h
                · exact h
                · exfalso
                  have := (fitS_iff cs' w0 n' (by rw [HS'.out.1]; exact Nat.le_refl _)).1 (by omega)
                  rw [List.take_of_length_le (by rw [HS'.out.1]; exact Nat.le_refl _), htw] at this
                  omega
              obtain ⟨g', o', rfl, hg', hRc'⟩ := HS'.out.2 (by omega)
              have HG' := Lib.hid hg'
              have HRC' := Lib.hid hRc'
              clear hg' hRc'
              have HLR : Hid (lineR mode w0 cs' = cntR (decide (mode = 0)) w0 cs') := Lib.hid (by unfold lineR; rw [if_neg hne2])
              have HTW := Lib.hid htw
              have HKF := Lib.hid hkf
              by_cases hk0 : kf = 0
              · have hk0I : ((kf : Int) == 0) = true := by simp [hk0]
                obtain ⟨c0, hc0⟩ : ∃ c0, cs'[0]? = some c0 := ⟨_, List.getElem?_eq_getElem (by rw [HS'.out.1]; omega)⟩
                have hc2' : c0.2 ≤ 2 := (HO'.out c0 (List.mem_of_getElem? hc0)).1.1
                have hw1 : w0 = 1 := by
                  have h5 := fitS_step cs' 0 w0 c0 hc0
                  rw [List.drop_zero, hkf, hk0] at h5
                  split at h5
                  · omega
                  · omega
                have HREP : Hid (∀ W, Calls Tryz.prog 80 #[.string ⟨#[32]⟩, .int .i64 w0] W (VRet (.string ⟨#[32]⟩) W)) := Lib.hid (by rw [hw1]; exact fun W => Tryz.strings_Repeat_one ⟨#[32]⟩ W)
                have hcell0 : wr.cell? ⟨g', o', none⟩ = some (.string (mkS c0.1)) := (HB3.out.cell (p := ⟨g', o', none⟩) HG'.out).trans (by have := (HRC'.out 0 c0 hc0).1; simpa using this)
                have hg9 : g' < wr.heap.size := Nat.lt_of_lt_of_le HG'.out HB3.out.size
                have HCN : Hid (lineR mode w0 cs' = if cs'.drop 1 = [] then 1 else 1 + lineR mode w0 (cs'.drop 1)) := Lib.hid (by
                  have e : lineR mode w0 (cs'.drop 1) = cntR (decide (mode = 0)) w0 (cs'.drop 1) := by unfold lineR; rw [if_neg hne2]
                  have ea : advS (decide (mode = 0)) w0 cs' = 1 := by unfold advS; simp only [hkf, hk0, if_true]
                  rw [HLR.out, e]
                  conv => lhs; unfold cntR
                  rw [dif_neg (by rw [htw]; omega), ea]
                  by_cases hd : cs'.drop 1 = []
                  · rw [if_pos ⟨by rw [hkf]; exact hk0, hd⟩, if_pos hd]
                  · rw [if_neg (fun h => hd h.2), if_neg hd])
                clear hSW hme hfin hne2 htw hkf hk0 HJN hw1 hc2' hc0
                go_upto_region 20 with (first | (go_at_call 77; ((with_reducible refine HWD.out.mono ?_); rintro e1' w3 ⟨rfl, hb3⟩; have hz3 := hb3.size)) | (go_at_call 79; ((with_reducible refine (HFT.out _ hb3).mono ?_); rintro e2' w4 ⟨rfl, hb4⟩; have hz4 := hb4.size)))
                have hB5 : Below wr.heap.size wr w4 := hb3.trans (hb4.mono hz3)
                have hcell4 : w4.cell? ⟨g', o', none⟩ = some (.string (mkS c0.1)) := (hB5.cell (p := ⟨g', o', none⟩) hg9).trans hcell0
                have hn0I : (0 : Int) < (n' : Int) := by omega
                have hn0N : 0 < n' := by omega
                have hg4 : g' < w4.heap.size := Nat.lt_of_lt_of_le hg9 hB5.size
                have hg4' : ¬ w4.heap.size = g' := by omega
                have hg4'' : ¬ g' = w4.heap.size := by omega
                have HB5 := Lib.hid hB5
                have S0 : SW w4 w4 := Below.refl _ _
                clear hcell0
                go_cut [15] (LineCut w4)
                case first =>
                  go_region_held3 (fun w' => w'.cell? ⟨g', o', none⟩ = some (.string (mkS c0.1)) ∧ SW w4 w')
                    ((refine and_cell hcell4 hg4 ?_; (try refine Below.drew ?_); (first | assumption | (refine SW.set4 (by assumption) ?_ _ _ _ _; first | exact Nat.le_refl _ | omega) | (refine SW.alloc' ?_ _; assumption) | (refine SW.set' ?_ ?_ _; assumption; (simp; omega)) | (refine Below.drew ?_; assumption))))
                    (first | (go_at_call 80; ((with_reducible refine (HREP.out _).mono ?_); rintro e5' w7 ⟨rfl, rfl⟩)))
                  all_goals
                    go_wp2_with fail
                    go_meet
                    refine ⟨_, ⟨#[32]⟩, mkS c0.1, w0, rfl, ?_, ?_, ?_, ?_, ?_, ?_, ?_, (by first | assumption | exact Below.drew (SW.alloc' S0 _) | exact SW.alloc' S0 _ | exact SW.alloc' (Below.drew S0) _)⟩
                    · first | exact Nat.le_refl _ | omega
                    · first | omega | (simp; done) | (simp; omega)
                    · go_simp
                    · go_simp
                    · go_simp
                    · go_simp
                    · go_simp
                case rest =>
                  obtain ⟨Bx, t1, t2, q, rfl, hX1, hX2, k0, k1, k2, k3, kf2, hbX⟩ := hcut
                  have HBX := Lib.hid hbX
                  have hwx : wr.heap.size ≤ Bx := Nat.le_trans HB5.out.size hX1
                  have hwz : wr.heap.size ≤ wc.heap.size := Nat.le_trans HB5.out.size hbX.size
                  have HROW : Hid (wc.ownsRow w2.heap.size 109 4 u7 m ys) := Lib.hid (orow_belowSize (orow_belowSize HY.out HB5.out) hbX)
                  have HBW : Hid (Below w2.heap.size w2 wc) := Lib.hid ((HB3.out.trans (HB5.out.mono HB3.out.size)).trans (hbX.mono (Nat.le_trans HB3.out.size HB5.out.size)))
                  have hw2x : w2.heap.size ≤ Bx := Nat.le_trans HB3.out.size hwx
                  have hw2c : w2.heap.size ≤ wc.heap.size := HBW.out.size
                  have HRS2 : Hid ((wc.setCell ⟨Bx, 2, none⟩ (.int .i8 e)).ownsRow w2.heap.size 109 4 u7 m ys) := Lib.hid (ownsRow_setCell_other HROW.out (a := ⟨Bx, 2, none⟩) (fun e => by have h9 : Bx < wr.heap.size := (World.ownsRow.lt HY.out _ e).2; omega) _)
                  have HOX : Hid (∀ x ∈ cs'.drop 1, okC x ∧ x.1.length ≤ 64) := Lib.hid fun x hx => HO'.out x (List.mem_of_mem_drop hx)
                  have hn1 : (1 : Int) ≤ (n' : Int) := by omega
                  have hc1 : (1 : Int) ≤ (c' : Int) := by omega
                  clear hbX hb3 hb4 hB5 S0 hcell4
                  by_cases hn' : n' = 1
                  · have hdr : cs'.drop 1 = [] := List.drop_eq_nil_of_le (by rw [HS'.out.1]; omega)
                    have HNX : Hid (m + 1 = linesN mode w0 (rs.take (k + 1))) := Lib.hid (by have h1 := HM'.out; rw [HCN.out, if_pos hdr] at h1; exact h1)
                    have hm1 : m + 1 ≤ 4000001 := by have h3 := HNB.out; have h4 := HNX.out; omega
                    have hnI : (n' : Int) = 1 := by omega
                    clear hdr
                    by_cases hcc : c' = 1
                    · skip
                      go_wp2_with ((with_reducible apply wpList_append_new elL (B := w2.heap.size) (n := m) (xs := ys) (nw := #[.string t1, .int .i64 q, .int .i8 e, .string t2])); exact rfl; exact rfl; (first | exact rfl | simp); exact HRS2.out; (simp; omega); omega; exact rfl; (intro u hu; simp at hu; rcases hu with rfl | rfl | rfl | rfl <;> rfl); intro v' w9 hrow9 hgr9 hpl9 K hK; have HR9 := Lib.hid hrow9; clear hrow9)
                      go_roundw
                      case rel =>
                        refine ⟨m + 1, _, HR9, Lib.hid (((HBW.out.setCell (p := ⟨Bx, 2, none⟩) hw2x _).alloc (by simp; omega) _).grown hgr9 (by simp; omega) (fun k e => (World.ownsRow.lt HY.out k e).1)), by omega, .inr ⟨rfl, HNX.out⟩⟩
                      case measure => (simp [lenSl]) <;> omega
                    · skip
                      go_wp2_with ((with_reducible apply wpList_append_new elL (B := w2.heap.size) (n := m) (xs := ys) (nw := #[.string t1, .int .i64 q, .int .i8 e, .string t2])); exact rfl; exact rfl; (first | exact rfl | simp); exact HRS2.out; (simp; omega); omega; exact rfl; (intro u hu; simp at hu; rcases hu with rfl | rfl | rfl | rfl <;> rfl); intro v' w9 hrow9 hgr9 hpl9 K hK; have HR9 := Lib.hid hrow9; clear hrow9)
                      go_roundw
                      case rel =>
                        refine ⟨m + 1, _, HR9, Lib.hid (((HBW.out.setCell (p := ⟨Bx, 2, none⟩) hw2x _).alloc (by simp; omega) _).grown hgr9 (by simp; omega) (fun k e => (World.ownsRow.lt HY.out k e).1)), by omega, .inr ⟨rfl, HNX.out⟩⟩
                      case measure => (simp [lenSl]) <;> omega
                  · have hdr : ¬ cs'.drop 1 = [] := fun h => by have h5 := congrArg List.length h; rw [List.length_drop, HS'.out.1] at h5; simp at h5; omega
                    have HNX : Hid (m + 1 + lineR mode w0 (cs'.drop 1) = linesN mode w0 (rs.take (k + 1))) := Lib.hid (by have h1 := HM'.out; rw [HCN.out, if_neg hdr] at h1; omega)
                    have hm1 : m + 1 ≤ 4000001 := by have h3 := HNB.out; have h4 := HNX.out; omega
                    have HSX : Hid (SeeC w2 (some ⟨g', o' + 1 * 2, none⟩) (n' - 1) (cs'.drop 1)) := Lib.hid (by
                      have h1 := HS'.out.cut (c := c') hnc (k := 1) (m := n' - 1) (by omega)
                      rw [if_neg (by omega), Option.map_some, addr_add, List.take_of_length_le (by rw [List.length_drop, HS'.out.1]; exact Nat.le_refl _)] at h1
                      exact h1)
                    have hcc' : ¬ 1 = c' := by omega
                    have hnI : ((n' : Int) - 1 == 0) = false := by simp; omega
                    clear hdr
                    go_wp2_with ((with_reducible apply wpList_append_new elL (B := w2.heap.size) (n := m) (xs := ys) (nw := #[.string t1, .int .i64 q, .int .i8 3, .string t2])); exact rfl; exact rfl; (first | exact rfl | simp); exact HROW.out; exact hw2c; omega; exact rfl; (intro u hu; simp at hu; rcases hu with rfl | rfl | rfl | rfl <;> rfl); intro v' w9 hrow9 hgr9 hpl9 K hK; have HR9 := Lib.hid hrow9; clear hrow9)
                    go_roundw
                    case rel =>
                      refine ⟨m + 1, _, HR9, Lib.hid ((HBW.out.alloc hw2c _).grown hgr9 (by simp; omega) (fun k e => (World.ownsRow.lt HY.out k e).1)), by omega, .inl ⟨rfl, _, _, _, cs'.drop 1, rfl, by omega, Lib.hid (by have := HC'.out; omega), by omega, Lib.hid (HSX.out), HNX, HOX⟩⟩
                    case measure => (simp [lenSl]) <;> omega
              · have hk0I : ((kf : Int) == 0) = false := by simp; omega
                obtain ⟨fx, nn, gone, hidx, efx, hwc, hng, hg1, hnk⟩ : ∃ fx nn gone : Nat, (∀ W, (Instr.index 114 (.agg #[.func (.func 117) #[] #[], .func (.func 118) #[] #[]]) (.int .i8 mode)).run Tryz.prog W = .ok (.func (.func fx) #[] #[]) W) ∧ (∀ args W, (callFunc fx args).run Tryz.prog W = .ok (.enter fx args) W) ∧
                    (∀ W, Below wr.heap.size wr W → Calls Tryz.prog fx #[.slice (some ⟨g', o', none⟩) n' c', .int .i64 kf] W (VRet (.tuple #[.int .i64 nn, .int .i64 gone]) W)) ∧ nn + gone = advS (decide (mode = 0)) w0 cs' ∧ gone ≤ 1 ∧ nn ≤ kf := by
                  rcases hme with rfl | rfl
                  · cases hlB : lastB cs' (kf + 1) with
                    | some j =>
                      refine ⟨117, j, 1, fun W => by kernel_rfl, fun _ _ => rfl, fun W hb => ?_, ?_, by omega, by have := (lastB_some hlB).1; omega⟩
                      · have := ways1_any (some ⟨g', o', none⟩) c' n' kf cs' W (hSW.below hb) (by omega) hkn fun x hx => (HO'.out x hx).1.2
                        unfold wayV at this; rw [hlB] at this; exact this
                      · unfold advS; simp only [hkf, if_neg hk0, decide_true, if_true, hlB]
                    | none =>
                      refine ⟨117, kf, 0, fun W => by kernel_rfl, fun _ _ => rfl, fun W hb => ?_, ?_, by omega, by omega⟩
                      · have := ways1_any (some ⟨g', o', none⟩) c' n' kf cs' W (hSW.below hb) (by omega) hkn fun x hx => (HO'.out x hx).1.2
                        unfold wayV at this; rw [hlB] at this; exact this
                      · unfold advS; simp only [hkf, if_neg hk0, decide_true, if_true, hlB]; omega
                  · refine ⟨118, kf, 0, fun W => by kernel_rfl, fun _ _ => rfl, fun W hb => ways2_any (some ⟨g', o', none⟩) c' n' kf W, ?_, by omega, by omega⟩
                    unfold advS; simp [hkf, if_neg hk0]
                have HWC := Lib.hid hwc
                have hadv := advS_pos (decide (mode = 0)) w0 cs'
                have HCN : Hid (lineR mode w0 cs' = 1 + lineR mode w0 (cs'.drop (nn + gone))) := Lib.hid (by
                  have e : lineR mode w0 (cs'.drop (nn + gone)) = cntR (decide (mode = 0)) w0 (cs'.drop (nn + gone)) := by unfold lineR; rw [if_neg hne2]
                  rw [HLR.out, e]
                  conv => lhs; unfold cntR
                  rw [dif_neg (by rw [htw]; omega), if_neg (by rw [hkf]; exact fun h => hk0 h.1), hng])
                have hng1 : 1 ≤ nn + gone := by rw [hng]; exact hadv
                have HSn := Lib.hid (hSW.take (k := nn) (by omega))
                have HJ2 : Hid (∀ W, Below wr.heap.size wr W → Calls Tryz.prog 78 #[.slice (some ⟨g', o', none⟩) nn c'] W (VBel (.string (mkS (joinB (cs'.take nn)))) W)) := Lib.hid fun W hb => join_any (some ⟨g', o', none⟩) c' nn _ W (HSn.out.below hb) (by omega) fun x hx => (HO'.out x (List.mem_of_mem_take hx)).2
                have HW2 : Hid (∀ W, Below wr.heap.size wr W → Calls Tryz.prog 77 #[.slice (some ⟨g', o', none⟩) nn c'] W (VBel (.int .i64 (wideS (cs'.take nn))) W)) := Lib.hid fun W hb => wide_any (some ⟨g', o', none⟩) c' nn _ W (HSn.out.below hb) (by omega) fun x hx => (HO'.out x (List.mem_of_mem_take hx)).1.1
                clear hSW hwc hadv hng hme hfin hne2 htw hkf hk0 HJN
                go_upto_region 26 with (first | (go_at_call 77; ((with_reducible refine HWD.out.mono ?_); rintro e1' w3 ⟨rfl, hb3⟩; have hz3 := hb3.size)) | (go_at_call 79; ((with_reducible refine (HFT.out _ hb3).mono ?_); rintro e2' w4 ⟨rfl, hb4⟩; have hz4 := hb4.size)) | (go_at_call 81; ((with_reducible refine (ways_any _).mono ?_); rintro e3' w5 ⟨rfl, hb5⟩; have hz5 := hb5.size)) | ((with_reducible refine (HWC.out _ (hb3.trans ((hb4.mono hz3).trans (hb5.mono (Nat.le_trans hz3 hz4))))).mono ?_); rintro e4' w6 ⟨rfl, rfl⟩))
                have hB5 : Below wr.heap.size wr w6 := hb3.trans ((hb4.mono hz3).trans (hb5.mono (Nat.le_trans hz3 hz4)))
                have HB5 := Lib.hid hB5
                have S0 : SW w6 w6 := Below.refl _ _
                have hnc2 : nn ≤ c' := by omega
                have hnc3 : (nn : Int) ≤ (c' : Int) := by omega
                have hnc4 : (0 : Int) ≤ (nn : Int) := by omega
                go_cut [18] (LineCut w6)
                case first =>
                  go_region_held3 (fun w' => SW w6 w')
                    (((try refine Below.drew ?_); (first | assumption | (refine SW.set4 (by assumption) ?_ _ _ _ _; first | exact Nat.le_refl _ | omega) | (refine SW.below ?_ hb7; assumption) | (refine SW.below ?_ hb8; assumption) | (refine SW.alloc' ?_ _; assumption) | (refine SW.alloc' (SW.below ?_ hb8) _; assumption) | (refine SW.alloc' (SW.below ?_ hb7) _; assumption) | (refine SW.alloc' (SW.below (SW.below ?_ hb7) hb8) _; assumption) | (refine SW.alloc' (SW.below (SW.below ?_ hb8) hb7) _; assumption) | (refine SW.set' ?_ ?_ _; assumption; (simp; omega)) | (refine Below.drew ?_; assumption))))
                    (first | (go_at_call 78; ((with_reducible refine (HJ2.out _ (HB5.out.trans ((by assumption : SW w6 _).mono HB5.out.size))).mono ?_); rintro e5' w7 ⟨rfl, hb7⟩; have hS7 : SW w6 w7 := SW.below (by assumption) hb7; have hs7 := hS7.size; obtain ⟨hc7, hf7⟩ := bcell hb7; have hz7 := hb7.size; (try simp at hz7); (try have hl7 : w6.heap.size < w7.heap.size := (by have h9 := hb7.size; simp at h9; omega)))) | (go_at_call 77; ((with_reducible refine (HW2.out _ (HB5.out.trans ((by assumption : SW w6 _).mono HB5.out.size))).mono ?_); rintro e6' w8 ⟨rfl, hb8⟩; have hS8 : SW w6 w8 := SW.below (by assumption) hb8; have hs8 := hS8.size; obtain ⟨hc8, hf8⟩ := bcell hb8; have hz8 := hb8.size; (try simp at hz8); (try have hl8 : w6.heap.size < w8.heap.size := (by have h9 := hb8.size; simp at h9; omega)))))
                  all_goals
                    go_wp2_with fail
                    go_meet
                    refine ⟨_, mkS (joinB (cs'.take nn)), ⟨#[]⟩, wideS (cs'.take nn), rfl, ?_, ?_, ?_, ?_, ?_, ?_, ?_, (by assumption)⟩
                    · first | exact Nat.le_refl _ | omega
                    · first | omega | (simp; done) | (simp; omega)
                    · go_simp
                    · go_simp
                    · go_simp
                    · go_simp
                    · go_simp
                case rest =>
                  obtain ⟨Bx, t1, t2, q, rfl, hX1, hX2, k0, k1, k2, k3, kf2, hbX⟩ := hcut
                  have HBX := Lib.hid hbX
                  have hwx : wr.heap.size ≤ Bx := Nat.le_trans HB5.out.size hX1
                  have hwz : wr.heap.size ≤ wc.heap.size := Nat.le_trans HB5.out.size hbX.size
                  have HROW : Hid (wc.ownsRow w2.heap.size 109 4 u7 m ys) := Lib.hid (orow_belowSize (orow_belowSize HY.out HB5.out) hbX)
                  have hm1 : m + 1 ≤ 4000001 := by have h1 := HM'.out; have h3 := HNB.out; rw [HCN.out] at h1; omega
                  have hkk : nn + gone ≤ n' := by omega
                  have HNX : Hid (m + 1 + lineR mode w0 (cs'.drop (nn + gone)) = linesN mode w0 (rs.take (k + 1))) := Lib.hid (by have h1 := HM'.out; rw [HCN.out] at h1; omega)
                  have HOX : Hid (∀ x ∈ cs'.drop (nn + gone), okC x ∧ x.1.length ≤ 64) := Lib.hid fun x hx => HO'.out x (List.mem_of_mem_drop hx)
                  have HBW : Hid (Below w2.heap.size w2 wc) := Lib.hid ((HB3.out.trans (HB5.out.mono HB3.out.size)).trans (hbX.mono (Nat.le_trans HB3.out.size HB5.out.size)))
                  have hw2x : w2.heap.size ≤ Bx := Nat.le_trans HB3.out.size hwx
                  have hw2c : w2.heap.size ≤ wc.heap.size := HBW.out.size
                  have HRS2 : Hid ((wc.setCell ⟨Bx, 2, none⟩ (.int .i8 2)).ownsRow w2.heap.size 109 4 u7 m ys) := Lib.hid (ownsRow_setCell_other HROW.out (a := ⟨Bx, 2, none⟩) (fun e => by have h9 : Bx < wr.heap.size := (World.ownsRow.lt HY.out _ e).2; omega) _)
                  clear hbX hb3 hb4 hb5 hB5 S0
                  by_cases hcc : c' = nn + gone
                  · have HSX : Hid (∀ (A : Option Addr) (x : Nat), x = 0 → SeeC w2 A x (cs'.drop (nn + gone))) := Lib.hid (by
                      rintro A x rfl
                      exact ⟨by rw [List.length_drop, HS'.out.1]; omega, fun h => absurd h (Nat.lt_irrefl 0)⟩)
                    by_cases hg0 : gone = 0
                    · exfalso; omega
                    · have hgI : (0 : Int) < (gone : Int) := by omega
                      clear hg0
                      go_wp2_with ((with_reducible apply wpList_append_new elL (B := w2.heap.size) (n := m) (xs := ys) (nw := #[.string t1, .int .i64 q, .int .i8 2, .string t2])); exact rfl; exact rfl; (first | exact rfl | simp); exact HRS2.out; (simp; omega); omega; exact rfl; (intro u hu; simp at hu; rcases hu with rfl | rfl | rfl | rfl <;> rfl); intro v' w9 hrow9 hgr9 hpl9 K hK; have HR9 := Lib.hid hrow9; clear hrow9)
                      go_roundw
                      case rel =>
                        refine ⟨m + 1, _, HR9, Lib.hid (((HBW.out.setCell (p := ⟨Bx, 2, none⟩) hw2x _).alloc (by simp; omega) _).grown hgr9 (by simp; omega) (fun k e => (World.ownsRow.lt HY.out k e).1)), by omega, .inl ⟨rfl, _, _, _, cs'.drop (nn + gone), rfl, by omega, Lib.hid (by have := HC'.out; omega), by omega, Lib.hid (HSX.out _ _ (by omega)), HNX, HOX⟩⟩
                      case measure => (simp [lenSl]) <;> omega
                  · have hcc' : ¬ nn + gone = c' := fun h => hcc h.symm
                    have HSX : Hid (SeeC w2 (some ⟨g', o' + (nn + gone) * 2, none⟩) (n' - (nn + gone)) (cs'.drop (nn + gone))) := Lib.hid (by
                      have h1 := HS'.out.cut (c := c') hnc (k := nn + gone) (m := n' - (nn + gone)) (by omega)
                      rw [if_neg hcc, Option.map_some, addr_add, List.take_of_length_le (by rw [List.length_drop, HS'.out.1]; exact Nat.le_refl _)] at h1
                      exact h1)
                    by_cases hg0 : gone = 0
                    · have hgI : ¬ (0 : Int) < (gone : Int) := by omega
                      clear hg0
                      go_wp2_with ((with_reducible apply wpList_append_new elL (B := w2.heap.size) (n := m) (xs := ys) (nw := #[.string t1, .int .i64 q, .int .i8 3, .string t2])); exact rfl; exact rfl; (first | exact rfl | simp); exact HROW.out; exact hw2c; omega; exact rfl; (intro u hu; simp at hu; rcases hu with rfl | rfl | rfl | rfl <;> rfl); intro v' w9 hrow9 hgr9 hpl9 K hK; have HR9 := Lib.hid hrow9; clear hrow9)
                      go_roundw
                      case rel =>
                        refine ⟨m + 1, _, HR9, Lib.hid ((HBW.out.alloc hw2c _).grown hgr9 (by simp; omega) (fun k e => (World.ownsRow.lt HY.out k e).1)), by omega, .inl ⟨rfl, _, _, _, cs'.drop (nn + gone), rfl, by omega, Lib.hid (by have := HC'.out; omega), by omega, Lib.hid (HSX.out), HNX, HOX⟩⟩
                      case measure => (simp [lenSl]) <;> omega
                    · have hgI : (0 : Int) < (gone : Int) := by omega
                      clear hg0
                      go_wp2_with ((with_reducible apply wpList_append_new elL (B := w2.heap.size) (n := m) (xs := ys) (nw := #[.string t1, .int .i64 q, .int .i8 2, .string t2])); exact rfl; exact rfl; (first | exact rfl | simp); exact HRS2.out; (simp; omega); omega; exact rfl; (intro u hu; simp at hu; rcases hu with rfl | rfl | rfl | rfl <;> rfl); intro v' w9 hrow9 hgr9 hpl9 K hK; have HR9 := Lib.hid hrow9; clear hrow9)
                      go_roundw
                      case rel =>
                        refine ⟨m + 1, _, HR9, Lib.hid (((HBW.out.setCell (p := ⟨Bx, 2, none⟩) hw2x _).alloc (by simp; omega) _).grown hgr9 (by simp; omega) (fun k e => (World.ownsRow.lt HY.out k e).1)), by omega, .inl ⟨rfl, _, _, _, cs'.drop (nn + gone), rfl, by omega, Lib.hid (by have := HC'.out; omega), by omega, Lib.hid (HSX.out), HNX, HOX⟩⟩
                      case measure => (simp [lenSl]) <;> omega
          · go_wp2
            go_roundw
            case rel => exact ⟨k + 1, ys, by go_num, by rw [HNN.out]; omega, HY, HB3⟩
            case measure => simp [intOf]; omega
    · obtain rfl : k = N := by omega
      have HT : Hid (rs.take k = rs) := Lib.hid (List.take_of_length_le (by rw [HNN.out]; exact Nat.le_refl _))
      have HR' := HR
      rw [HT.out] at HR'
      clear HR
      go_wp2
      go_ret
      refine ⟨_, xs, rfl, (HB1.out.trans (HB2.out.mono HB1.out.size)).trans (HBE.out.mono (Nat.le_trans HB1.out.size HB2.out.size)), ?_⟩
      rw [HRSS.out]
      exact orow_le HR'.out (Nat.le_trans HB1.out.size HB2.out.size)
end Go.Proofs.YthhomflonpjbmaaGreatDoor
/-
  The walks of wrap.Count and wrap.Most: how many lines, and how wide the widest.
-/
namespace Go.Proofs.YthhomflonpjbmaaGreatDoor
open Go.RowKit
set_option maxRecDepth 100000 in
theorem lines_zero (s : ByteArray) (x mode : Int) (hx : x < 1) (w : World) : Calls Tryz.prog 27 #[.string s, .int .i64 x, .int .i8 mode] w (VRet (.slice none 0 0) w) := by
  go_enter Tryz.func27, Tryz.ntmps27
  go_wp2
  go_ret
  exact ⟨rfl, rfl⟩
set_option maxRecDepth 100000 in
theorem count_zero (s : ByteArray) (x mode : Int) (hx : x < 1) (w : World) : Calls Tryz.prog 13 #[.string s, .int .i64 x, .int .i8 mode] w (VRet (.int .i64 0) w) := by
  have HL := Lib.hid (lines_zero s x mode hx w)
  go_enter Tryz.func13, Tryz.ntmps13
  go_wp2_with (go_at_call 27; ((with_reducible refine HL.out.mono ?_); rintro e w1 ⟨rfl, rfl⟩))
  go_ret
  exact ⟨rfl, rfl⟩
set_option maxRecDepth 100000 in
theorem count_any (s : ByteArray) (w0 : Nat) (mode : Int) (hm : mode = 0 ∨ mode = 1 ∨ mode = 2) (h1 : 1 ≤ w0) (h2 : w0 ≤ 1000000) (hs : s.size ≤ 1000000) (w : World) :
    Calls Tryz.prog 13 #[.string s, .int .i64 w0, .int .i8 mode] w (VBel (.int .i64 (linesN mode w0 (rowsS (flowS s.data.toList)))) w) := by
  obtain ⟨n, hn⟩ : ∃ n, linesN mode w0 (rowsS (flowS s.data.toList)) = n := ⟨_, rfl⟩
  have HL := Lib.hid (lines_any s w0 mode hm h1 h2 hs w)
  rw [hn] at HL ⊢
  clear hn hm
  go_enter Tryz.func13, Tryz.ntmps13
  go_wp2_with (go_at_call 27; ((with_reducible refine HL.out.mono ?_); rintro e w1 ⟨v, xs, rfl, hb1, hrow⟩; obtain ⟨A, c, rfl, hc1, hc2, hA⟩ := slice_form2 hrow; clear hA hrow))
  go_ret
  exact ⟨rfl, hb1⟩
set_option maxRecDepth 100000 in
theorem most_any (s : ByteArray) (hs : s.size ≤ 10000000) (w : World) : Calls Tryz.prog 15 #[.string s] w (VBel (.int .i64 (leastS 2 (flowS s.data.toList))) w) := by
  obtain ⟨n, hn⟩ : ∃ n, leastS 2 (flowS s.data.toList) = n := ⟨_, rfl⟩
  have HL := Lib.hid (least_any s 2 hs w)
  rw [hn] at HL ⊢
  clear hn
  go_enter Tryz.func15, Tryz.ntmps15
  go_wp2_with (go_at_call 14; ((with_reducible refine HL.out.mono ?_); rintro e w1 ⟨rfl, hb1⟩))
  go_ret
  exact ⟨rfl, hb1⟩
end Go.Proofs.YthhomflonpjbmaaGreatDoor
/-
  The walks of tree's small tests: leaf, from, solve.Right at the zero item, tint.Right at no colour.
-/
namespace Go.Proofs.YthhomflonpjbmaaGreatDoor
open Go.RowKit
set_option maxRecDepth 100000 in
theorem leaf_text (w : World) : Calls Tryz.prog 32 #[.int .i8 1] w (VRet (.bool true) w) := by
  go_enter Tryz.func32, Tryz.ntmps32
  go_wp2
  go_ret
  exact ⟨rfl, rfl⟩
set_option maxRecDepth 100000 in
theorem leaf_row (w : World) : Calls Tryz.prog 32 #[.int .i8 2] w (VRet (.bool false) w) := by
  go_enter Tryz.func32, Tryz.ntmps32
  go_wp2
  go_ret
  exact ⟨rfl, rfl⟩
set_option maxRecDepth 100000 in
theorem from_any (a b : Int) (w : World) : Calls Tryz.prog 92 #[.int .i64 a, .int .i64 b] w (VRet (.bool (decide (0 ≤ a) && decide (a ≤ b))) w) := by
  by_cases h : 0 ≤ a
  · by_cases h2 : a ≤ b
    · have e1 : decide (0 ≤ a) = true := by simp [h]
      have e2 : decide (a ≤ b) = true := by simp [h2]
      go_enter Tryz.func92, Tryz.ntmps92
      go_wp2
      go_ret
      first | exact ⟨rfl, rfl⟩ | exact ⟨by simp [h, h2], rfl⟩
    · have e1 : decide (0 ≤ a) = true := by simp [h]
      have e2 : decide (a ≤ b) = false := by simp [h2]
      go_enter Tryz.func92, Tryz.ntmps92
      go_wp2
      go_ret
      first | exact ⟨rfl, rfl⟩ | exact ⟨by simp [h, h2], rfl⟩
  · have e1 : decide (0 ≤ a) = false := by simp [h]
    go_enter Tryz.func92, Tryz.ntmps92
    go_wp2
    go_ret
    first | exact ⟨rfl, rfl⟩ | exact ⟨by simp [h], rfl⟩
set_option maxRecDepth 100000 in
theorem tint_none (w : World) : Calls Tryz.prog 93 #[.int .i32 0] w (VRet (.bool true) w) := by
  go_enter Tryz.func93, Tryz.ntmps93
  go_wp2
  go_ret
  exact ⟨rfl, rfl⟩
set_option maxRecDepth 100000 in
theorem right_zero (w : World) : Calls Tryz.prog 91 #[.agg #[.int .i8 0, .int .i64 0, .int .i64 0, .int .i64 0, .int .i64 0]] w (VBel (.bool true) w) := by
  go_enter Tryz.func91, Tryz.ntmps91
  go_wp2
  go_ret
  refine ⟨rfl, ?_⟩
  go_split_ands
  (repeat (first | exact Below.refl _ _ | assumption | refine below_drewN ?_ _ | refine Below.drew ?_ | (refine Below.alloc ?_ ?bs _; (case bs => first | omega | (simp; done) | (simp; omega))) | (refine Below.setCell ?_ ?bs _; (case bs => first | omega | (simp; done) | (simp; omega)))))
end Go.Proofs.YthhomflonpjbmaaGreatDoor
/-
  A node in memory, and the walk of tree.fields at it.
-/
namespace Go.Proofs.YthhomflonpjbmaaGreatDoor
open Go.RowKit
/-- A node at this place: a kind, kids, a gap, paddings, a border, a text, a way to wrap; no name, no class, no columns, all else zero. -/
structure NodeAt (w : World) (g o : Nat) (kd : Int) (kids : Value) (gap p0 p1 p2 p3 bd md : Int) (t : ByteArray) : Prop where
  kd : w.cell? ⟨g, o, none⟩ = some (.int .i8 kd)
  id : w.cell? ⟨g, o + 1, none⟩ = some (.string ⟨#[]⟩)
  cl : w.cell? ⟨g, o + 2, none⟩ = some (.string ⟨#[]⟩)
  kids : w.cell? ⟨g, o + 3, none⟩ = some kids
  w0 : w.cell? ⟨g, o + 4, none⟩ = some (.int .i8 0)
  w1 : w.cell? ⟨g, o + 5, none⟩ = some (.int .i64 0)
  w2 : w.cell? ⟨g, o + 6, none⟩ = some (.int .i64 0)
  w3 : w.cell? ⟨g, o + 7, none⟩ = some (.int .i64 0)
  w4 : w.cell? ⟨g, o + 8, none⟩ = some (.int .i64 0)
  h0 : w.cell? ⟨g, o + 9, none⟩ = some (.int .i8 0)
  h1 : w.cell? ⟨g, o + 10, none⟩ = some (.int .i64 0)
  h2 : w.cell? ⟨g, o + 11, none⟩ = some (.int .i64 0)
  h3 : w.cell? ⟨g, o + 12, none⟩ = some (.int .i64 0)
  h4 : w.cell? ⟨g, o + 13, none⟩ = some (.int .i64 0)
  gap : w.cell? ⟨g, o + 14, none⟩ = some (.int .i64 gap)
  p0 : w.cell? ⟨g, o + 15, none⟩ = some (.int .i64 p0)
  p1 : w.cell? ⟨g, o + 16, none⟩ = some (.int .i64 p1)
  p2 : w.cell? ⟨g, o + 17, none⟩ = some (.int .i64 p2)
  p3 : w.cell? ⟨g, o + 18, none⟩ = some (.int .i64 p3)
  bd : w.cell? ⟨g, o + 19, none⟩ = some (.int .i8 bd)
  al : w.cell? ⟨g, o + 20, none⟩ = some (.int .i8 0)
  cr : w.cell? ⟨g, o + 21, none⟩ = some (.int .i8 0)
  tx : w.cell? ⟨g, o + 22, none⟩ = some (.string t)
  md : w.cell? ⟨g, o + 23, none⟩ = some (.int .i8 md)
  fg : w.cell? ⟨g, o + 24, none⟩ = some (.int .i32 0)
  bg : w.cell? ⟨g, o + 25, none⟩ = some (.int .i32 0)
  ad : w.cell? ⟨g, o + 26, none⟩ = some (.int .u8 0)
  dr : w.cell? ⟨g, o + 27, none⟩ = some (.int .u8 0)
  cols : w.cell? ⟨g, o + 28, none⟩ = some (.slice none 0 0)
  x0 : w.cell? ⟨g, o + 29, none⟩ = some (.int .i64 0)
  x1 : w.cell? ⟨g, o + 30, none⟩ = some (.int .i64 0)
  x2 : w.cell? ⟨g, o + 31, none⟩ = some (.int .i64 0)
  x3 : w.cell? ⟨g, o + 32, none⟩ = some (.int .i64 0)
  fl : w.cell? ⟨g, o + 33, none⟩ = some (.int .u8 0)
theorem NodeAt.below {w w' : World} {g o B : Nat} {kd : Int} {kids : Value} {gap p0 p1 p2 p3 bd md : Int} {t : ByteArray} (h : NodeAt w g o kd kids gap p0 p1 p2 p3 bd md t) (hb : Below B w w') (hg : g < B) : NodeAt w' g o kd kids gap p0 p1 p2 p3 bd md t := by
  have e : ∀ (q : Nat), w'.cell? ⟨g, q, none⟩ = w.cell? ⟨g, q, none⟩ := fun q => hb.cell (p := ⟨g, q, none⟩) hg
  obtain ⟨a1, a2, a3, a4, a5, a6, a7, a8, a9, a10, a11, a12, a13, a14, a15, a16, a17, a18, a19, a20, a21, a22, a23, a24, a25, a26, a27, a28, a29, a30, a31, a32, a33, a34⟩ := h
  constructor <;> (rw [e]; assumption)
/-- What a measure reads of a node at this place. -/
structure NodeIn (w : World) (g o : Nat) (kd : Int) (kids : Value) (gap p0 p1 p2 p3 bd md : Int) (t : ByteArray) : Prop where
  kd : w.cell? ⟨g, o, none⟩ = some (.int .i8 kd)
  kids : w.cell? ⟨g, o + 3, none⟩ = some kids
  w0 : w.cell? ⟨g, o + 4, none⟩ = some (.int .i8 0)
  w1 : w.cell? ⟨g, o + 5, none⟩ = some (.int .i64 0)
  w2 : w.cell? ⟨g, o + 6, none⟩ = some (.int .i64 0)
  w3 : w.cell? ⟨g, o + 7, none⟩ = some (.int .i64 0)
  w4 : w.cell? ⟨g, o + 8, none⟩ = some (.int .i64 0)
  h0 : w.cell? ⟨g, o + 9, none⟩ = some (.int .i8 0)
  h1 : w.cell? ⟨g, o + 10, none⟩ = some (.int .i64 0)
  h2 : w.cell? ⟨g, o + 11, none⟩ = some (.int .i64 0)
  h3 : w.cell? ⟨g, o + 12, none⟩ = some (.int .i64 0)
  h4 : w.cell? ⟨g, o + 13, none⟩ = some (.int .i64 0)
  gap : w.cell? ⟨g, o + 14, none⟩ = some (.int .i64 gap)
  p0 : w.cell? ⟨g, o + 15, none⟩ = some (.int .i64 p0)
  p1 : w.cell? ⟨g, o + 16, none⟩ = some (.int .i64 p1)
  p2 : w.cell? ⟨g, o + 17, none⟩ = some (.int .i64 p2)
  p3 : w.cell? ⟨g, o + 18, none⟩ = some (.int .i64 p3)
  bd : w.cell? ⟨g, o + 19, none⟩ = some (.int .i8 bd)
  tx : w.cell? ⟨g, o + 22, none⟩ = some (.string t)
  md : w.cell? ⟨g, o + 23, none⟩ = some (.int .i8 md)
theorem NodeAt.inn {w : World} {g o : Nat} {kd : Int} {kids : Value} {gap p0 p1 p2 p3 bd md : Int} {t : ByteArray} (h : NodeAt w g o kd kids gap p0 p1 p2 p3 bd md t) : NodeIn w g o kd kids gap p0 p1 p2 p3 bd md t :=
  ⟨h.kd, h.kids, h.w0, h.w1, h.w2, h.w3, h.w4, h.h0, h.h1, h.h2, h.h3, h.h4, h.gap, h.p0, h.p1, h.p2, h.p3, h.bd, h.tx, h.md⟩
theorem NodeIn.of_eq {w w' : World} {g o : Nat} {kd : Int} {kids : Value} {gap p0 p1 p2 p3 bd md : Int} {t : ByteArray} (h : NodeIn w g o kd kids gap p0 p1 p2 p3 bd md t) (e : ∀ (q : Nat), w'.cell? ⟨g, q, none⟩ = w.cell? ⟨g, q, none⟩) : NodeIn w' g o kd kids gap p0 p1 p2 p3 bd md t := by
  obtain ⟨a1, a2, a3, a4, a5, a6, a7, a8, a9, a10, a11, a12, a13, a14, a15, a16, a17, a18, a19, a20⟩ := h
  constructor <;> (rw [e]; assumption)
theorem NodeIn.below {w w' : World} {g o B : Nat} {kd : Int} {kids : Value} {gap p0 p1 p2 p3 bd md : Int} {t : ByteArray} (h : NodeIn w g o kd kids gap p0 p1 p2 p3 bd md t) (hb : Below B w w') (hg : g < B) : NodeIn w' g o kd kids gap p0 p1 p2 p3 bd md t :=
  h.of_eq fun q => hb.cell (p := ⟨g, q, none⟩) hg
theorem NodeIn.lt {w : World} {g o : Nat} {kd : Int} {kids : Value} {gap p0 p1 p2 p3 bd md : Int} {t : ByteArray} (h : NodeIn w g o kd kids gap p0 p1 p2 p3 bd md t) : g < w.heap.size := World.block_lt_of_cell? w ⟨g, o, none⟩ h.kd
theorem NodeIn.grown {w w' : World} {g o : Nat} {row : Option Nat} {kd : Int} {kids : Value} {gap p0 p1 p2 p3 bd md : Int} {t : ByteArray} (h : NodeIn w g o kd kids gap p0 p1 p2 p3 bd md t) (hg : w.grownBy w' row) (hne : some g ≠ row) : NodeIn w' g o kd kids gap p0 p1 p2 p3 bd md t :=
  h.of_eq fun q => World.cell?_of_block (a := ⟨g, q, none⟩) (hg.block g h.lt hne)
set_option maxRecDepth 100000 in
set_option maxHeartbeats 4000000 in
theorem fields_any (w : World) (g o : Nat) (kd : Int) (kids : Value) (gap p0 p1 p2 p3 bd md : Int) (t : ByteArray) (h : NodeAt w g o kd kids gap p0 p1 p2 p3 bd md t)
    (hp0 : 0 ≤ p0 ∧ p0 ≤ 4096) (hp1 : 0 ≤ p1 ∧ p1 ≤ 4096) (hp2 : 0 ≤ p2 ∧ p2 ≤ 4096) (hp3 : 0 ≤ p3 ∧ p3 ≤ 4096) (hgp : 0 ≤ gap ∧ gap ≤ 4096) (hbd : 0 ≤ bd ∧ bd ≤ 4) (hmd : -128 ≤ md ∧ md ≤ 127) :
    Calls Tryz.prog 34 #[.pointer (some ⟨g, o, none⟩)] w (VRet (.bool (decide (0 ≤ md) && decide (md ≤ 2))) w) := by
  obtain ⟨a1, a2, a3, a4, a5, a6, a7, a8, a9, a10, a11, a12, a13, a14, a15, a16, a17, a18, a19, a20, a21, a22, a23, a24, a25, a26, a27, a28, a29, a30, a31, a32, a33, a34⟩ := h
  have F0 : ∀ W, Calls Tryz.prog 92 #[.int .i64 p0, .int .i64 4096] W (VRet (.bool true) W) := fun W => by have := from_any p0 4096 W; simpa [hp0.1, hp0.2] using this
  have F1 : ∀ W, Calls Tryz.prog 92 #[.int .i64 p1, .int .i64 4096] W (VRet (.bool true) W) := fun W => by have := from_any p1 4096 W; simpa [hp1.1, hp1.2] using this
  have F2 : ∀ W, Calls Tryz.prog 92 #[.int .i64 p2, .int .i64 4096] W (VRet (.bool true) W) := fun W => by have := from_any p2 4096 W; simpa [hp2.1, hp2.2] using this
  have F3 : ∀ W, Calls Tryz.prog 92 #[.int .i64 p3, .int .i64 4096] W (VRet (.bool true) W) := fun W => by have := from_any p3 4096 W; simpa [hp3.1, hp3.2] using this
  have F4 : ∀ W, Calls Tryz.prog 92 #[.int .i64 gap, .int .i64 4096] W (VRet (.bool true) W) := fun W => by have := from_any gap 4096 W; simpa [hgp.1, hgp.2] using this
  have F5 : ∀ W, Calls Tryz.prog 92 #[.int .i64 bd, .int .i64 4] W (VRet (.bool true) W) := fun W => by have := from_any bd 4 W; simpa [hbd.1, hbd.2] using this
  have F6 : ∀ W, Calls Tryz.prog 92 #[.int .i64 0, .int .i64 5] W (VRet (.bool true) W) := fun W => by have := from_any 0 5 W; simpa using this
  have F7 : ∀ W, Calls Tryz.prog 92 #[.int .i64 md, .int .i64 2] W (VRet (.bool (decide (0 ≤ md) && decide (md ≤ 2))) W) := fun W => from_any md 2 W
  generalize hr : (decide (0 ≤ md) && decide (md ≤ 2)) = r at F7 ⊢
  have H0 := Lib.hid F0
  have H1 := Lib.hid F1
  have H2 := Lib.hid F2
  have H3 := Lib.hid F3
  have H4 := Lib.hid F4
  have H5 := Lib.hid F5
  have H6 := Lib.hid F6
  have H7 := Lib.hid F7
  clear F0 F1 F2 F3 F4 F5 F6 F7 hr hp0 hp1 hp2 hp3 hgp
  cases r with
  | true =>
    go_enter Tryz.func34, Tryz.ntmps34
    go_wp2
    refine wp_loop_rounds 5 ?_
    repeat any_goals (rw [rounds_succ]; go_wp2_with (go_at_call 92; ((with_reducible first | refine (H0.out _).mono ?_ | refine (H1.out _).mono ?_ | refine (H2.out _).mono ?_ | refine (H3.out _).mono ?_); rintro e w1 ⟨rfl, rfl⟩)))
    go_wp2_with (first | (go_at_call 92; ((with_reducible first | refine (H4.out _).mono ?_ | refine (H5.out _).mono ?_ | refine (H6.out _).mono ?_ | refine (H7.out _).mono ?_); rintro e w1 ⟨rfl, rfl⟩)) | (go_at_call 93; ((with_reducible refine (tint_none _).mono ?_); rintro e w1 ⟨rfl, rfl⟩)))
    go_ret
    exact ⟨rfl, rfl⟩
  | false =>
    go_enter Tryz.func34, Tryz.ntmps34
    go_wp2
    refine wp_loop_rounds 5 ?_
    repeat any_goals (rw [rounds_succ]; go_wp2_with (go_at_call 92; ((with_reducible first | refine (H0.out _).mono ?_ | refine (H1.out _).mono ?_ | refine (H2.out _).mono ?_ | refine (H3.out _).mono ?_); rintro e w1 ⟨rfl, rfl⟩)))
    go_wp2_with (first | (go_at_call 92; ((with_reducible first | refine (H4.out _).mono ?_ | refine (H5.out _).mono ?_ | refine (H6.out _).mono ?_ | refine (H7.out _).mono ?_); rintro e w1 ⟨rfl, rfl⟩)) | (go_at_call 93; ((with_reducible refine (tint_none _).mono ?_); rintro e w1 ⟨rfl, rfl⟩)))
    go_ret
    exact ⟨rfl, rfl⟩
end Go.Proofs.YthhomflonpjbmaaGreatDoor
/-
  The walk of tree.items at a node without columns.
-/
namespace Go.Proofs.YthhomflonpjbmaaGreatDoor
open Go.RowKit
set_option maxRecDepth 100000 in
set_option maxHeartbeats 4000000 in
theorem items_any (w : World) (g o : Nat) (kd : Int) (kids : Value) (gap p0 p1 p2 p3 bd md : Int) (t : ByteArray) (h : NodeAt w g o kd kids gap p0 p1 p2 p3 bd md t) (hg : g < w.heap.size) (hk : kd = 1 ∨ kd = 2) :
    Calls Tryz.prog 33 #[.pointer (some ⟨g, o, none⟩)] w (VBel (.bool true) w) := by
  have HN := Lib.hid h
  obtain ⟨a1, a2, a3, a4, a5, a6, a7, a8, a9, a10, a11, a12, a13, a14, a15, a16, a17, a18, a19, a20, a21, a22, a23, a24, a25, a26, a27, a28, a29, a30, a31, a32, a33, a34⟩ := h
  clear a2 a3 a4 a15 a16 a17 a18 a19 a20 a21 a22 a23 a24 a25 a26 a27 a28 a30 a31 a32 a33 a34
  rcases hk with rfl | rfl
  · go_enter Tryz.func33, Tryz.ntmps33
    go_wp2_with (go_at_call 91; ((with_reducible refine (right_zero _).mono ?_); (first | (rintro e1' w2 ⟨rfl, hb2⟩; obtain ⟨hc2, hf2⟩ := bcell hb2; have hz2 := hb2.size; have hg2 : g < w2.heap.size := (by omega)) | skip)))
    refine wp_loop_rounds 1 ?_
    repeat any_goals (rw [rounds_succ]; go_wp2)
    go_wp2
    go_ret
    refine ⟨rfl, Below.trans ?_ (hb2.mono ?_)⟩
    · assumption
    · omega
  · go_enter Tryz.func33, Tryz.ntmps33
    go_wp2_with (go_at_call 91; ((with_reducible refine (right_zero _).mono ?_); (first | (rintro e1' w2 ⟨rfl, hb2⟩; obtain ⟨hc2, hf2⟩ := bcell hb2; have hz2 := hb2.size; have hg2 : g < w2.heap.size := (by omega)) | skip)))
    refine wp_loop_rounds 1 ?_
    repeat any_goals (rw [rounds_succ]; go_wp2)
    go_wp2
    go_ret
    refine ⟨rfl, Below.trans ?_ (hb2.mono ?_)⟩
    · assumption
    · omega
end Go.Proofs.YthhomflonpjbmaaGreatDoor
/-
  The walk of tree.Check at a tree of one node.
-/
namespace Go.Proofs.YthhomflonpjbmaaGreatDoor
open Go.RowKit
def ChkCut (w : World) (g o c : Nat) (s1 s4 s5 s6 : Value) (W : World) : Prop :=
  ∃ b1 b4 b5 m : Nat, s1 = .pointer (some ⟨b1, 0, none⟩) ∧ s4 = .slice (some ⟨b4, 0, none⟩) 1 1 ∧ s5 = .slice (some ⟨b5, 0, none⟩) 1 1 ∧ s6 = .map (some m) ∧
    W.cell? ⟨b1, 0, none⟩ = some (.slice (some ⟨g, o, none⟩) 1 c) ∧ W.cell? ⟨b4, 0, none⟩ = some (.bool false) ∧ W.cell? ⟨b5, 0, none⟩ = some (.int .i64 0) ∧
    b1 < W.heap.size ∧ b4 < W.heap.size ∧ b5 < W.heap.size ∧ Below w.heap.size w W
set_option maxRecDepth 100000 in
set_option maxHeartbeats 4000000 in
theorem check_one (w : World) (g o c : Nat) (gap p0 p1 p2 p3 bd md : Int) (t : ByteArray) (h : NodeAt w g o 1 (.slice none 0 0) gap p0 p1 p2 p3 bd md t) (hg : g < w.heap.size)
    (hp0 : 0 ≤ p0 ∧ p0 ≤ 4096) (hp1 : 0 ≤ p1 ∧ p1 ≤ 4096) (hp2 : 0 ≤ p2 ∧ p2 ≤ 4096) (hp3 : 0 ≤ p3 ∧ p3 ≤ 4096) (hgp : 0 ≤ gap ∧ gap ≤ 4096) (hbd : 0 ≤ bd ∧ bd ≤ 4) (hmd : 0 ≤ md ∧ md ≤ 2) (ht : (t.size : Int) ≤ 65536) :
    Calls Tryz.prog 19 #[.agg #[.slice (some ⟨g, o, none⟩) 1 c]] w (VBel (.tuple #[.int .i64 0, .int .i64 0]) w) := by
  have HN := Lib.hid h
  have HI : Hid (∀ W, Below w.heap.size w W → Calls Tryz.prog 33 #[.pointer (some ⟨g, o, none⟩)] W (VBel (.bool true) W)) := Lib.hid fun W hb => items_any W g o 1 _ _ _ _ _ _ _ _ t (h.below hb hg) (Nat.lt_of_lt_of_le hg hb.size) (.inl rfl)
  have HF : Hid (∀ W, Below w.heap.size w W → Calls Tryz.prog 34 #[.pointer (some ⟨g, o, none⟩)] W (VRet (.bool true) W)) := Lib.hid fun W hb => by
    have := fields_any W g o 1 _ _ _ _ _ _ _ _ t (h.below hb hg) hp0 hp1 hp2 hp3 hgp hbd ⟨by omega, by omega⟩
    simpa [hmd.1, hmd.2] using this
  have hT : (decide ((65536 : Int) < (t.size : Int))) = false := by simp; omega
  have hT2 : ¬ (65536 : Int) < (t.size : Int) := by omega
  clear hp0 hp1 hp2 hp3 hgp hbd hmd
  have hmk : ∀ w, (Instr.makeSlice 81 (.int .i64 1) (.int .i64 1)).run Tryz.prog w = .ok (.slice (some ⟨w.heap.size, 0, none⟩) 1 1) (w.alloc (.cells #[.bool false] 4)) := fun w => by kernel_rfl
  have hmk2 : ∀ w, (Instr.makeSlice 38 (.int .i64 1) (.int .i64 1)).run Tryz.prog w = .ok (.slice (some ⟨w.heap.size, 0, none⟩) 1 1) (w.alloc (.cells #[.int .i64 0] 3)) := fun w => by kernel_rfl
  have hmm := @run_makeMap Tryz.prog
  go_enter Tryz.func19, Tryz.ntmps19
  go_upto_region 5 with (fail)
  go_cut [1, 4, 5, 6] (ChkCut w g o c)
  case first =>
    go_wp2_with fail
    go_meet
    refine ⟨_, _, _, _, rfl, rfl, rfl, rfl, ?_, ?_, ?_, ?_, ?_, ?_, ?_⟩
    · go_simp
    · go_simp
    · go_simp
    · (try simp) <;> omega
    · (try simp) <;> omega
    · (try simp) <;> omega
    · (repeat (first | exact Below.refl _ _ | assumption | refine below_drewN ?_ _ | refine Below.drew ?_ | (refine Below.alloc ?_ ?bs _; (case bs => first | omega | (simp; done) | (simp; omega))) | (refine Below.setCell ?_ ?bs _; (case bs => first | omega | (simp; done) | (simp; omega)))))
  case rest =>
  obtain ⟨b1, b4, b5, mm, rfl, rfl, rfl, rfl, k1, k4, k5, l1, l4, l5, hB⟩ := hcut
  obtain ⟨a1, a2, a3, a4, a5, a6, a7, a8, a9, a10, a11, a12, a13, a14, a15, a16, a17, a18, a19, a20, a21, a22, a23, a24, a25, a26, a27, a28, a29, a30, a31, a32, a33, a34⟩ := HN.out.below hB hg
  clear h a5 a6 a7 a8 a9 a10 a11 a12 a13 a14 a15 a16 a17 a18 a19 a20 a21 a22 a24 a25 a26 a27 a28 a29 a30 a31 a32 a33 a34
  have hgW : g < wc.heap.size := Nat.lt_of_lt_of_le hg hB.size
  have HB := Lib.hid hB
  clear hB
  go_wp2
  refine wp_loop_rounds 2 ?_
  rw [rounds_succ]
  go_wp2
  refine wp_loop_rounds 1 ?_
  rw [rounds_succ]
  go_wp2_with (first | (go_at_call 32; ((with_reducible refine (leaf_text _).mono ?_); rintro e1' w1 ⟨rfl, rfl⟩)) | (go_at_call 33; ((with_reducible refine (HI.out _ HB.out).mono ?_); rintro e1' w2 ⟨rfl, hb2⟩; obtain ⟨hc2, hf2⟩ := bcell hb2; have hz2 := hb2.size; have hg2 : g < w2.heap.size := (by omega))) | (go_at_call 34; ((with_reducible refine (HF.out _ (HB.out.trans (hb2.mono HB.out.size))).mono ?_); rintro e1' w3 ⟨rfl, rfl⟩)))
  rw [rounds_succ]
  go_wp2
  refine wp_loop_rounds 1 ?_
  repeat any_goals (rw [rounds_succ]; go_wp2)
  go_wp2
  refine wp_loop_rounds 2 ?_
  repeat any_goals (rw [rounds_succ]; go_wp2)
  go_wp2
  go_ret2
  exact ⟨rfl, HB.out.trans (hb2.mono HB.out.size)⟩
set_option maxRecDepth 100000 in
set_option maxHeartbeats 4000000 in
theorem check_bad (w : World) (g o c : Nat) (gap p0 p1 p2 p3 bd md : Int) (t : ByteArray) (h : NodeAt w g o 1 (.slice none 0 0) gap p0 p1 p2 p3 bd md t) (hg : g < w.heap.size)
    (hp0 : 0 ≤ p0 ∧ p0 ≤ 4096) (hp1 : 0 ≤ p1 ∧ p1 ≤ 4096) (hp2 : 0 ≤ p2 ∧ p2 ≤ 4096) (hp3 : 0 ≤ p3 ∧ p3 ≤ 4096) (hgp : 0 ≤ gap ∧ gap ≤ 4096) (hbd : 0 ≤ bd ∧ bd ≤ 4) (hmd : -128 ≤ md ∧ md ≤ 127) (hbad : ¬ (0 ≤ md ∧ md ≤ 2)) :
    Calls Tryz.prog 19 #[.agg #[.slice (some ⟨g, o, none⟩) 1 c]] w (VBel (.tuple #[.int .i64 106, .int .i64 0]) w) := by
  have HN := Lib.hid h
  have HI : Hid (∀ W, Below w.heap.size w W → Calls Tryz.prog 33 #[.pointer (some ⟨g, o, none⟩)] W (VBel (.bool true) W)) := Lib.hid fun W hb => items_any W g o 1 _ _ _ _ _ _ _ _ t (h.below hb hg) (Nat.lt_of_lt_of_le hg hb.size) (.inl rfl)
  have HF : Hid (∀ W, Below w.heap.size w W → Calls Tryz.prog 34 #[.pointer (some ⟨g, o, none⟩)] W (VRet (.bool false) W)) := Lib.hid fun W hb => by
    have := fields_any W g o 1 _ _ _ _ _ _ _ _ t (h.below hb hg) hp0 hp1 hp2 hp3 hgp hbd ⟨by omega, by omega⟩
    have e : (decide (0 ≤ md) && decide (md ≤ 2)) = false := by
      simp only [Bool.and_eq_false_iff, decide_eq_false_iff_not]; omega
    rw [e] at this
    exact this
  clear hp0 hp1 hp2 hp3 hgp hbd hmd hbad
  have hmk : ∀ w, (Instr.makeSlice 81 (.int .i64 1) (.int .i64 1)).run Tryz.prog w = .ok (.slice (some ⟨w.heap.size, 0, none⟩) 1 1) (w.alloc (.cells #[.bool false] 4)) := fun w => by kernel_rfl
  have hmk2 : ∀ w, (Instr.makeSlice 38 (.int .i64 1) (.int .i64 1)).run Tryz.prog w = .ok (.slice (some ⟨w.heap.size, 0, none⟩) 1 1) (w.alloc (.cells #[.int .i64 0] 3)) := fun w => by kernel_rfl
  have hmm := @run_makeMap Tryz.prog
  go_enter Tryz.func19, Tryz.ntmps19
  go_upto_region 5 with (fail)
  go_cut [1, 4, 5, 6] (ChkCut w g o c)
  case first =>
    go_wp2_with fail
    go_meet
    refine ⟨_, _, _, _, rfl, rfl, rfl, rfl, ?_, ?_, ?_, ?_, ?_, ?_, ?_⟩
    · go_simp
    · go_simp
    · go_simp
    · (try simp) <;> omega
    · (try simp) <;> omega
    · (try simp) <;> omega
    · (repeat (first | exact Below.refl _ _ | assumption | refine below_drewN ?_ _ | refine Below.drew ?_ | (refine Below.alloc ?_ ?bs _; (case bs => first | omega | (simp; done) | (simp; omega))) | (refine Below.setCell ?_ ?bs _; (case bs => first | omega | (simp; done) | (simp; omega)))))
  case rest =>
  obtain ⟨b1, b4, b5, mm, rfl, rfl, rfl, rfl, k1, k4, k5, l1, l4, l5, hB⟩ := hcut
  obtain ⟨a1, a2, a3, a4, a5, a6, a7, a8, a9, a10, a11, a12, a13, a14, a15, a16, a17, a18, a19, a20, a21, a22, a23, a24, a25, a26, a27, a28, a29, a30, a31, a32, a33, a34⟩ := HN.out.below hB hg
  clear h a5 a6 a7 a8 a9 a10 a11 a12 a13 a14 a15 a16 a17 a18 a19 a20 a21 a22 a24 a25 a26 a27 a28 a29 a30 a31 a32 a33 a34
  have hgW : g < wc.heap.size := Nat.lt_of_lt_of_le hg hB.size
  have HB := Lib.hid hB
  clear hB
  go_wp2
  refine wp_loop_rounds 2 ?_
  rw [rounds_succ]
  go_wp2
  refine wp_loop_rounds 1 ?_
  rw [rounds_succ]
  go_wp2_with (first | (go_at_call 32; ((with_reducible refine (leaf_text _).mono ?_); rintro e1' w1 ⟨rfl, rfl⟩)) | (go_at_call 33; ((with_reducible refine (HI.out _ HB.out).mono ?_); rintro e1' w2 ⟨rfl, hb2⟩; obtain ⟨hc2, hf2⟩ := bcell hb2; have hz2 := hb2.size; have hg2 : g < w2.heap.size := (by omega))) | (go_at_call 34; ((with_reducible refine (HF.out _ (HB.out.trans (hb2.mono HB.out.size))).mono ?_); rintro e1' w3 ⟨rfl, rfl⟩)))
  go_ret2
  exact ⟨rfl, HB.out.trans (hb2.mono HB.out.size)⟩
set_option maxRecDepth 100000 in
set_option maxHeartbeats 4000000 in
theorem check_long (w : World) (g o c : Nat) (gap p0 p1 p2 p3 bd md : Int) (t : ByteArray) (h : NodeAt w g o 1 (.slice none 0 0) gap p0 p1 p2 p3 bd md t) (hg : g < w.heap.size)
    (hp0 : 0 ≤ p0 ∧ p0 ≤ 4096) (hp1 : 0 ≤ p1 ∧ p1 ≤ 4096) (hp2 : 0 ≤ p2 ∧ p2 ≤ 4096) (hp3 : 0 ≤ p3 ∧ p3 ≤ 4096) (hgp : 0 ≤ gap ∧ gap ≤ 4096) (hbd : 0 ≤ bd ∧ bd ≤ 4) (hmd : 0 ≤ md ∧ md ≤ 2) (ht : (65536 : Int) < (t.size : Int)) :
    Calls Tryz.prog 19 #[.agg #[.slice (some ⟨g, o, none⟩) 1 c]] w (VBel (.tuple #[.int .i64 3, .int .i64 0]) w) := by
  have HN := Lib.hid h
  have HI : Hid (∀ W, Below w.heap.size w W → Calls Tryz.prog 33 #[.pointer (some ⟨g, o, none⟩)] W (VBel (.bool true) W)) := Lib.hid fun W hb => items_any W g o 1 _ _ _ _ _ _ _ _ t (h.below hb hg) (Nat.lt_of_lt_of_le hg hb.size) (.inl rfl)
  have HF : Hid (∀ W, Below w.heap.size w W → Calls Tryz.prog 34 #[.pointer (some ⟨g, o, none⟩)] W (VRet (.bool true) W)) := Lib.hid fun W hb => by
    have := fields_any W g o 1 _ _ _ _ _ _ _ _ t (h.below hb hg) hp0 hp1 hp2 hp3 hgp hbd ⟨by omega, by omega⟩
    simpa [hmd.1, hmd.2] using this
  have hT2 : (decide ((65536 : Int) < (t.size : Int))) = true := by simp; omega
  clear hp0 hp1 hp2 hp3 hgp hbd hmd
  have hmk : ∀ w, (Instr.makeSlice 81 (.int .i64 1) (.int .i64 1)).run Tryz.prog w = .ok (.slice (some ⟨w.heap.size, 0, none⟩) 1 1) (w.alloc (.cells #[.bool false] 4)) := fun w => by kernel_rfl
  have hmk2 : ∀ w, (Instr.makeSlice 38 (.int .i64 1) (.int .i64 1)).run Tryz.prog w = .ok (.slice (some ⟨w.heap.size, 0, none⟩) 1 1) (w.alloc (.cells #[.int .i64 0] 3)) := fun w => by kernel_rfl
  have hmm := @run_makeMap Tryz.prog
  go_enter Tryz.func19, Tryz.ntmps19
  go_upto_region 5 with (fail)
  go_cut [1, 4, 5, 6] (ChkCut w g o c)
  case first =>
    go_wp2_with fail
    go_meet
    refine ⟨_, _, _, _, rfl, rfl, rfl, rfl, ?_, ?_, ?_, ?_, ?_, ?_, ?_⟩
    · go_simp
    · go_simp
    · go_simp
    · (try simp) <;> omega
    · (try simp) <;> omega
    · (try simp) <;> omega
    · (repeat (first | exact Below.refl _ _ | assumption | refine below_drewN ?_ _ | refine Below.drew ?_ | (refine Below.alloc ?_ ?bs _; (case bs => first | omega | (simp; done) | (simp; omega))) | (refine Below.setCell ?_ ?bs _; (case bs => first | omega | (simp; done) | (simp; omega)))))
  case rest =>
  obtain ⟨b1, b4, b5, mm, rfl, rfl, rfl, rfl, k1, k4, k5, l1, l4, l5, hB⟩ := hcut
  obtain ⟨a1, a2, a3, a4, a5, a6, a7, a8, a9, a10, a11, a12, a13, a14, a15, a16, a17, a18, a19, a20, a21, a22, a23, a24, a25, a26, a27, a28, a29, a30, a31, a32, a33, a34⟩ := HN.out.below hB hg
  clear h a5 a6 a7 a8 a9 a10 a11 a12 a13 a14 a15 a16 a17 a18 a19 a20 a21 a22 a24 a25 a26 a27 a28 a29 a30 a31 a32 a33 a34
  have hgW : g < wc.heap.size := Nat.lt_of_lt_of_le hg hB.size
  have HB := Lib.hid hB
  clear hB
  go_wp2
  refine wp_loop_rounds 2 ?_
  rw [rounds_succ]
  go_wp2
  refine wp_loop_rounds 1 ?_
  rw [rounds_succ]
  go_wp2_with (first | (go_at_call 32; ((with_reducible refine (leaf_text _).mono ?_); rintro e1' w1 ⟨rfl, rfl⟩)) | (go_at_call 33; ((with_reducible refine (HI.out _ HB.out).mono ?_); rintro e1' w2 ⟨rfl, hb2⟩; obtain ⟨hc2, hf2⟩ := bcell hb2; have hz2 := hb2.size; have hg2 : g < w2.heap.size := (by omega))) | (go_at_call 34; ((with_reducible refine (HF.out _ (HB.out.trans (hb2.mono HB.out.size))).mono ?_); rintro e1' w3 ⟨rfl, rfl⟩)))
  go_ret2
  exact ⟨rfl, HB.out.trans (hb2.mono HB.out.size)⟩
end Go.Proofs.YthhomflonpjbmaaGreatDoor
/-
  The walk of tree.Check at a row of two texts.
-/
namespace Go.Proofs.YthhomflonpjbmaaGreatDoor
open Go.RowKit
def ChkCut3 (w : World) (g c : Nat) (s1 s4 s5 s6 : Value) (W : World) : Prop :=
  ∃ b1 b4 b5 m : Nat, s1 = .pointer (some ⟨b1, 0, none⟩) ∧ s4 = .slice (some ⟨b4, 0, none⟩) 3 3 ∧ s5 = .slice (some ⟨b5, 0, none⟩) 3 3 ∧ s6 = .map (some m) ∧
    W.cell? ⟨b1, 0, none⟩ = some (.slice (some ⟨g, 0, none⟩) 3 c) ∧ W.cell? ⟨b4, 0, none⟩ = some (.bool false) ∧ W.cell? ⟨b4, 1, none⟩ = some (.bool false) ∧ W.cell? ⟨b4, 2, none⟩ = some (.bool false) ∧
    W.cell? ⟨b5, 0, none⟩ = some (.int .i64 0) ∧ W.cell? ⟨b5, 1, none⟩ = some (.int .i64 0) ∧ W.cell? ⟨b5, 2, none⟩ = some (.int .i64 0) ∧
    (∀ q, W.frozen? ⟨b4, q, none⟩ = false) ∧ (∀ q, W.frozen? ⟨b5, q, none⟩ = false) ∧
    b1 < W.heap.size ∧ b4 < W.heap.size ∧ b5 < W.heap.size ∧ w.heap.size ≤ b4 ∧ w.heap.size ≤ b5 ∧ b1 < b4 ∧ b4 < b5 ∧ Below w.heap.size w W
/-- A row of two texts in memory. -/
structure Three (w : World) (g kb kc : Nat) (t0 t1 t2 : ByteArray) : Prop where
  n0 : NodeAt w g 0 2 (.slice (some ⟨kb, 0, none⟩) 2 kc) 1 0 0 0 0 0 0 t0
  n1 : NodeAt w g 34 1 (.slice none 0 0) 0 0 0 0 0 0 0 t1
  n2 : NodeAt w g 68 1 (.slice none 0 0) 0 0 0 0 0 0 0 t2
  k0 : w.cell? ⟨kb, 0, none⟩ = some (.int .i64 1)
  k1 : w.cell? ⟨kb, 1, none⟩ = some (.int .i64 2)
theorem Three.below {w w' : World} {g kb kc B : Nat} {t0 t1 t2 : ByteArray} (h : Three w g kb kc t0 t1 t2) (hb : Below B w w') (hg : g < B) (hk : kb < B) : Three w' g kb kc t0 t1 t2 :=
  ⟨h.n0.below hb hg, h.n1.below hb hg, h.n2.below hb hg, (hb.cell (p := ⟨kb, 0, none⟩) hk).trans h.k0, (hb.cell (p := ⟨kb, 1, none⟩) hk).trans h.k1⟩
set_option maxRecDepth 100000 in
set_option maxHeartbeats 8000000 in
theorem check_three (w : World) (g kb kc c : Nat) (t0 t1 t2 : ByteArray) (h : Three w g kb kc t0 t1 t2) (hg : g < w.heap.size) (hkb : kb < w.heap.size) (h0 : (t0.size : Int) ≤ 65536) (h1 : (t1.size : Int) ≤ 65536) (h2 : (t2.size : Int) ≤ 65536) :
    Calls Tryz.prog 19 #[.agg #[.slice (some ⟨g, 0, none⟩) 3 c]] w (VBel (.tuple #[.int .i64 0, .int .i64 0]) w) := by
  have HN := Lib.hid h
  have HI0 : Hid (∀ W, Below w.heap.size w W → Calls Tryz.prog 33 #[.pointer (some ⟨g, 0, none⟩)] W (VBel (.bool true) W)) := Lib.hid fun W hb => items_any W g 0 2 _ _ _ _ _ _ _ _ t0 (h.n0.below hb hg) (Nat.lt_of_lt_of_le hg hb.size) (.inr rfl)
  have HI1 : Hid (∀ W, Below w.heap.size w W → Calls Tryz.prog 33 #[.pointer (some ⟨g, 34, none⟩)] W (VBel (.bool true) W)) := Lib.hid fun W hb => items_any W g 34 1 _ _ _ _ _ _ _ _ t1 (h.n1.below hb hg) (Nat.lt_of_lt_of_le hg hb.size) (.inl rfl)
  have HI2 : Hid (∀ W, Below w.heap.size w W → Calls Tryz.prog 33 #[.pointer (some ⟨g, 68, none⟩)] W (VBel (.bool true) W)) := Lib.hid fun W hb => items_any W g 68 1 _ _ _ _ _ _ _ _ t2 (h.n2.below hb hg) (Nat.lt_of_lt_of_le hg hb.size) (.inl rfl)
  have HF0 : Hid (∀ W, Below w.heap.size w W → Calls Tryz.prog 34 #[.pointer (some ⟨g, 0, none⟩)] W (VRet (.bool true) W)) := Lib.hid fun W hb => by
    have := fields_any W g 0 2 _ _ _ _ _ _ _ _ t0 (h.n0.below hb hg) (by omega) (by omega) (by omega) (by omega) (by omega) (by omega) (by omega)
    simpa using this
  have HF1 : Hid (∀ W, Below w.heap.size w W → Calls Tryz.prog 34 #[.pointer (some ⟨g, 34, none⟩)] W (VRet (.bool true) W)) := Lib.hid fun W hb => by
    have := fields_any W g 34 1 _ _ _ _ _ _ _ _ t1 (h.n1.below hb hg) (by omega) (by omega) (by omega) (by omega) (by omega) (by omega) (by omega)
    simpa using this
  have HF2 : Hid (∀ W, Below w.heap.size w W → Calls Tryz.prog 34 #[.pointer (some ⟨g, 68, none⟩)] W (VRet (.bool true) W)) := Lib.hid fun W hb => by
    have := fields_any W g 68 1 _ _ _ _ _ _ _ _ t2 (h.n2.below hb hg) (by omega) (by omega) (by omega) (by omega) (by omega) (by omega) (by omega)
    simpa using this
  have hT0 : (decide ((65536 : Int) < (t0.size : Int))) = false := by simp; omega
  have hT1 : (decide ((65536 : Int) < (t1.size : Int))) = false := by simp; omega
  have hT2 : (decide ((65536 : Int) < (t2.size : Int))) = false := by simp; omega
  have hU0 : ¬ (65536 : Int) < (t0.size : Int) := by omega
  have hU1 : ¬ (65536 : Int) < (t1.size : Int) := by omega
  have hU2 : ¬ (65536 : Int) < (t2.size : Int) := by omega
  have hmk : ∀ w, (Instr.makeSlice 81 (.int .i64 3) (.int .i64 3)).run Tryz.prog w = .ok (.slice (some ⟨w.heap.size, 0, none⟩) 3 3) (w.alloc (.cells #[.bool false, .bool false, .bool false] 4)) := fun w => by kernel_rfl
  have hmk2 : ∀ w, (Instr.makeSlice 38 (.int .i64 3) (.int .i64 3)).run Tryz.prog w = .ok (.slice (some ⟨w.heap.size, 0, none⟩) 3 3) (w.alloc (.cells #[.int .i64 0, .int .i64 0, .int .i64 0] 3)) := fun w => by kernel_rfl
  have hmm := @run_makeMap Tryz.prog
  clear h h0 h1 h2
  go_enter Tryz.func19, Tryz.ntmps19
  go_upto_region 5 with (fail)
  go_cut [1, 4, 5, 6] (ChkCut3 w g c)
  case first =>
    go_wp2_with fail
    go_meet
    refine ⟨_, _, _, _, rfl, rfl, rfl, rfl, ?_, ?_, ?_, ?_, ?_, ?_, ?_, ?_, ?_, ?_, ?_, ?_, ?_, ?_, ?_, ?_, ?_⟩
    iterate 7 (· go_simp)
    · intro q; go_simp
    · intro q; go_simp
    iterate 7 (· (try simp) <;> omega)
    · (repeat (first | exact Below.refl _ _ | assumption | refine below_drewN ?_ _ | refine Below.drew ?_ | (refine Below.alloc ?_ ?bs _; (case bs => first | omega | (simp; done) | (simp; omega))) | (refine Below.setCell ?_ ?bs _; (case bs => first | omega | (simp; done) | (simp; omega)))))
  case rest =>
  obtain ⟨b1, b4, b5, mm, rfl, rfl, rfl, rfl, k1, k40, k41, k42, k50, k51, k52, f4, f5, l1, l4, l5, m4, m5, n1, n4, hB⟩ := hcut
  have T := HN.out.below hB hg hkb
  have a0kd : wc.cell? ⟨g, 0, none⟩ = some (.int .i8 2) := T.n0.kd
  have a0id : wc.cell? ⟨g, 1, none⟩ = some (.string ⟨#[]⟩) := T.n0.id
  have a0cl : wc.cell? ⟨g, 2, none⟩ = some (.string ⟨#[]⟩) := T.n0.cl
  have a0kids : wc.cell? ⟨g, 3, none⟩ = some (.slice (some ⟨kb, 0, none⟩) 2 kc) := T.n0.kids
  have a0tx : wc.cell? ⟨g, 22, none⟩ = some (.string t0) := T.n0.tx
  have a1kd : wc.cell? ⟨g, 34, none⟩ = some (.int .i8 1) := T.n1.kd
  have a1id : wc.cell? ⟨g, 35, none⟩ = some (.string ⟨#[]⟩) := T.n1.id
  have a1cl : wc.cell? ⟨g, 36, none⟩ = some (.string ⟨#[]⟩) := T.n1.cl
  have a1kids : wc.cell? ⟨g, 37, none⟩ = some (.slice none 0 0) := T.n1.kids
  have a1tx : wc.cell? ⟨g, 56, none⟩ = some (.string t1) := T.n1.tx
  have a2kd : wc.cell? ⟨g, 68, none⟩ = some (.int .i8 1) := T.n2.kd
  have a2id : wc.cell? ⟨g, 69, none⟩ = some (.string ⟨#[]⟩) := T.n2.id
  have a2cl : wc.cell? ⟨g, 70, none⟩ = some (.string ⟨#[]⟩) := T.n2.cl
  have a2kids : wc.cell? ⟨g, 71, none⟩ = some (.slice none 0 0) := T.n2.kids
  have a2tx : wc.cell? ⟨g, 90, none⟩ = some (.string t2) := T.n2.tx
  have r0 := T.k0
  have r1 := T.k1
  have hgW : g < wc.heap.size := Nat.lt_of_lt_of_le hg hB.size
  have hkW : kb < wc.heap.size := Nat.lt_of_lt_of_le hkb hB.size
  have d1 : ¬ g = b4 := by omega
  have d2 : ¬ g = b5 := by omega
  have d3 : ¬ kb = b4 := by omega
  have d4 : ¬ kb = b5 := by omega
  have d5 : ¬ b1 = b4 := by omega
  have d6 : ¬ b1 = b5 := by omega
  have d7 : ¬ b4 = b5 := by omega
  have d8 : ¬ b4 = g := by omega
  have d9 : ¬ b5 = g := by omega
  have d10 : ¬ b4 = kb := by omega
  have d11 : ¬ b5 = kb := by omega
  have d12 : ¬ b4 = b1 := by omega
  have d13 : ¬ b5 = b1 := by omega
  have d14 : ¬ b5 = b4 := by omega
  have hwc := hB.size
  clear T
  go_wp2
  refine wp_loop_rounds 4 ?_
  rw [rounds_succ]
  go_wp2
  refine wp_loop_rounds 3 ?_
  rw [rounds_succ]
  go_wp2
  rw [rounds_succ]
  go_wp2
  rw [rounds_succ]
  go_wp2_with (first | (go_at_call 32; ((with_reducible refine (leaf_row _).mono ?_); rintro e1' w1 ⟨rfl, rfl⟩)) | (go_at_call 33; ((with_reducible refine (HI0.out _ ?_).mono ?_); (repeat (first | exact Below.refl _ _ | assumption | refine below_drewN ?_ _ | refine Below.drew ?_ | (refine Below.alloc ?_ ?bs _; (case bs => first | omega | (simp; done) | (simp; omega))) | (refine Below.setCell ?_ ?bs _; (case bs => first | omega | (simp; done) | (simp; omega))))); rintro e1' w2 ⟨rfl, hw2⟩; have hBw2 : Below w.heap.size w w2 := Below.trans (by (repeat (first | exact Below.refl _ _ | assumption | refine below_drewN ?_ _ | refine Below.drew ?_ | (refine Below.alloc ?_ ?bs _; (case bs => first | omega | (simp; done) | (simp; omega))) | (refine Below.setCell ?_ ?bs _; (case bs => first | omega | (simp; done) | (simp; omega)))))) (hw2.mono (by (try simp) <;> omega)); obtain ⟨hcw2, hfw2⟩ := bcell hw2; have hzw2 := hw2.size; (try simp at hzw2); have lgw2 : g < w2.heap.size := (by omega); have lkw2 : kb < w2.heap.size := (by omega); have lb1w2 : b1 < w2.heap.size := (by omega); have lb4w2 : b4 < w2.heap.size := (by omega); have lb5w2 : b5 < w2.heap.size := (by omega))) | (go_at_call 34; ((with_reducible refine (HF0.out _ hBw2).mono ?_); rintro e1' w1 ⟨rfl, rfl⟩)))
  rw [rounds_succ]
  go_wp2
  refine wp_loop_rounds 1 ?_
  rw [rounds_succ]
  go_wp2_with (first | (go_at_call 32; ((with_reducible refine (leaf_text _).mono ?_); rintro e1' w1 ⟨rfl, rfl⟩)) | (go_at_call 33; ((with_reducible refine (HI1.out _ ?_).mono ?_); (repeat (first | exact Below.refl _ _ | assumption | refine below_drewN ?_ _ | refine Below.drew ?_ | (refine Below.alloc ?_ ?bs _; (case bs => first | omega | (simp; done) | (simp; omega))) | (refine Below.setCell ?_ ?bs _; (case bs => first | omega | (simp; done) | (simp; omega))))); rintro e1' w3 ⟨rfl, hw3⟩; have hBw3 : Below w.heap.size w w3 := Below.trans (by (repeat (first | exact Below.refl _ _ | assumption | refine below_drewN ?_ _ | refine Below.drew ?_ | (refine Below.alloc ?_ ?bs _; (case bs => first | omega | (simp; done) | (simp; omega))) | (refine Below.setCell ?_ ?bs _; (case bs => first | omega | (simp; done) | (simp; omega)))))) (hw3.mono (by (try simp) <;> omega)); obtain ⟨hcw3, hfw3⟩ := bcell hw3; have hzw3 := hw3.size; (try simp at hzw3); have lgw3 : g < w3.heap.size := (by omega); have lkw3 : kb < w3.heap.size := (by omega); have lb1w3 : b1 < w3.heap.size := (by omega); have lb4w3 : b4 < w3.heap.size := (by omega); have lb5w3 : b5 < w3.heap.size := (by omega))) | (go_at_call 34; ((with_reducible refine (HF1.out _ hBw3).mono ?_); rintro e1' w1 ⟨rfl, rfl⟩)))
  rw [rounds_succ]
  go_wp2
  refine wp_loop_rounds 1 ?_
  rw [rounds_succ]
  go_wp2_with (first | (go_at_call 32; ((with_reducible refine (leaf_text _).mono ?_); rintro e1' w1 ⟨rfl, rfl⟩)) | (go_at_call 33; ((with_reducible refine (HI2.out _ ?_).mono ?_); (repeat (first | exact Below.refl _ _ | assumption | refine below_drewN ?_ _ | refine Below.drew ?_ | (refine Below.alloc ?_ ?bs _; (case bs => first | omega | (simp; done) | (simp; omega))) | (refine Below.setCell ?_ ?bs _; (case bs => first | omega | (simp; done) | (simp; omega))))); rintro e1' w4 ⟨rfl, hw4⟩; have hBw4 : Below w.heap.size w w4 := Below.trans (by (repeat (first | exact Below.refl _ _ | assumption | refine below_drewN ?_ _ | refine Below.drew ?_ | (refine Below.alloc ?_ ?bs _; (case bs => first | omega | (simp; done) | (simp; omega))) | (refine Below.setCell ?_ ?bs _; (case bs => first | omega | (simp; done) | (simp; omega)))))) (hw4.mono (by (try simp) <;> omega)); obtain ⟨hcw4, hfw4⟩ := bcell hw4; have hzw4 := hw4.size; (try simp at hzw4); have lgw4 : g < w4.heap.size := (by omega); have lkw4 : kb < w4.heap.size := (by omega); have lb1w4 : b1 < w4.heap.size := (by omega); have lb4w4 : b4 < w4.heap.size := (by omega); have lb5w4 : b5 < w4.heap.size := (by omega))) | (go_at_call 34; ((with_reducible refine (HF2.out _ hBw4).mono ?_); rintro e1' w1 ⟨rfl, rfl⟩)))
  rw [rounds_succ]
  go_wp2
  refine wp_loop_rounds 3 ?_
  repeat any_goals (rw [rounds_succ]; go_wp2)
  go_wp2
  refine wp_loop_rounds 4 ?_
  repeat any_goals (rw [rounds_succ]; go_wp2)
  go_wp2
  go_ret2
  exact ⟨rfl, hBw4⟩
end Go.Proofs.YthhomflonpjbmaaGreatDoor
