/-
  The walks of wrap: wide, fit, ways.
-/
import Derived.Test.YtpnjlfnejjjncaaGreatDoorCa17
import Derived.Test.YtpnjlfnejjjncaaGreatDoorCa08
import Derived.Laws.EntriesVeiled
set_option linter.unusedVariables false
set_option linter.unusedSimpArgs false
namespace Go.Proofs.YtpnjlfnejjjncaaGreatDoor
open Go.RowKit

/-- The cells from o on of block g hold these clusters. -/
def RdC (w : World) (g o : Nat) (cs : List Cl) : Prop := ∀ (i : Nat) (c : Cl), cs[i]? = some c → w.cell? ⟨g, o + i * 2, none⟩ = some (.string (mkS c.1)) ∧ w.cell? ⟨g, o + i * 2 + 1, none⟩ = some (.int .i64 c.2)
theorem RdC.below {w w' : World} {g o B : Nat} {cs : List Cl} (h : RdC w g o cs) (hb : Below B w w') (hg : g < B) : RdC w' g o cs := fun i c hc => ⟨(hb.cell (p := ⟨g, o + i * 2, none⟩) hg).trans (h i c hc).1, (hb.cell (p := ⟨g, o + i * 2 + 1, none⟩) hg).trans (h i c hc).2⟩
theorem RdC.drop {w : World} {g o : Nat} {cs : List Cl} (h : RdC w g o cs) (k : Nat) : RdC w g (o + k * 2) (cs.drop k) := fun i c hc => by
  rw [List.getElem?_drop] at hc
  have := h (k + i) c hc
  rw [show o + k * 2 + i * 2 = o + (k + i) * 2 by omega]; exact this
/-- The slice value `.slice A n c` holds these clusters. -/
def SeeC (w : World) (A : Option Addr) (n : Nat) (cs : List Cl) : Prop := cs.length = n ∧ (0 < n → ∃ g o, A = some ⟨g, o, none⟩ ∧ g < w.heap.size ∧ RdC w g o cs)
theorem SeeC.below {w w' : World} {A : Option Addr} {n : Nat} {cs : List Cl} (h : SeeC w A n cs) (hb : Below w.heap.size w w') : SeeC w' A n cs :=
  ⟨h.1, fun hn => by obtain ⟨g, o, e, hg, hR⟩ := h.2 hn; exact ⟨g, o, e, Nat.lt_of_lt_of_le hg hb.size, hR.below hb hg⟩⟩
theorem wideS_take (l : List Cl) (k : Nat) (c : Cl) (h : l[k]? = some c) : wideS (l.take (k + 1)) = wideS (l.take k) + c.2 := by
  obtain ⟨h1, h2⟩ := List.getElem?_eq_some_iff.1 h
  rw [List.take_succ_eq_append_getElem h1, wideS_append, h2]; simp [wideS]
theorem wideS_le (l : List Cl) (h : ∀ c ∈ l, c.2 ≤ 2) : wideS l ≤ 2 * l.length := by
  induction l with
  | nil => simp [wideS]
  | cons c l ih =>
    have := ih fun x hx => h x (List.mem_cons_of_mem _ hx)
    have := h c (by simp)
    rw [wideS_cons, List.length_cons]; omega
set_option maxRecDepth 100000 in
set_option maxHeartbeats 1000000 in
theorem wide_any (A : Option Addr) (c n : Nat) (cs : List Cl) (w : World) (hS : SeeC w A n cs) (hm : n ≤ 10000000000) (h2 : ∀ c ∈ cs, c.2 ≤ 2) :
    Calls Tryz.prog 127 #[.slice A n c] w (VBel (.int .i64 (wideS cs)) w) := by
  have HS := Lib.hid hS
  have H2 := Lib.hid h2
  clear hS h2
  go_enter Tryz.func127, Tryz.ntmps127
  go_wp2
  go_loopw [3, 8] (fun v i wr => ∃ k : Nat, i = .int .i64 k ∧ k ≤ n ∧ v = .int .i64 (wideS (cs.take k)) ∧ Below w.heap.size w wr) (fun _ i _ => n - (intOf i).toNat)
  case atStart => exact ⟨0, rfl, by omega, rfl, Below.refl _ _⟩
  case round =>
    obtain ⟨k, rfl, hk, rfl, hbe⟩ := hrel
    have HBE := Lib.hid hbe
    by_cases hlt : k < n
    · obtain ⟨g, o, rfl, hg, hR⟩ := HS.out.2 (by omega)
      have hsl := HS.out.1
      obtain ⟨y, hy⟩ : ∃ y, cs[k]? = some y := ⟨_, List.getElem?_eq_getElem (by omega)⟩
      have hR' := (hR.below hbe hg) k y hy
      have hc0 := hR'.1
      have hc1 := hR'.2
      have HT : Hid (wideS (cs.take (k + 1)) = wideS (cs.take k) + y.2) := Lib.hid (wideS_take cs k y hy)
      have hy2 : y.2 ≤ 2 := H2.out y (List.mem_of_getElem? hy)
      have hwb : wideS (cs.take k) ≤ 2 * k := by
        have := wideS_le (cs.take k) fun x hx => H2.out x (List.mem_of_mem_take hx)
        have hl : (cs.take k).length ≤ k := List.length_take_le _ _
        omega
      obtain ⟨a, ha⟩ : ∃ a, wideS (cs.take k) = a := ⟨_, rfl⟩
      obtain ⟨y1, y2⟩ := y
      rw [ha] at HT hwb ⊢
      have hgr : g < wr.heap.size := Nat.lt_of_lt_of_le hg hbe.size
      clear hbe hR hR' hy ha hsl
      go_wp2
      go_roundw
      case rel => exact ⟨k + 1, by go_num, by omega, by rw [HT.out]; go_num, HBE.out.alloc HBE.out.size _⟩
      case measure => simp [intOf]; omega
    · obtain rfl : k = n := by omega
      have HT : Hid (cs.take k = cs) := Lib.hid (List.take_of_length_le (by rw [HS.out.1]; exact Nat.le_refl _))
      clear hbe
      go_wp2
      go_ret
      exact ⟨by rw [HT.out]; rfl, HBE.out⟩

theorem fitS_step (l : List Cl) (k w : Nat) (c : Cl) (h : l[k]? = some c) : fitS (l.drop k) w = if w < c.2 then 0 else 1 + fitS (l.drop (k + 1)) (w - c.2) := by
  obtain ⟨h1, h2⟩ := List.getElem?_eq_some_iff.1 h
  rw [List.drop_eq_getElem_cons h1, h2]; rfl
set_option maxRecDepth 100000 in
set_option maxHeartbeats 1000000 in
theorem fit_any (A : Option Addr) (c n w0 : Nat) (cs : List Cl) (w : World) (hS : SeeC w A n cs) (hm : n ≤ 10000000000) (hw : w0 ≤ 10000000000) (h2 : ∀ c ∈ cs, c.2 ≤ 2) :
    Calls Tryz.prog 129 #[.slice A n c, .int .i64 w0] w (VBel (.int .i64 (fitS cs w0)) w) := by
  have HS := Lib.hid hS
  have H2 := Lib.hid h2
  clear hS h2
  go_enter Tryz.func129, Tryz.ntmps129
  go_wp2
  go_loopw [1, 9] (fun v i wr => ∃ k w1 : Nat, i = .int .i64 k ∧ k ≤ n ∧ v = .int .i64 w1 ∧ w1 ≤ w0 ∧ Hid (fitS cs w0 = k + fitS (cs.drop k) w1) ∧ Below w.heap.size w wr) (fun _ i _ => n - (intOf i).toNat)
  case atStart => exact ⟨0, w0, rfl, by omega, rfl, by omega, by simp [Hid], Below.refl _ _⟩
  case round =>
    obtain ⟨k, w1, rfl, hk, rfl, hw1, HF, hbe⟩ := hrel
    have HBE := Lib.hid hbe
    by_cases hlt : k < n
    · obtain ⟨g, o, rfl, hg, hR⟩ := HS.out.2 (by omega)
      have hsl := HS.out.1
      obtain ⟨y, hy⟩ : ∃ y, cs[k]? = some y := ⟨_, List.getElem?_eq_getElem (by omega)⟩
      have hR' := (hR.below hbe hg) k y hy
      have hc0 := hR'.1
      have hc1 := hR'.2
      have HT := Lib.hid (fitS_step cs k w1 y hy)
      have hy2 : y.2 ≤ 2 := H2.out y (List.mem_of_getElem? hy)
      obtain ⟨y1, y2⟩ := y
      have hgr : g < wr.heap.size := Nat.lt_of_lt_of_le hg hbe.size
      clear hbe hR hR' hy hsl
      by_cases hov : w1 < y2
      · have HE : Hid (fitS cs w0 = k) := Lib.hid (by rw [HF.out, HT.out, if_pos hov]; rfl)
        have hov' : (w1 : Int) - (y2 : Int) < 0 := by omega
        go_wp2
        go_ret
        exact ⟨by rw [HE.out]; rfl, HBE.out.alloc HBE.out.size _⟩
      · have HE : Hid (fitS cs w0 = (k + 1) + fitS (cs.drop (k + 1)) (w1 - y2)) := Lib.hid (by rw [HF.out, HT.out, if_neg hov, Nat.add_assoc])
        have hov' : ¬ (w1 : Int) - (y2 : Int) < 0 := by omega
        go_wp2
        go_roundw
        case rel => exact ⟨k + 1, w1 - y2, by go_num, by omega, by congr 1; omega, by omega, HE.out, HBE.out.alloc HBE.out.size _⟩
        case measure => simp [intOf]; omega
    · obtain rfl : k = n := by omega
      have HT : Hid (fitS cs w0 = k) := Lib.hid (by rw [HF.out, List.drop_eq_nil_of_le (by rw [HS.out.1]; exact Nat.le_refl _)]; simp [fitS])
      clear hbe
      go_wp2
      go_ret
      exact ⟨by rw [HT.out]; rfl, HBE.out⟩

theorem ba_toList {t : ByteArray} {l : List UInt8} (h : t.toList = l) : t = ⟨l.toArray⟩ := by
  rw [ByteArray.toList_eq] at h
  cases t; simp at h; simp [← h]
theorem mkS_inj {a b : List Nat} (ha : ∀ x ∈ a, x < 256) (hb : ∀ x ∈ b, x < 256) (h : mkS a = mkS b) : a = b := by
  have h1 : toBytes a = toBytes b := by
    have := congrArg (fun s : ByteArray => s.data.toList) h
    simpa [mkS] using this
  have h2 := congrArg (List.map UInt8.toNat) h1
  have e : ∀ l : List Nat, (∀ x ∈ l, x < 256) → (toBytes l).map UInt8.toNat = l := by
    intro l hl
    simp only [toBytes, List.map_map]
    conv => rhs; rw [← List.map_id l]
    refine List.map_congr_left fun x hx => ?_
    have := hl x hx
    simp; omega
  rw [e a ha, e b hb] at h2
  exact h2
theorem blank_mk {c : Cl} (h : ∀ x ∈ c.1, x < 256) : mkS c.1 = ⟨#[32]⟩ ↔ blankC c = true := by
  have e : (⟨#[32]⟩ : ByteArray) = mkS [32] := rfl
  rw [e]
  constructor
  · intro hh; have := mkS_inj h (by simp) hh; simp [blankC, this]
  · intro hh; have : c.1 = [32] := by simpa [blankC] using hh
    rw [this]
theorem line_mk {c : Cl} (h : ∀ x ∈ c.1, x < 256) : mkS c.1 = ⟨#[10]⟩ ↔ c.1 = [10] := by
  have e : (⟨#[10]⟩ : ByteArray) = mkS [10] := rfl
  rw [e]
  exact ⟨fun hh => mkS_inj h (by simp) hh, fun hh => by rw [hh]⟩
theorem lastB_step (l : List Cl) (n : Nat) (c : Cl) (h : l[n]? = some c) : lastB l (n + 1) = if blankC c = true then some n else lastB l n := by
  simp only [lastB, h, Option.map_some, Option.getD_some]
def wayV (l : List Cl) (k : Nat) : Value := match lastB l (k + 1) with | some j => .tuple #[.int .i64 j, .int .i64 1] | none => .tuple #[.int .i64 k, .int .i64 0]
set_option maxRecDepth 100000 in
set_option maxHeartbeats 1000000 in
theorem ways1_any (A : Option Addr) (c n k : Nat) (cs : List Cl) (w : World) (hS : SeeC w A n cs) (hm : n ≤ 10000000000) (hk : k < n) (h2 : ∀ c ∈ cs, ∀ x ∈ c.1, x < 256) :
    Calls Tryz.prog 196 #[.slice A n c, .int .i64 k] w (VRet (wayV cs k) w) := by
  obtain ⟨g, o, rfl, hg, hR⟩ := hS.2 (by omega)
  have HL := Lib.hid hS.1
  have HR := Lib.hid hR
  have H2 := Lib.hid h2
  clear hS h2 hR
  go_enter Tryz.func196, Tryz.ntmps196
  go_wp2
  go_loop [6] (fun v => ∃ m : Nat, v = .int .i64 ((m : Int) - 1) ∧ m ≤ k + 1 ∧ Hid (lastB cs (k + 1) = lastB cs m)) (fun v => (intOf v + 1).toNat)
  case atStart => exact ⟨k + 1, by congr 1; omega, by omega, rfl⟩
  case round =>
    obtain ⟨m, rfl, hmk, HF⟩ := hrel
    cases m with
    | zero =>
      have HE : Hid (wayV cs k = .tuple #[.int .i64 k, .int .i64 0]) := Lib.hid (by unfold wayV; rw [HF.out]; rfl)
      go_wp2
      go_ret2
      exact ⟨by rw [HE.out]; rfl, rfl⟩
    | succ m =>
      obtain ⟨y, hy⟩ : ∃ y, cs[m]? = some y := ⟨_, List.getElem?_eq_getElem (by have := HL.out; omega)⟩
      have hc0 := (HR.out m y hy).1
      have hbl := blank_mk (H2.out y (List.mem_of_getElem? hy))
      have hlb := lastB_step cs m y hy
      rw [show ((m + 1 : Nat) : Int) - 1 = (m : Int) by omega]
      obtain ⟨t, ht⟩ : ∃ t, mkS y.1 = t := ⟨_, rfl⟩
      rw [ht] at hc0 hbl
      by_cases hb : blankC y = true
      · have HE : Hid (wayV cs k = .tuple #[.int .i64 m, .int .i64 1]) := Lib.hid (by unfold wayV; rw [HF.out, hlb, if_pos hb])
        have ht2 : t = ⟨#[32]⟩ := hbl.2 hb
        subst ht2
        clear hbl hlb hb ht hy
        go_wp2
        go_ret2
        exact ⟨by rw [HE.out]; rfl, rfl⟩
      · have HE : Hid (lastB cs (k + 1) = lastB cs m) := Lib.hid (by rw [HF.out, hlb, if_neg hb])
        have ht3 : ¬ t = ⟨#[32]⟩ := fun h => hb (hbl.1 h)
        have ht2 : (t.toList == [32]) = false := by simp; exact fun h => ht3 (ba_toList h)
        clear hbl hlb hb ht hy
        go_wp2
        go_round
        case rel => exact ⟨m, rfl, by omega, HE.out⟩
        case measure => simp [intOf]
theorem ways2_any (A : Option Addr) (c n k : Nat) (w : World) : Calls Tryz.prog 197 #[.slice A n c, .int .i64 k] w (VRet (.tuple #[.int .i64 k, .int .i64 0]) w) := by
  go_enter Tryz.func197, Tryz.ntmps197
  go_wp2
  go_ret2
  exact ⟨rfl, rfl⟩
theorem ways_any (w : World) : Calls Tryz.prog 130 #[] w (VBel (.agg #[.func (.func 196) #[] #[], .func (.func 197) #[] #[]]) w) := by
  go_enter Tryz.func130, Tryz.ntmps130
  go_wp2
  exact bodyPost_ret (v := .agg #[.func (.func 196) #[] #[], .func (.func 197) #[] #[]]) (by simp [results, Tryz.results130, go_sem]) rfl ⟨rfl, (Below.refl _ _).alloc (Nat.le_refl _) _⟩
end Go.Proofs.YtpnjlfnejjjncaaGreatDoor
/-
  The walk of paint.view, at clusters that are all one column wide.
-/
namespace Go.Proofs.YtpnjlfnejjjncaaGreatDoor
open Go.RowKit

/-- How far the caret goes. -/
def car (x : Int) (n : Nat) : Nat := (min (max x 0) n).toNat
def vcol (c w : Nat) : Nat := min c (w - 1)
def vmany (n f w : Nat) : Nat := min (n - f) w
/-- All these clusters are one column wide. -/
def Ones (cs : List Cl) : Prop := ∀ c ∈ cs, c.2 = 1
theorem RdC.one {w : World} {g o : Nat} {cs : List Cl} (h : RdC w g o cs) (h1 : Ones cs) {i : Nat} (hi : i < cs.length) : w.cell? ⟨g, o + i * 2 + 1, none⟩ = some (.int .i64 1) := by
  have := (h i cs[i] (List.getElem?_eq_getElem hi)).2
  rw [h1 _ (List.getElem_mem hi)] at this
  exact this
set_option maxRecDepth 100000 in
set_option maxHeartbeats 2000000 in
theorem view_any (A : Option Addr) (c n : Nat) (x : Int) (wd : Nat) (cs : List Cl) (w : World) (hS : SeeC w A n cs) (h1 : Ones cs) (hm : n ≤ 10000000000) (hx : -9223372036854775808 ≤ x ∧ x ≤ 9223372036854775807) (hw : 1 ≤ wd ∧ wd ≤ 10000000000) :
    Calls Tryz.prog 40 #[.slice A n c, .int .i64 x, .int .i64 wd] w (VRet (.tuple #[.int .i64 ((car x n - vcol (car x n) wd : Nat) : Int), .int .i64 (vmany n (car x n - vcol (car x n) wd) wd : Nat), .int .i64 (vcol (car x n) wd : Nat)]) w) := by
  obtain ⟨q, hq⟩ : ∃ q : Nat, min (max x 0) n = (q : Int) := ⟨(min (max x 0) n).toNat, by omega⟩
  have hqn : q ≤ n := by omega
  have HQ : Hid (car x n = q) := Lib.hid (by unfold car; omega)
  have HS := Lib.hid hS
  have H1 := Lib.hid h1
  clear hS h1 hx
  rw [HQ.out]
  go_enter Tryz.func40, Tryz.ntmps40
  go_upto_region 1 with (fail)
  go_cut [1] (fun v W => v = .int .i64 q ∧ W = w)
  case first =>
    go_wp2
    all_goals
      go_meet
      refine ⟨?_, rfl⟩
      first | (congr 1; omega) | (simp; omega)
  case rest =>
  obtain ⟨rfl, hw0⟩ := hcut
  obtain rfl := hw0.symm
  go_wp2
  go_loopw [9, 10] (fun f co wr => ∃ j k : Nat, f = .int .i64 j ∧ co = .int .i64 k ∧ j + k = q ∧ k ≤ wd - 1 ∧ wr = w) (fun f _ _ => (intOf f).toNat)
  case atStart => exact ⟨q, 0, rfl, rfl, by omega, by omega, rfl⟩
  case round =>
    obtain ⟨j, k, rfl, rfl, hjk, hkw, hw1⟩ := hrel
    obtain rfl := hw1.symm
    go_upto_region 3 with (fail)
    go_cut [33] (fun v W => (∃ t : Bool, v = .bool t ∧ (t = true ↔ (0 < j ∧ k + 1 ≤ wd - 1))) ∧ W = w)
    case first =>
      by_cases hj : j = 0
      · subst hj
        go_wp2
        go_meet
        exact ⟨⟨_, rfl, by simp⟩, rfl⟩
      · obtain ⟨j', rfl⟩ : ∃ j', j = j' + 1 := ⟨j - 1, by omega⟩
        obtain ⟨g, o, rfl, hg, hR⟩ := HS.out.2 (by omega)
        have hc0 := hR.one H1.out (i := j') (by have := HS.out.1; omega)
        clear hR hg
        go_wp2
        all_goals
          go_meet
          exact ⟨⟨_, rfl, by first | (simp; done) | (simp; omega)⟩, rfl⟩
    case rest =>
    obtain ⟨⟨t, rfl, ht⟩, hw2⟩ := hcut
    obtain rfl := hw2.symm
    cases t
    · have hE : ¬ (0 < j ∧ k + 1 ≤ wd - 1) := by simpa using ht
      obtain rfl : k = vcol q wd := by unfold vcol; omega
      obtain ⟨K, hK⟩ : ∃ K, vcol q wd = K := ⟨_, rfl⟩
      have HJ : Hid (q - K = j) := Lib.hid (by omega)
      have HK := Lib.hid hK
      rw [hK] at hjk ⊢
      clear ht hE hkw hK
      go_wp2
      go_loopw [11, 12] (fun a b wr => ∃ m : Nat, a = .int .i64 m ∧ b = .int .i64 m ∧ m ≤ n - j ∧ m ≤ wd ∧ wr = w) (fun a _ _ => n - (intOf a).toNat)
      case atStart => exact ⟨0, rfl, rfl, by omega, by omega, rfl⟩
      case round =>
        obtain ⟨m, rfl, rfl, hm1, hm2, hw1⟩ := hrel
        obtain rfl := hw1.symm
        go_upto_region 7 with (fail)
        go_cut [61] (fun v W => (∃ t : Bool, v = .bool t ∧ (t = true ↔ (j + m < n ∧ m + 1 ≤ wd))) ∧ W = w)
        case first =>
          by_cases hj : n ≤ j + m
          · have hj' : ((j : Int) + m < n) = False := by simp; omega
            go_wp2
            go_meet
            exact ⟨⟨_, rfl, by simp; omega⟩, rfl⟩
          · obtain ⟨i, hi⟩ : ∃ i, j + m = i := ⟨_, rfl⟩
            have hi' : (j : Int) + m = i := by omega
            obtain ⟨g, o, rfl, hg, hR⟩ := HS.out.2 (by omega)
            have hc0 := hR.one H1.out (i := i) (by have := HS.out.1; omega)
            clear hR hg
            go_wp2
            all_goals
              go_meet
              exact ⟨⟨_, rfl, by first | (simp; done) | (simp; omega)⟩, rfl⟩
        case rest =>
        obtain ⟨⟨t, rfl, ht⟩, hw2⟩ := hcut
        obtain rfl := hw2.symm
        cases t
        · have hE : ¬ (j + m < n ∧ m + 1 ≤ wd) := by simpa using ht
          have HM : Hid (vmany n j wd = m) := Lib.hid (by unfold vmany; omega)
          clear ht hE
          go_wp2
          go_ret3
          exact ⟨by rw [HK.out, HJ.out, HM.out]; rfl, rfl⟩
        · have hE : j + m < n ∧ m + 1 ≤ wd := by simpa using ht
          obtain ⟨i, hi⟩ : ∃ i, j + m = i := ⟨_, rfl⟩
          have hi' : (j : Int) + m = i := by omega
          obtain ⟨g, o, rfl, hg, hR⟩ := HS.out.2 (by omega)
          have hc0 := hR.one H1.out (i := i) (by have := HS.out.1; omega)
          clear hR hg ht
          go_wp2
          go_roundw
          case rel => exact ⟨m + 1, by go_num, by go_num, by omega, by omega, by first | rfl | trivial⟩
          case measure => simp [intOf]; try omega
    · have hE : 0 < j ∧ k + 1 ≤ wd - 1 := by simpa using ht
      obtain ⟨j', rfl⟩ : ∃ j', j = j' + 1 := ⟨j - 1, by omega⟩
      obtain ⟨g, o, rfl, hg, hR⟩ := HS.out.2 (by omega)
      have hc0 := hR.one H1.out (i := j') (by have := HS.out.1; omega)
      clear hR hg ht
      go_wp2
      go_roundw
      case rel => exact ⟨j', k + 1, by go_num, by go_num, by omega, by omega, by first | rfl | trivial⟩
      case measure => simp [intOf]; try omega
end Go.Proofs.YtpnjlfnejjjncaaGreatDoor
