/-
  The walk of a measure's of: what is known is told; what is not is worked out, and known.
-/
import Derived.Test.YthhomflonpjbmaaGreatDoorQt02
import Derived.Test.YthhomflonpjbmaaGreatDoorQt18
import Derived.Deep.DeepCutAuto
import Derived.Deep.RegionHeld3
import Derived.Deep.QuietTactic
import Derived.StillTailTactics
import Derived.WalkArith
namespace Go.Proofs.YthhomflonpjbmaaGreatDoor
open Go.RowKit Go.Maps
theorem zeroI (w : World) : (zeroValue 3).run Tryz.prog w = .ok (.int .i64 0) w := by kernel_rfl
/-- What is held while something is worked out: the key's cells, the measure. -/
abbrev OSt (wA : World) (kb : Nat) (n y x : Int) (pm g bk bm nn cc K1 : Nat) (f : Int → Int → Int → Int) (W : World) : Prop :=
  W.cell? ⟨pm, 0, none⟩ = some (.slice (some ⟨g, 0, none⟩) nn cc) ∧ W.cell? ⟨kb, 0, none⟩ = some (.int .i64 n) ∧ W.cell? ⟨kb, 1, none⟩ = some (.int .i64 y) ∧ W.cell? ⟨kb, 2, none⟩ = some (.int .i64 x) ∧
    W.cell? ⟨pm, 2, none⟩ = some (.map (some bm)) ∧ wA.grownBy W (some bm) ∧ MInv W pm g bk bm nn cc K1 f
theorem OSt.start {wA : World} {kb : Nat} {n y x : Int} {pm g bk bm nn cc K K1 : Nat} {f : Int → Int → Int → Int} (M : MInv wA pm g bk bm nn cc K f) (hK : K ≤ K1) (b0 : wA.cell? ⟨kb, 0, none⟩ = some (.int .i64 n)) (b1 : wA.cell? ⟨kb, 1, none⟩ = some (.int .i64 y)) (b2 : wA.cell? ⟨kb, 2, none⟩ = some (.int .i64 x)) : OSt wA kb n y x pm g bk bm nn cc K1 f wA :=
  ⟨M.c0, b0, b1, b2, M.c2, World.grownBy.refl _ _, M.mono hK⟩
theorem OSt.drew {wA : World} {kb : Nat} {n y x : Int} {pm g bk bm nn cc K1 : Nat} {f : Int → Int → Int → Int} {W : World} (h : OSt wA kb n y x pm g bk bm nn cc K1 f W) : OSt wA kb n y x pm g bk bm nn cc K1 f W.drew :=
  ⟨h.1, h.2.1, h.2.2.1, h.2.2.2.1, h.2.2.2.2.1, World.grownBy.trans h.2.2.2.2.2.1 (grownBy_drew _ _), h.2.2.2.2.2.2.kept (grownBy_drew _ none) (by simp) (by simp) (by simp)⟩
theorem OSt.call {wA : World} {kb : Nat} {n y x : Int} {pm g bk bm nn cc K1 : Nat} {f : Int → Int → Int → Int} {W W' : World} (h : OSt wA kb n y x pm g bk bm nn cc K1 f W) (hk : kb ≠ bm) (hg : W.grownBy W' (some bm)) (hM : MInv W' pm g bk bm nn cc K1 f) : OSt wA kb n y x pm g bk bm nn cc K1 f W' :=
  ⟨hM.c0, hg.cell h.2.1 (by simpa using hk), hg.cell h.2.2.1 (by simpa using hk), hg.cell h.2.2.2.1 (by simpa using hk), hM.c2, World.grownBy.trans h.2.2.2.2.2.1 hg, hM⟩
set_option maxRecDepth 100000 in
set_option maxHeartbeats 4000000 in
theorem mof_any (w : World) (pm g bk bm nn cc K K1 : Nat) (f : Int → Int → Int → Int) (n y x : Int) (hn : 0 ≤ n ∧ n < nn) (hwn : (Lit.int .i64 n).wf = true) (hwy : (Lit.int .i64 y).wf = true) (hwx : (Lit.int .i64 x).wf = true)
    (k : Nat) (cap : Array Value) (hf : ∀ args w, (callFunc k args).run Tryz.prog w = .ok (.enter k args) w) (M : MInv w pm g bk bm nn cc K f) (hK : K ≤ K1) (hK1 : K1 < 1000000)
    (v : Int) (hv : I64 v) (hfv : min (max v 0) 4096 = f n y x)
    (HW : ∀ W, w.grownBy W (some bm) → MInv W pm g bk bm nn cc K f → Calls Tryz.prog k (#[.pointer (some ⟨g, n.toNat * 34, none⟩)] ++ cap) W (MPost v W pm g bk bm nn cc K1 f)) :
    Calls Tryz.prog 22 #[.pointer (some ⟨pm, 0, none⟩), .agg #[.int .i64 n, .int .i64 y, .int .i64 x], .func (.func k) #[] cap] w (MPost (f n y x) w pm g bk bm nn cc (K1 + 1) f) := by
  obtain ⟨kl, hkl⟩ := key_reads n y x hwn hwy hwx
  have hG := World.grownBy_alloc w (.cells #[.int .i64 n, .int .i64 y, .int .i64 x] 64) (some bm)
  have c0 := M.c0
  have e1 : (decide (n < 0)) = false := by simp; omega
  have e2 : (decide ((nn : Int) ≤ n)) = false := by simp; omega
  have lp := M.lp
  go_enter Tryz.func22, Tryz.ntmps22
  go_upto_region 1 with (fail)
  go_quiet (fail)
  go_upto_region 3 with (fail)
  generalize hA : World.drewN _ _ = wA
  have gA : w.grownBy wA (some bm) := by rw [← hA]; exact World.grownBy.trans hG (grownBy_drewN _ _ _)
  have b0 : wA.cell? ⟨w.heap.size, 0, none⟩ = some (.int .i64 n) := by rw [← hA]; exact World.cell?_alloc_new _ _ _ _
  have b1 : wA.cell? ⟨w.heap.size, 1, none⟩ = some (.int .i64 y) := by rw [← hA]; exact World.cell?_alloc_new _ _ _ _
  have b2 : wA.cell? ⟨w.heap.size, 2, none⟩ = some (.int .i64 x) := by rw [← hA]; exact World.cell?_alloc_new _ _ _ _
  have hlt : w.heap.size < wA.heap.size := by rw [← hA]; show w.heap.size < (w.alloc _).heap.size; simp
  have hkb : w.heap.size ≠ bm := Nat.ne_of_gt M.lm
  have MA : MInv wA pm g bk bm nn cc K f := by rw [← hA]; exact (M.below (Below.alloc (Below.refl _ _) (Nat.le_refl _) _)).kept (grownBy_drewN _ _ none) (by simp) (by simp) (by simp)
  clear hA M hG c0 lp
  have c0 := MA.c0
  have c2 := MA.c2
  have lp := MA.lp
  obtain ⟨D, hown, hkn⟩ := MA.map
  obtain ⟨v', ps, _, hv'⟩ := hown.look_ok (t := 59) key_keyed Tryz.underlying59 (zeroI wA) (plainElem_int Tryz.underlying3 (by decide)) hkl
  obtain ⟨c, rfl, hc, hwc⟩ := plainElem_int_inv Tryz.underlying3 hv'
  have hc' : D.atKey kl (.lit (.int .i64 0)) = .lit (.int .i64 c) := congrArg Prod.fst hc
  have hrun : ∀ m, (Instr.lookup 59 (.map (some bm)) (.agg #[.int .i64 n, .int .i64 y, .int .i64 x]) true).run Tryz.prog (wA.drewN m) = .ok (.tuple #[.int .i64 c, .bool (Maps.has D kl)]) (wA.drewN m) := fun m => by
    obtain ⟨v2, ps2, h2, hv2⟩ := World.ownsMap.look_ok (w := wA.drewN m) (t := 59) (show (wA.drewN m).ownsMap _ _ _ bm K D from hown) key_keyed Tryz.underlying59 (zeroI _) (plainElem_int Tryz.underlying3 (by decide)) hkl
    obtain ⟨c2, rfl, hc2, _⟩ := plainElem_int_inv Tryz.underlying3 hv2
    have e : D.atKey kl (.lit (.int .i64 0)) = .lit (.int .i64 c2) := congrArg Prod.fst hc2
    rw [hc'] at e
    obtain rfl : c = c2 := by simpa using e
    exact h2
  have HS : Hid (∀ W, Calls Tryz.prog 21 #[.int .i64 v] W (VRet (.int .i64 (f n y x)) W)) := Lib.hid fun W => by rw [← hfv]; exact side_any v hv W
  have HH := Lib.hid HW
  have HWF : Hid ((Lit.int .i64 (f n y x)).wf = true) := Lib.hid (WalkArith.wf_i64 (by omega))
  have HMA := Lib.hid MA
  have HKN := Lib.hid hkn
  have HKL := Lib.hid hkl
  have HO := Lib.hid hown
  have HGA := Lib.hid gA
  have HC := Lib.hid hc'
  clear HW hfv MA hkn hkl hown gA hv' hc hc' hwn hwy hwx hwc hv
  cases hhas : Maps.has D kl with
  | true =>
    simp only [hhas] at hrun
    have hcf : c = f n y x := by
      have := HKN.out n y x kl HKL.out hhas
      rw [HC.out] at this
      simpa using this
    subst hcf
    go_quiet (fail)
    go_wp2
    go_ret
    exact ⟨rfl, World.grownBy.trans HGA.out (grownBy_drewN _ _ _), (HMA.out.kept (grownBy_drewN _ _ none) (by simp) (by simp) (by simp)).mono (by omega)⟩
  | false =>
    simp only [hhas] at hrun
    go_quiet (fail)
    go_upto_region 5 with (fail)
    generalize hB : World.drewN _ _ = wB
    have gB : w.grownBy wB (some bm) := by rw [← hB]; exact World.grownBy.trans HGA.out (grownBy_drewN _ _ _)
    have MB : MInv wB pm g bk bm nn cc K f := by rw [← hB]; exact HMA.out.kept (grownBy_drewN _ _ none) (by simp) (by simp) (by simp)
    have b0' : wB.cell? ⟨w.heap.size, 0, none⟩ = some (.int .i64 n) := by rw [← hB]; exact b0
    have b1' : wB.cell? ⟨w.heap.size, 1, none⟩ = some (.int .i64 y) := by rw [← hB]; exact b1
    have b2' : wB.cell? ⟨w.heap.size, 2, none⟩ = some (.int .i64 x) := by rw [← hB]; exact b2
    have hltB : w.heap.size < wB.heap.size := by rw [← hB]; exact hlt
    clear hB hrun HMA HGA HO HKN HC hhas c0 c2 b0 b1 b2 hlt lp
    have S0 := OSt.start MB hK b0' b1' b2'
    have HGB := Lib.hid gB
    have HMB := Lib.hid MB
    have HCALL := Lib.hid (HH.out wB.drew (World.grownBy.trans gB (grownBy_drew _ _)) (MB.kept (grownBy_drew _ none) (by simp) (by simp) (by simp)))
    have HS0 := Lib.hid S0.drew
    clear gB MB b0' b1' b2' HH
    generalize w.heap.size = kb at *
    obtain ⟨s1, s2, s3, s4, s5, s6, s7⟩ := S0
    have lp : pm < wB.heap.size := HMB.out.lp
    go_region_held3 (fun W => W.cell? ⟨pm, 0, none⟩ = some (.slice (some ⟨g, 0, none⟩) nn cc) ∧ W.cell? ⟨kb, 0, none⟩ = some (.int .i64 n) ∧ W.cell? ⟨kb, 1, none⟩ = some (.int .i64 y) ∧ W.cell? ⟨kb, 2, none⟩ = some (.int .i64 x) ∧ W.cell? ⟨pm, 2, none⟩ = some (.map (some bm)) ∧ wB.grownBy W (some bm) ∧ MInv W pm g bk bm nn cc K1 f)
      ((first | (refine OSt.drew ?_; (refine ⟨?_, ?_, ?_, ?_, ?_, ?_, ?_⟩ <;> assumption)) | (refine ⟨?_, ?_, ?_, ?_, ?_, ?_, ?_⟩ <;> assumption)))
      (first | (go_at_call 21; ((with_reducible refine (HS.out _).mono ?_); rintro e1' w3 ⟨rfl, rfl⟩)) | ((with_reducible refine HCALL.out.mono ?_); rintro e1' w2 ⟨rfl, hg2, hM2⟩; have HS2 := Lib.hid (OSt.call HS0.out hkb hg2 hM2); obtain ⟨u1, u2, u3, u4, u5, u6, u7⟩ := HS2.out))
    all_goals
      go_upto_region 6 with (fail)
      go_still_tail 6, (by kernel_rfl)
      change wpList _ _ _ _ _ w3.drew
      have HS3 := Lib.hid HS2.out.drew
      obtain ⟨t1, t2, t3, t4, t5, t6, t7⟩ := HS3.out
      obtain ⟨D3, hown3, hkn3⟩ := t7.map
      have HG6 := Lib.hid t6
      have HM7 := Lib.hid t7
      have HO3 := Lib.hid hown3
      have HK3 := Lib.hid hkn3
      clear t6 t7 hown3 hkn3 u1 u2 u3 u4 u5 u6 u7 HS3 HS2 HS0 HCALL
      generalize w3.drew = w4 at *
      go_wp2_with (at_mapUpdate; refine wpList_mapUpdate_own _ rfl _ _ _ 59 rfl 64 3 key_keyed Tryz.underlying59 _ bm K1 D3 rfl HO3.out (by unfold maxLen; omega) (keyV n y x) _ _ rfl rfl HKL.out _ [] (plainElem_int Tryz.underlying3 HWF.out) ?_; intro w5 hown5 hgr5)
      go_ret
      exact ⟨rfl, World.grownBy.trans HGB.out (World.grownBy.trans HG6.out hgr5), HM7.out.turned hgr5 hown5 (HK3.out.put HO3.out.isMap HKL.out)⟩
end Go.Proofs.YthhomflonpjbmaaGreatDoor
