/-
  The walks of utf.Decode and utf.Runes.
-/
import Derived.Test.YtpnjlfnejjjncaaGreatDoorCa15
import Derived.Test.YtpnjlfnejjjncaaGreatDoorCa07
import Derived.LoopTactic
set_option linter.unusedVariables false
set_option linter.unusedSimpArgs false
namespace Go.Proofs.YtpnjlfnejjjncaaGreatDoor
open Go.RowKit

def decV (l : List UInt8) : Value := .tuple #[.int .i32 (firstS l).1, .int .i64 (firstS l).2.1]
set_option maxRecDepth 100000 in
set_option maxHeartbeats 1000000 in
theorem decode_any (s : ByteArray) (w : World) (hs : s.size ≤ 1000000000000) : Calls Tryz.prog 245 #[.string s] w (VBel (decV s.data.toList) w) := by
  cases hl : s.data.toList with
  | nil =>
    have e : s = ByteArray.empty := by
      have : s.data = #[] := by simpa using hl
      cases s; simp at this; subst this; rfl
    subst e
    go_enter Tryz.func245, Tryz.ntmps245
    go_wp2
    go_ret2
    exact ⟨rfl, by (repeat (first | exact Below.refl _ _ | assumption | refine below_drewN ?_ _ | refine Below.drew ?_ | (refine Below.alloc ?_ ?bs _; (case bs => first | omega | (simp; done) | (simp; omega))) | (refine Below.setCell ?_ ?bs _; (case bs => first | omega | (simp; done) | (simp; omega)))))⟩
  | cons b cs =>
    have hne : s.toList = b :: cs := by rw [← hl]; simp [ByteArray.toList_eq]
    have hsz : s.size = cs.length + 1 := by
      have := congrArg List.length hl
      simpa using this
    have HF := fun (w' : World) (hc : w'.cell? ⟨w.heap.size, 0, none⟩ = some (.string s)) => first_any 294 #[.pointer (some ⟨w.heap.size, 0, none⟩)] b cs w' (fun _ _ => rfl) (fun i c h => by
      have hi : i < s.size := by rw [hsz]; have := (List.getElem?_eq_some_iff.1 h).1; simpa using this
      have e : c = s[i] := by
        rw [← hl] at h
        obtain ⟨h1, h2⟩ := List.getElem?_eq_some_iff.1 h
        rw [← h2]; rfl
      subst e
      exact decode1_any w.heap.size s i hi w' hc)
    have HF2 : ∀ (w' : World), w'.cell? ⟨w.heap.size, 0, none⟩ = some (.string s) → Calls Tryz.prog 293 #[.func (.func 294) #[] #[.pointer (some ⟨w.heap.size, 0, none⟩)], .int .i64 (s.size : Int)] w' (VRet (firstV (b :: cs)) w') := by
      intro w' hc
      rw [hsz]; exact HF w' hc
    have H := Lib.hid HF2
    clear HF HF2 hsz hl
    have he : s.toList.isEmpty = false := by rw [hne]; rfl
    clear hne
    go_enter Tryz.func245, Tryz.ntmps245
    go_wp2_with (go_at_call 293; ((with_reducible refine (H.out _ (by simp)).mono ?_); rintro e w2 ⟨rfl, rfl⟩; unfold firstV))
    go_ret2
    exact ⟨rfl, by (repeat (first | exact Below.refl _ _ | assumption | refine below_drewN ?_ _ | refine Below.drew ?_ | (refine Below.alloc ?_ ?bs _; (case bs => first | omega | (simp; done) | (simp; omega))) | (refine Below.setCell ?_ ?bs _; (case bs => first | omega | (simp; done) | (simp; omega)))))⟩
end Go.Proofs.YtpnjlfnejjjncaaGreatDoor
/-
  The walk of utf.Runes.
-/
namespace Go.Proofs.YtpnjlfnejjjncaaGreatDoor
open Go.RowKit

theorem elR : ElOK 237 21 1 4 (.int .i32 0) := ⟨Tryz.underlying237, by kernel_rfl, rfl, by decide, by decide⟩
def rv (l : List Nat) : List Value := l.map fun (r : Nat) => .int .i32 r
theorem rv_append (a b : List Nat) : rv (a ++ b) = rv a ++ rv b := List.map_append
theorem blen (s : ByteArray) : s.data.toList.length = s.size := by simp
theorem extract_toList (s : ByteArray) (k : Nat) : (s.extract k s.size).data.toList = s.data.toList.drop k := by
  rw [ByteArray.data_extract, Array.toList_extract]
  simp only [List.extract]
  rw [List.take_of_length_le (by simp)]
def RunesInv (s : ByteArray) (w : World) (k : Nat) (v : Value) (wr : World) : Prop :=
  ∃ pre : List Nat, runesS s.data.toList = pre ++ runesS (s.data.toList.drop k) ∧ pre.length ≤ k ∧ wr.ownsRow w.heap.size 21 1 v pre.length (rv pre) ∧ Below w.heap.size w wr
set_option maxRecDepth 100000 in
set_option maxHeartbeats 1000000 in
theorem runes_any (s : ByteArray) (w : World) (hs : s.size ≤ 100000000000) : Calls Tryz.prog 188 #[.string s] w (VRow 21 1 (runesS s.data.toList).length (rv (runesS s.data.toList)) w) := by
  go_enter Tryz.func188, Tryz.ntmps188
  go_wp2
  go_loopw [3, 4] (fun v i wr => ∃ k : Nat, i = .int .i64 k ∧ k ≤ s.size ∧ RunesInv s w k v wr) (fun _ i _ => s.size - (intOf i).toNat)
  case atStart => exact ⟨0, rfl, by omega, [], rfl, Nat.le_refl _, World.ownsRow_nil _ _ _ _, Below.refl _ _⟩
  case round =>
    obtain ⟨k, rfl, hk, pre, hpre, hpl, hrow, hb⟩ := hrel
    have HP := Lib.hid hpre
    have HB := Lib.hid hb
    have HR := Lib.hid hrow
    clear hpre hb hrow
    by_cases hlt : k < s.size
    · obtain ⟨b, cs, hd⟩ : ∃ b cs, s.data.toList.drop k = b :: cs := by
        have : (s.data.toList.drop k).length = s.size - k := by rw [List.length_drop, blen]
        match h : s.data.toList.drop k with
        | [] => rw [h] at this; simp at this; omega
        | b :: cs => exact ⟨b, cs, rfl⟩
      obtain ⟨⟨r, n, o⟩, hf⟩ : ∃ p, firstS (b :: cs) = p := ⟨_, rfl⟩
      have hsz := firstS_size b cs
      rw [hf] at hsz
      simp only at hsz
      have hlen : (b :: cs).length = s.size - k := by rw [← hd, List.length_drop, blen]
      have hn1 : 1 ≤ n := hsz.1
      have hn2 : k + n ≤ s.size := by omega
      have HV : Hid (decV (s.extract k s.size).data.toList = .tuple #[.int .i32 r, .int .i64 n]) := Lib.hid (by rw [extract_toList, hd]; unfold decV; rw [hf])
      have HN : Hid (runesS s.data.toList = (pre ++ [r]) ++ runesS (s.data.toList.drop (k + n))) := Lib.hid (by
        rw [HP.out, hd]
        conv => lhs; rw [runesS]
        rw [hf]
        simp only
        rw [← hd, List.drop_drop, List.append_assoc]; rfl)
      have hln : pre.length < 1000000000000 := by omega
      have hx : (s.extract k s.size).size ≤ 1000000000000 := by simp [ByteArray.size_extract]; omega
      have HX := Lib.hid hx
      clear hd hf hsz hlen hx
      go_wp2_with (first | (go_at_call 245; ((with_reducible refine (decode_any _ _ HX.out).mono ?_); rw [HV.out]; rintro e w1 ⟨rfl, hb1⟩)) | ((with_reducible apply wpList_append_new elR (B := w.heap.size) (n := pre.length) (xs := rv pre) (nw := #[.int .i32 r])); exact rfl; exact rfl; exact rfl; exact orow_belowSize HR.out hb1; exact Nat.le_trans HB.out.size hb1.size; exact hln; exact rfl; (intro u hu; simp at hu; subst hu; rfl); intro v' w3 hrow3 hgr3 hpl3 K hK))
      go_roundw
      case rel =>
        refine ⟨k + n, by go_num, by omega, pre ++ [r], HN.out, by simp; omega, ?_, ?_⟩
        · rw [rv_append, List.length_append]; exact hrow3
        · exact (((HB.out.trans (hb1.mono HB.out.size)).alloc (Nat.le_trans HB.out.size hb1.size) _).grown hgr3 (by have := HB.out.size; have := hb1.size; simp; omega) (fun k e => (World.ownsRow.lt HR.out k e).1))
      case measure => simp [intOf]; omega
    · obtain rfl : k = s.size := by omega
      have HN : Hid (runesS s.data.toList = pre) := Lib.hid (by
        rw [HP.out, show s.data.toList.drop s.size = [] from List.drop_eq_nil_of_le (by rw [blen]; exact Nat.le_refl _)]; simp [runesS])
      go_wp2
      go_ret
      exact ⟨_, rfl, HB.out, by rw [HN.out]; exact HR.out⟩
end Go.Proofs.YtpnjlfnejjjncaaGreatDoor
