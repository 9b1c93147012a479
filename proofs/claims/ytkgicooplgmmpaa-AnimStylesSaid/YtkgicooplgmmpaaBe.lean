/-
  What the functions of a chain do, one behind the other.
-/
import Derived.Test.YtkgicooplgmmpaaCh
namespace Go.Proofs.Ytkgicooplgmmpaa
open Go.RowKit

/-- Called in a world of which J c holds, g answers F of what it gets; behind it J (c + n) holds. -/
def Beh (J : Nat → World → Prop) (n : Nat) (F : FL → FL) (g : Value) : Prop :=
  ∃ k cap, g = .func (.func k) #[] cap ∧ (∀ args w, (callFunc k args).run Try.prog w = .ok (.enter k args) w) ∧ ∀ c x w, J c w → Calls Try.prog k (#[.float .f64 x] ++ cap) w fun e w' => ∃ r, fl r = F (fl x) ∧ e = .returned (.float .f64 r) ∧ J (c + n) w'

set_option maxHeartbeats 400000 in
theorem beh_id (J : Nat → World → Prop) : Beh J 0 (fun x => x) (.func (.func 48) #[] #[]) := by
  refine ⟨_, _, rfl, fun _ _ => by kernel_rfl, fun c x w hJ => ?_⟩
  have hJ' := Lib.hid hJ
  clear hJ
  show Calls Try.prog 48 #[.float .f64 x] w _
  go_enter Try.func48, Try.ntmps48
  go_wp2
  go_ret
  exact ⟨x, rfl, rfl, hJ'.out⟩

set_option maxRecDepth 100000 in
set_option maxHeartbeats 1000000 in
theorem beh_link {J : Nat → World → Prop} (hd : ∀ c w, J c w → J c w.drew) {gb ab : Nat} {g a : Value} (hg : ∀ c w, J c w → w.cell? ⟨gb, 0, none⟩ = some g) (ha : ∀ c w, J c w → w.cell? ⟨ab, 0, none⟩ = some a)
    {n1 n2 : Nat} {F1 F2 : FL → FL} (b1 : Beh J n1 F1 a) (b2 : Beh J n2 F2 g) : Beh J (n1 + n2) (fun x => F2 (F1 x)) (.func (.func 49) #[] #[.pointer (some ⟨gb, 0, none⟩), .pointer (some ⟨ab, 0, none⟩)]) := by
  obtain ⟨k1, cap1, rfl, f1, h1⟩ := b1
  obtain ⟨k2, cap2, rfl, f2, h2⟩ := b2
  refine ⟨_, _, rfl, fun _ _ => by kernel_rfl, fun c x w hJ => ?_⟩
  have hJ' := hd _ _ hJ
  have H1 := Lib.hid h1
  have H2 := Lib.hid h2
  have G := Lib.hid hg
  have A := Lib.hid ha
  have hgw := hg _ _ hJ'
  have haw := ha _ _ hJ'
  have HJ := Lib.hid hJ'
  clear hJ hd hg ha h1 h2 hJ'
  show Calls Try.prog 49 #[.float .f64 x, .pointer (some ⟨gb, 0, none⟩), .pointer (some ⟨ab, 0, none⟩)] w _
  go_enter Try.func49, Try.ntmps49
  go_wp2_with fail
  go_region_with (first | ((with_reducible refine (H1.out c x _ HJ.out).mono ?_); rintro e w1 ⟨r1, hr1, rfl, hJ1⟩; have hg1 := G.out _ _ hJ1; have ha1 := A.out _ _ hJ1) | ((with_reducible refine (H2.out _ _ _ (by assumption)).mono ?_); rintro e w2 ⟨r2, hr2, rfl, hJ2⟩))
  all_goals
    go_wp2
    go_ret
    exact ⟨_, by rw [hr2, hr1], rfl, by rw [← Nat.add_assoc]; exact hJ2⟩

/-- What the functions of a list do, the last one first in the list. -/
def comp : List (FL → FL) → FL → FL
  | [], x => x
  | F :: rest, x => F (comp rest x)

/-- The whole chain: each of its functions does n. -/
theorem beh_chain {J : Nat → World → Prop} {w0 : World} {B n : Nat} (hd : ∀ c w, J c w → J c w.drew) (hJ : ∀ c w, J c w → ∀ b, B ≤ b → b < w0.heap.size → w.cell? ⟨b, 0, none⟩ = w0.cell? ⟨b, 0, none⟩) :
    ∀ (gs : List Value) (Fs : List (FL → FL)) (f : Value), gs.length = Fs.length → (∀ (i : Nat) g F, gs[i]? = some g → Fs[i]? = some F → Beh J n F g) → ChainAt w0 B gs f → Beh J (n * gs.length) (comp Fs) f
  | [], [], f, _, _, h => by
    have e : f = .func (.func 48) #[] #[] := h
    rw [e]; exact beh_id J
  | g :: gs, F :: Fs, f, hl, hb, h => by
    obtain ⟨gb, ab, a, h1, h2, h3, h4, rfl, h6, h7, h8⟩ := h
    have ih := beh_chain hd hJ gs Fs a (by simpa using hl) (fun i g F hi hF => hb (i + 1) g F (by simpa using hi) (by simpa using hF)) h8
    have := beh_link hd (gb := gb) (ab := ab) (fun c w hj => (hJ c w hj gb h1 h2).trans h6) (fun c w hj => (hJ c w hj ab h3 h4).trans h7) ih (hb 0 g F rfl rfl)
    rw [show n * (g :: gs).length = n * gs.length + n from by simp [Nat.mul_succ]]
    exact this
end Go.Proofs.Ytkgicooplgmmpaa
