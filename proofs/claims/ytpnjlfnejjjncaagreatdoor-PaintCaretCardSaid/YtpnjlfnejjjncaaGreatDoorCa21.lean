/-
  Plain: the flow of a text of small letters.
-/
import Derived.Test.YtpnjlfnejjjncaaGreatDoorCa08
import Derived.KernelRfl
set_option linter.unusedVariables false
set_option linter.unusedSimpArgs false
namespace Go.Proofs.YtpnjlfnejjjncaaGreatDoor

def lett (b : UInt8) : Prop := 97 ≤ b.toNat ∧ b.toNat ≤ 122
theorem kinds26 : (List.range 26).all (fun i => kindS (97 + i : Nat) == 9) = true := by kernel_rfl
theorem kind_lett {r : Nat} (h : 97 ≤ r ∧ r ≤ 122) : kindS r = 9 := by
  have := List.all_eq_true.1 kinds26 (r - 97) (List.mem_range.2 (by omega))
  rw [show 97 + (r - 97) = r by omega] at this
  exact eq_of_beq this
theorem of_lett {r : Nat} (h : 97 ≤ r ∧ r ≤ 122) : ofS r = 1 := by simp [ofS, kind_lett h]
theorem first_lett {b : UInt8} {l : List UInt8} (h : lett b) : firstS (b :: l) = (b.toNat, 1, false) := by
  have hl : leadS b.toNat = (1, 0, 0) := by unfold leadS lett at *; rw [if_pos (by omega)]
  simp [firstS, hl]
theorem runes_lett : ∀ (l : List UInt8), (∀ b ∈ l, lett b) → runesS l = l.map (·.toNat)
  | [], _ => by unfold runesS; rfl
  | b :: l, h => by
    have hb := h b (by simp)
    have ih := runes_lett l fun x hx => h x (List.mem_cons_of_mem _ hx)
    unfold runesS
    simp only [first_lett hb, List.drop_succ_cons, List.drop_zero, ih, List.map_cons]
def small (r : Nat) : Prop := 97 ≤ r ∧ r ≤ 122
theorem put_small {r : Nat} (h : small r) : putS (Int.ofNat r) = [r] := by
  unfold small at h
  unfold putS
  have h1 : ¬ ((Int.ofNat r) < 0 ∨ (55296 ≤ (Int.ofNat r) ∧ (Int.ofNat r) ≤ 57343) ∨ 1114111 < (Int.ofNat r)) := by
    simp only [Int.ofNat_eq_natCast]; omega
  rw [if_neg h1]
  simp only [Int.ofNat_eq_natCast, Int.toNat_natCast]
  rw [if_pos (by omega)]
theorem text_small : ∀ (l : List Nat), (∀ r ∈ l, small r) → textS l = l
  | [], _ => rfl
  | r :: l, h => by
    have ih := text_small l fun x hx => h x (List.mem_cons_of_mem _ hx)
    unfold textS at ih ⊢
    rw [List.flatMap_cons, put_small (h r (by simp)), ih]; rfl
theorem flowR_small (l : List Nat) (h : ∀ r ∈ l, small r) : flowR l = l := by
  have h1 : l.filter shownS = l := List.filter_eq_self.2 fun r hr => by
    have hk := kind_lett (h r hr)
    unfold shownS
    rw [hk]; simp
  unfold flowR
  rw [h1]
  have h2 : l.map blankS = l.map id := List.map_congr_left fun r hr => by
    have := h r hr
    unfold small at this
    unfold blankS
    rw [if_neg (by omega)]; rfl
  rw [h2, List.map_id]
theorem length_small {r : Nat} {l : List Nat} (hr : small r) (h : ∀ x ∈ l, small x) : lengthS (r :: l) = (1, 1) := by
  simp only [lengthS]
  rw [kind_lett hr, if_neg (by decide)]
  cases l with
  | nil => simp [of_lett hr]
  | cons x xs =>
    have hx := kind_lett (h x (by simp))
    simp only [hx]
    have e : growS 9 9 1 (x :: xs) = 1 := by
      simp only [growS, hx]
      rw [if_neg (by decide)]
    simp [e, of_lett hr]
theorem clusters_small : ∀ (l : List Nat), (∀ r ∈ l, small r) → clustersS l = l.map fun r => ([r], 1)
  | [], _ => by unfold clustersS; rfl
  | r :: l, h => by
    have hr := h r (by simp)
    have hl : ∀ x ∈ l, small x := fun x hx => h x (List.mem_cons_of_mem _ hx)
    have ih := clusters_small l hl
    unfold clustersS
    rw [length_small hr hl]
    simp only [List.take_succ_cons, List.take_zero, List.drop_succ_cons, List.drop_zero, ih, List.map_cons]
    rw [text_small [r] (by simpa using hr)]
theorem toBytes_nat (l : List UInt8) : toBytes (l.map (·.toNat)) = l := by
  unfold toBytes
  rw [List.map_map]
  conv => rhs; rw [← List.map_id l]
  exact List.map_congr_left fun b _ => by simp
/-- The flow of letters: each is a cluster, one column wide. -/
theorem flow_lett (l : List UInt8) (h : ∀ b ∈ l, lett b) : flowS l = l.map fun b => ([b.toNat], 1) := by
  have hs : ∀ r ∈ l.map (·.toNat), small r := fun r hr => by
    obtain ⟨b, hb, rfl⟩ := List.mem_map.1 hr
    exact h b hb
  unfold flowS
  rw [runes_lett l h, flowR_small _ hs, text_small _ hs, toBytes_nat, runes_lett l h, clusters_small _ hs, List.map_map]
  exact List.filter_eq_self.2 fun c hc => by
    obtain ⟨b, _, rfl⟩ := List.mem_map.1 hc
    rfl
end Go.Proofs.YtpnjlfnejjjncaaGreatDoor
