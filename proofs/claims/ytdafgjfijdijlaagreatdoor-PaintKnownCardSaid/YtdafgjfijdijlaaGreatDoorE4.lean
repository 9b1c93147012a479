/- Part of an abstract machine that runs the program's code in Lean's kernel, and of the proof that what it answers every run of the model answers (Go.Eng; program-independent). No condition. -/
import Derived.Test.YtdafgjfijdijlaaGreatDoorE3
namespace Go.Eng
open Go

/-! The trie's laws. -/
namespace T
variable {α : Type}
theorem get_leaf (k : Nat) : (T.leaf : T α).get k = none := rfl
theorem get_node0 (l r : T α) (v : Option α) : (T.node l v r).get 0 = v := rfl
theorem rec_mod (β : Type) (x y : β) (k : Nat) : (Bool.rec (motive := fun _ => β) y x (Nat.beq (Nat.mod k 2) 0)) = if k % 2 = 0 then x else y := by
  show Bool.rec (motive := fun _ => β) y x (Nat.beq (k % 2) 0) = _
  by_cases h : k % 2 = 0
  · simp [h]
  · have : Nat.beq (k % 2) 0 = false := by
      cases hb : Nat.beq (k % 2) 0 with
      | false => rfl
      | true => exact absurd (Nat.eq_of_beq_eq_true hb) h
    simp [h, this]
theorem get_node (l r : T α) (v : Option α) (k : Nat) : (T.node l v r).get (k + 1) = if k % 2 = 0 then l.get (k / 2) else r.get (k / 2) := rec_mod _ _ _ _
theorem single_zero (o : Option α) (k : Nat) : single o 0 k = .leaf := rfl
theorem single_0 (o : Option α) (n : Nat) : single o (n + 1) 0 = .node .leaf o .leaf := rfl
theorem single_succ (o : Option α) (n k : Nat) : single o (n + 1) (k + 1) = if k % 2 = 0 then .node (single o n (k / 2)) none .leaf else .node .leaf none (single o n (k / 2)) := rec_mod _ _ _ _
theorem put_leaf (o : Option α) (k : Nat) : (T.leaf : T α).put o k = single o 64 k := rfl
theorem put_node0 (l r : T α) (v o : Option α) : (T.node l v r).put o 0 = .node l o r := rfl
theorem put_node (l r : T α) (v o : Option α) (k : Nat) : (T.node l v r).put o (k + 1) = if k % 2 = 0 then .node (l.put o (k / 2)) v r else .node l v (r.put o (k / 2)) := rec_mod _ _ _ _

theorem single_get (o : Option α) : ∀ (n k j : Nat) (v : α), (single o n k).get j = some v → j = k ∧ o = some v := by
  intro n
  induction n with
  | zero => intro k j v h; simp [single_zero, get_leaf] at h
  | succ n ih =>
    intro k j v h
    cases k with
    | zero =>
      cases j with
      | zero => simpa [single_0, get_node0] using h
      | succ j => simp only [single_0, get_node, get_leaf] at h; split at h <;> simp at h
    | succ k =>
      rw [single_succ] at h
      cases j with
      | zero => split at h <;> simp [get_node0] at h
      | succ j =>
        by_cases hk : k % 2 = 0
        · rw [if_pos hk, get_node] at h
          by_cases hj : j % 2 = 0
          · rw [if_pos hj] at h
            have := ih _ _ _ h
            exact ⟨by omega, this.2⟩
          · rw [if_neg hj, get_leaf] at h; simp at h
        · rw [if_neg hk, get_node] at h
          by_cases hj : j % 2 = 0
          · rw [if_pos hj, get_leaf] at h; simp at h
          · rw [if_neg hj] at h
            have := ih _ _ _ h
            exact ⟨by omega, this.2⟩
/-- What is got behind a put. -/
theorem put_get (t : T α) (o : Option α) : ∀ (k j : Nat) (v : α), (t.put o k).get j = some v → (j = k ∧ o = some v) ∨ (j ≠ k ∧ t.get j = some v) := by
  induction t with
  | leaf => intro k j v h; rw [put_leaf] at h; exact .inl (single_get _ _ _ _ _ h)
  | node l w r ihl ihr =>
    intro k j v h
    cases k with
    | zero =>
      rw [put_node0] at h
      cases j with
      | zero => exact .inl ⟨rfl, h⟩
      | succ j => exact .inr ⟨by omega, by rw [get_node] at h ⊢; exact h⟩
    | succ k =>
      rw [put_node] at h
      cases j with
      | zero => refine .inr ⟨by omega, ?_⟩; split at h <;> exact h
      | succ j =>
        by_cases hk : k % 2 = 0
        · rw [if_pos hk, get_node] at h
          by_cases hj : j % 2 = 0
          · rw [if_pos hj] at h
            rcases ihl _ _ _ h with ⟨a, b⟩ | ⟨a, b⟩
            · exact .inl ⟨by omega, b⟩
            · exact .inr ⟨by omega, by rw [get_node, if_pos hj]; exact b⟩
          · rw [if_neg hj] at h
            exact .inr ⟨by omega, by rw [get_node, if_neg hj]; exact h⟩
        · rw [if_neg hk, get_node] at h
          by_cases hj : j % 2 = 0
          · rw [if_pos hj] at h
            exact .inr ⟨by omega, by rw [get_node, if_pos hj]; exact h⟩
          · rw [if_neg hj] at h
            rcases ihr _ _ _ h with ⟨a, b⟩ | ⟨a, b⟩
            · exact .inl ⟨by omega, b⟩
            · exact .inr ⟨by omega, by rw [get_node, if_neg hj]; exact b⟩
theorem set_get (t : T α) (k : Nat) (x : α) (j : Nat) (v : α) (h : (t.set k x).get j = some v) : (j = k ∧ x = v) ∨ (j ≠ k ∧ t.get j = some v) := by
  rcases put_get t (some x) k j v h with ⟨a, b⟩ | h
  · exact .inl ⟨a, by simpa using b⟩
  · exact .inr h
theorem del_get (t : T α) (k j : Nat) (v : α) (h : (t.del k).get j = some v) : j ≠ k ∧ t.get j = some v := by
  rcases put_get t none k j v h with ⟨_, b⟩ | h
  · simp at b
  · exact h

theorem single_at (o : Option α) : ∀ (n k j : Nat), k + 2 ≤ 2 ^ n → (single o n k).get j = if j = k then o else none := by
  intro n
  induction n with
  | zero => intro k j h; omega
  | succ n ih =>
    intro k j h
    cases k with
    | zero =>
      cases j with
      | zero => simp [single_0, get_node0]
      | succ j => simp [single_0, get_node, get_leaf]
    | succ k =>
      have hk2 : k / 2 + 2 ≤ 2 ^ n := by
        have : 2 ^ (n + 1) = 2 * 2 ^ n := by rw [Nat.pow_succ]; omega
        omega
      rw [single_succ]
      cases j with
      | zero => split <;> simp [get_node0]
      | succ j =>
        by_cases hk : k % 2 = 0
        · rw [if_pos hk, get_node]
          by_cases hj : j % 2 = 0
          · rw [if_pos hj, ih _ _ hk2]
            by_cases e : j = k
            · subst e; simp
            · rw [if_neg (by omega), if_neg (by omega)]
          · rw [if_neg hj, get_leaf, if_neg (by omega)]
        · rw [if_neg hk, get_node]
          by_cases hj : j % 2 = 0
          · rw [if_pos hj, get_leaf, if_neg (by omega)]
          · rw [if_neg hj, ih _ _ hk2]
            by_cases e : j = k
            · subst e; simp
            · rw [if_neg (by omega), if_neg (by omega)]
theorem put_at (t : T α) (o : Option α) : ∀ (k j : Nat), k + 2 ≤ 2 ^ 64 → (t.put o k).get j = if j = k then o else t.get j := by
  induction t with
  | leaf => intro k j h; rw [put_leaf, single_at _ _ _ _ h, get_leaf]
  | node l w r ihl ihr =>
    intro k j h
    cases k with
    | zero =>
      rw [put_node0]
      cases j with
      | zero => simp [get_node0]
      | succ j => simp [get_node]
    | succ k =>
      rw [put_node]
      cases j with
      | zero => split <;> simp [get_node0]
      | succ j =>
        by_cases hk : k % 2 = 0
        · rw [if_pos hk, get_node, get_node]
          by_cases hj : j % 2 = 0
          · rw [if_pos hj, if_pos hj, ihl _ _ (by omega)]
            by_cases e : j = k
            · subst e; simp
            · rw [if_neg (by omega), if_neg (by omega)]
          · rw [if_neg hj, if_neg hj, if_neg (by omega)]
        · rw [if_neg hk, get_node, get_node]
          by_cases hj : j % 2 = 0
          · rw [if_pos hj, if_pos hj, if_neg (by omega)]
          · rw [if_neg hj, if_neg hj, ihr _ _ (by omega)]
            by_cases e : j = k
            · subst e; simp
            · rw [if_neg (by omega), if_neg (by omega)]
/-- Values laid one behind the other. -/
theorem setAll_at : ∀ (l : List α) (t : T α) (i j : Nat), i + l.length + 2 ≤ 2 ^ 64 → (setAll t i l).get j = if i ≤ j ∧ j < i + l.length then l[j - i]? else t.get j := by
  intro l
  induction l with
  | nil => intro t i j _; rw [if_neg (by simp)]; rfl
  | cons v l ih =>
    intro t i j h
    simp only [List.length_cons] at h
    show (setAll (t.set i v) (i + 1) l).get j = _
    rw [ih _ _ _ (by omega)]
    by_cases h1 : i + 1 ≤ j ∧ j < i + 1 + l.length
    · rw [if_pos h1, if_pos (by simp; omega)]
      have : j - i = (j - (i + 1)) + 1 := by omega
      rw [this, List.getElem?_cons_succ]
    · rw [if_neg h1, T.set, put_at _ _ _ _ (by omega)]
      by_cases e : j = i
      · subst e; simp
      · rw [if_neg e, if_neg (by simp; omega)]
theorem take_spec (f : Nat → Option α) : ∀ (n i : Nat) (l : List α), take f n i = some l → l.length = n ∧ ∀ j, j < n → f (i + j) = l[j]? := by
  intro n
  induction n with
  | zero => intro i l h; simp [take] at h; subst h; simp
  | succ n ih =>
    intro i l h
    unfold take at h
    cases hv : f i with
    | none => simp [hv] at h
    | some v =>
      simp only [hv] at h
      cases hl : take f n (i + 1) with
      | none => simp [hl] at h
      | some r =>
        simp only [hl, Option.some.injEq] at h
        subst h
        obtain ⟨h1, h2⟩ := ih _ _ hl
        refine ⟨by simp [h1], fun j hj => ?_⟩
        cases j with
        | zero => simpa using hv
        | succ j =>
          have := h2 j (by omega)
          rw [show i + (j + 1) = i + 1 + j from by omega, this]
          simp
end T
end Go.Eng
