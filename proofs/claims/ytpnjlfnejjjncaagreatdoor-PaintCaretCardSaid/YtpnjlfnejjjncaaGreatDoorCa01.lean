/- Part of an abstract machine that runs the program's code in Lean's kernel, and of the proof that what it answers every run of the model answers (Go.Eng; program-independent). No condition. -/
import Derived.Test.YtpnjlfnejjjncaaGreatDoorCa00
import Derived.Laws.Cells
import Derived.Laws.IdiomCopy
import Derived.Laws.Sem
set_option linter.unusedVariables false
set_option linter.unusedSimpArgs false
set_option linter.unusedSectionVars false
namespace Go.Eng
open Go

/-! The trie's laws. -/
namespace T
variable {α : Type}
theorem get_leaf (k : Nat) : (T.leaf : T α).get k = none := rfl
theorem get_node0 (l r : T α) (v : Option α) : (T.node l v r).get 0 = v := rfl
theorem rec_mod (β : Type) (x y : β) (k : Nat) : (Bool.rec (motive := fun _ => β) y x (Nat.beq (Nat.mod k 2) 0)) = if k % 2 = 0 then x else y := by
  show Bool.rec (motive := fun _ => β) y x (Nat.beq (k % 2) 0) = _
  by_cases h : k % 2 = 0
  · simp [h]
  · have : Nat.beq (k % 2) 0 = false := by
      cases hb : Nat.beq (k % 2) 0 with
      | false => rfl
      | true => exact absurd (Nat.eq_of_beq_eq_true hb) h
    simp [h, this]
theorem get_node (l r : T α) (v : Option α) (k : Nat) : (T.node l v r).get (k + 1) = if k % 2 = 0 then l.get (k / 2) else r.get (k / 2) := rec_mod _ _ _ _
theorem single_zero (o : Option α) (k : Nat) : single o 0 k = .leaf := rfl
theorem single_0 (o : Option α) (n : Nat) : single o (n + 1) 0 = .node .leaf o .leaf := rfl
theorem single_succ (o : Option α) (n k : Nat) : single o (n + 1) (k + 1) = if k % 2 = 0 then .node (single o n (k / 2)) none .leaf else .node .leaf none (single o n (k / 2)) := rec_mod _ _ _ _
theorem put_leaf (o : Option α) (k : Nat) : (T.leaf : T α).put o k = single o 64 k := rfl
theorem put_node0 (l r : T α) (v o : Option α) : (T.node l v r).put o 0 = .node l o r := rfl
theorem put_node (l r : T α) (v o : Option α) (k : Nat) : (T.node l v r).put o (k + 1) = if k % 2 = 0 then .node (l.put o (k / 2)) v r else .node l v (r.put o (k / 2)) := rec_mod _ _ _ _

theorem single_get (o : Option α) : ∀ (n k j : Nat) (v : α), (single o n k).get j = some v → j = k ∧ o = some v := by
  intro n
  induction n with
  | zero => intro k j v h; simp [single_zero, get_leaf] at h
  | succ n ih =>
    intro k j v h
    cases k with
    | zero =>
      cases j with
      | zero => simpa [single_0, get_node0] using h
      | succ j => simp only [single_0, get_node, get_leaf] at h; split at h <;> simp at h
    | succ k =>
      rw [single_succ] at h
      cases j with
      | zero => split at h <;> simp [get_node0] at h
      | succ j =>
        by_cases hk : k % 2 = 0
        · rw [if_pos hk, get_node] at h
          by_cases hj : j % 2 = 0
          · rw [if_pos hj] at h
            have := ih _ _ _ h
            exact ⟨by omega, this.2⟩
          · rw [if_neg hj, get_leaf] at h; simp at h
        · rw [if_neg hk, get_node] at h
          by_cases hj : j % 2 = 0
          · rw [if_pos hj, get_leaf] at h; simp at h
          · rw [if_neg hj] at h
            have := ih _ _ _ h
            exact ⟨by omega, this.2⟩
/-- What is got behind a put. -/
theorem put_get (t : T α) (o : Option α) : ∀ (k j : Nat) (v : α), (t.put o k).get j = some v → (j = k ∧ o = some v) ∨ (j ≠ k ∧ t.get j = some v) := by
  induction t with
  | leaf => intro k j v h; rw [put_leaf] at h; exact .inl (single_get _ _ _ _ _ h)
  | node l w r ihl ihr =>
    intro k j v h
    cases k with
    | zero =>
      rw [put_node0] at h
      cases j with
      | zero => exact .inl ⟨rfl, h⟩
      | succ j => exact .inr ⟨by omega, by rw [get_node] at h ⊢; exact h⟩
    | succ k =>
      rw [put_node] at h
      cases j with
      | zero => refine .inr ⟨by omega, ?_⟩; split at h <;> exact h
      | succ j =>
        by_cases hk : k % 2 = 0
        · rw [if_pos hk, get_node] at h
          by_cases hj : j % 2 = 0
          · rw [if_pos hj] at h
            rcases ihl _ _ _ h with ⟨a, b⟩ | ⟨a, b⟩
            · exact .inl ⟨by omega, b⟩
            · exact .inr ⟨by omega, by rw [get_node, if_pos hj]; exact b⟩
          · rw [if_neg hj] at h
            exact .inr ⟨by omega, by rw [get_node, if_neg hj]; exact h⟩
        · rw [if_neg hk, get_node] at h
          by_cases hj : j % 2 = 0
          · rw [if_pos hj] at h
            exact .inr ⟨by omega, by rw [get_node, if_pos hj]; exact h⟩
          · rw [if_neg hj] at h
            rcases ihr _ _ _ h with ⟨a, b⟩ | ⟨a, b⟩
            · exact .inl ⟨by omega, b⟩
            · exact .inr ⟨by omega, by rw [get_node, if_neg hj]; exact b⟩
theorem set_get (t : T α) (k : Nat) (x : α) (j : Nat) (v : α) (h : (t.set k x).get j = some v) : (j = k ∧ x = v) ∨ (j ≠ k ∧ t.get j = some v) := by
  rcases put_get t (some x) k j v h with ⟨a, b⟩ | h
  · exact .inl ⟨a, by simpa using b⟩
  · exact .inr h
theorem del_get (t : T α) (k j : Nat) (v : α) (h : (t.del k).get j = some v) : j ≠ k ∧ t.get j = some v := by
  rcases put_get t none k j v h with ⟨_, b⟩ | h
  · simp at b
  · exact h

theorem single_at (o : Option α) : ∀ (n k j : Nat), k + 2 ≤ 2 ^ n → (single o n k).get j = if j = k then o else none := by
  intro n
  induction n with
  | zero => intro k j h; omega
  | succ n ih =>
    intro k j h
    cases k with
    | zero =>
      cases j with
      | zero => simp [single_0, get_node0]
      | succ j => simp [single_0, get_node, get_leaf]
    | succ k =>
      have hk2 : k / 2 + 2 ≤ 2 ^ n := by
        have : 2 ^ (n + 1) = 2 * 2 ^ n := by rw [Nat.pow_succ]; omega
        omega
      rw [single_succ]
      cases j with
      | zero => split <;> simp [get_node0]
      | succ j =>
        by_cases hk : k % 2 = 0
        · rw [if_pos hk, get_node]
          by_cases hj : j % 2 = 0
          · rw [if_pos hj, ih _ _ hk2]
            by_cases e : j = k
            · subst e; simp
            · rw [if_neg (by omega), if_neg (by omega)]
          · rw [if_neg hj, get_leaf, if_neg (by omega)]
        · rw [if_neg hk, get_node]
          by_cases hj : j % 2 = 0
          · rw [if_pos hj, get_leaf, if_neg (by omega)]
          · rw [if_neg hj, ih _ _ hk2]
            by_cases e : j = k
            · subst e; simp
            · rw [if_neg (by omega), if_neg (by omega)]
theorem put_at (t : T α) (o : Option α) : ∀ (k j : Nat), k + 2 ≤ 2 ^ 64 → (t.put o k).get j = if j = k then o else t.get j := by
  induction t with
  | leaf => intro k j h; rw [put_leaf, single_at _ _ _ _ h, get_leaf]
  | node l w r ihl ihr =>
    intro k j h
    cases k with
    | zero =>
      rw [put_node0]
      cases j with
      | zero => simp [get_node0]
      | succ j => simp [get_node]
    | succ k =>
      rw [put_node]
      cases j with
      | zero => split <;> simp [get_node0]
      | succ j =>
        by_cases hk : k % 2 = 0
        · rw [if_pos hk, get_node, get_node]
          by_cases hj : j % 2 = 0
          · rw [if_pos hj, if_pos hj, ihl _ _ (by omega)]
            by_cases e : j = k
            · subst e; simp
            · rw [if_neg (by omega), if_neg (by omega)]
          · rw [if_neg hj, if_neg hj, if_neg (by omega)]
        · rw [if_neg hk, get_node, get_node]
          by_cases hj : j % 2 = 0
          · rw [if_pos hj, if_pos hj, if_neg (by omega)]
          · rw [if_neg hj, if_neg hj, ihr _ _ (by omega)]
            by_cases e : j = k
            · subst e; simp
            · rw [if_neg (by omega), if_neg (by omega)]
/-- Values laid one behind the other. -/
theorem setAll_at : ∀ (l : List α) (t : T α) (i j : Nat), i + l.length + 2 ≤ 2 ^ 64 → (setAll t i l).get j = if i ≤ j ∧ j < i + l.length then l[j - i]? else t.get j := by
  intro l
  induction l with
  | nil => intro t i j _; rw [if_neg (by simp)]; rfl
  | cons v l ih =>
    intro t i j h
    simp only [List.length_cons] at h
    show (setAll (t.set i v) (i + 1) l).get j = _
    rw [ih _ _ _ (by omega)]
    by_cases h1 : i + 1 ≤ j ∧ j < i + 1 + l.length
    · rw [if_pos h1, if_pos (by simp; omega)]
      have : j - i = (j - (i + 1)) + 1 := by omega
      rw [this, List.getElem?_cons_succ]
    · rw [if_neg h1, T.set, put_at _ _ _ _ (by omega)]
      by_cases e : j = i
      · subst e; simp
      · rw [if_neg e, if_neg (by simp; omega)]
theorem take_spec (f : Nat → Option α) : ∀ (n i : Nat) (l : List α), take f n i = some l → l.length = n ∧ ∀ j, j < n → f (i + j) = l[j]? := by
  intro n
  induction n with
  | zero => intro i l h; simp [take] at h; subst h; simp
  | succ n ih =>
    intro i l h
    unfold take at h
    cases hv : f i with
    | none => simp [hv] at h
    | some v =>
      simp only [hv] at h
      cases hl : take f n (i + 1) with
      | none => simp [hl] at h
      | some r =>
        simp only [hl, Option.some.injEq] at h
        subst h
        obtain ⟨h1, h2⟩ := ih _ _ hl
        refine ⟨by simp [h1], fun j hj => ?_⟩
        cases j with
        | zero => simpa using hv
        | succ j =>
          have := h2 j (by omega)
          rw [show i + (j + 1) = i + 1 + j from by omega, this]
          simp
end T
end Go.Eng

namespace Go.Eng
open Go

/-! What the abstract machine's values and blocks stand for. -/
/-- Where a block lies: the model's block, the shift, how many cells it has there, how many cells an element takes. -/
structure Im where
  c : Nat
  δ : Nat
  N : Nat
  u : Nat
abbrev Sg := Nat → Option Im

def atomV : Value → Bool
  | .bool _ | .int _ _ | .float _ _ | .complex _ _ _ | .string _ | .nilFunc | .nilIface => true
  | .pointer a => a.isNone
  | .slice a _ _ => a.isNone
  | .map r => r.isNone
  | .chan r => r.isNone
  | _ => false

/-- What the abstract machine does not know, but by name: values that are the same all along. -/
class Env where
  val : Nat → Value
  one : ∀ k, (val k).cells = #[val k] ∧ oneCell (val k) = true
  nb : ∀ k b, val k ≠ .bool b
variable [Env]

mutual
inductive VR (σ : Sg) : Value → Value → Prop
  | atom {v : Value} : atomV v = true → VR σ v v
  | ptr {b o : Nat} {m : Im} : σ b = some m → VR σ (.pointer (some ⟨b, o, none⟩)) (.pointer (some ⟨m.c, o + m.δ, none⟩))
  | slice {b o o' len cap cap' : Nat} {m : Im} : σ b = some m → len ≤ cap → cap ≤ cap' → (cap' = cap ∨ o' + cap' * m.u ≤ m.N) → (o' = o + m.δ ∨ (cap = 0 ∧ o + m.δ ≤ o')) →
      VR σ (.slice (some ⟨b, o, none⟩) len cap) (.slice (some ⟨m.c, o', none⟩) len cap')
  | handle {b o k : Nat} : VR σ (.pointer (some ⟨b, o, some k⟩)) (.pointer (some ⟨b, o, none⟩))
  | tok {k : Nat} : VR σ (.chan (some k)) (Env.val k)
  | map {r : Nat} {m : Im} : σ r = some m → VR σ (.map (some r)) (.map (some m.c))
  | func {fn : Fn} {a b a' b' : List Value} : (∀ l, fn ≠ .yield l) → VRs σ a a' → VRs σ b b' → VR σ (.func fn ⟨a⟩ ⟨b⟩) (.func fn ⟨a'⟩ ⟨b'⟩)
  | yield {l : Nat} {m : Im} : σ l = some m → VR σ (.func (.yield l) #[] #[]) (.func (.yield m.c) #[] #[])
  | iface {t : TypeId} {v v' : Value} : VR σ v v' → VR σ (.iface t v) (.iface t v')
  | agg {l l' : List Value} : VRs σ l l' → VR σ (.agg ⟨l⟩) (.agg ⟨l'⟩)
  | tuple {l l' : List Value} : VRs σ l l' → VR σ (.tuple ⟨l⟩) (.tuple ⟨l'⟩)
inductive VRs (σ : Sg) : List Value → List Value → Prop
  | nil : VRs σ [] []
  | cons {v v' : Value} {l l' : List Value} : VR σ v v' → VRs σ l l' → VRs σ (v :: l) (v' :: l')
end

def Sg.le (σ τ : Sg) : Prop := ∀ b m, σ b = some m → τ b = some m

mutual
theorem VR.mono {σ τ : Sg} (h : σ.le τ) : ∀ {v v' : Value}, VR σ v v' → VR τ v v'
  | _, _, .atom e => .atom e
  | _, _, .ptr e => .ptr (h _ _ e)
  | _, _, .slice e a b c d => .slice (h _ _ e) a b c d
  | _, _, .handle => .handle
  | _, _, .tok => .tok
  | _, _, .map e => .map (h _ _ e)
  | _, _, .func n a b => .func n (VRs.mono h a) (VRs.mono h b)
  | _, _, .yield e => .yield (h _ _ e)
  | _, _, .iface e => .iface (VR.mono h e)
  | _, _, .agg e => .agg (VRs.mono h e)
  | _, _, .tuple e => .tuple (VRs.mono h e)
theorem VRs.mono {σ τ : Sg} (h : σ.le τ) : ∀ {l l' : List Value}, VRs σ l l' → VRs τ l l'
  | _, _, .nil => .nil
  | _, _, .cons a b => .cons (VR.mono h a) (VRs.mono h b)
end

mutual
theorem closed_VR (σ : Sg) : ∀ v : Value, closedV v = true → VR σ v v
  | .bool _, _ | .int _ _, _ | .float _ _, _ | .complex _ _ _, _ | .string _, _ | .nilFunc, _ | .nilIface, _ => .atom rfl
  | .pointer a, h => .atom (by simpa [closedV, atomV] using h)
  | .slice a _ _, h => .atom (by simpa [closedV, atomV] using h)
  | .map a, h => .atom (by simpa [closedV, atomV] using h)
  | .chan a, h => .atom (by simpa [closedV, atomV] using h)
  | .func fn ⟨a⟩ ⟨b⟩, h => by
    simp only [closedV, Bool.and_eq_true] at h
    exact .func (by rintro l rfl; simp at h) (closed_VRs σ a h.1.2) (closed_VRs σ b h.2)
  | .iface _ v, h => .iface (closed_VR σ v (by simpa [closedV] using h))
  | .agg ⟨l⟩, h => .agg (closed_VRs σ l (by simpa [closedV] using h))
  | .tuple ⟨l⟩, h => .tuple (closed_VRs σ l (by simpa [closedV] using h))
theorem closed_VRs (σ : Sg) : ∀ l : List Value, closedVs l = true → VRs σ l l
  | [], _ => .nil
  | v :: l, h => by
    simp only [closedVs, Bool.and_eq_true] at h
    exact .cons (closed_VR σ v h.1) (closed_VRs σ l h.2)
end

mutual
theorem VR.eq_of_closed {σ : Sg} : ∀ {v v' : Value}, VR σ v v' → closedV v = true → v' = v
  | _, _, .atom _, _ => rfl
  | _, _, .ptr _, h => by simp [closedV] at h
  | _, _, .slice _ _ _ _ _, h => by simp [closedV] at h
  | _, _, .handle, h => by simp [closedV] at h
  | _, _, .tok, h => by simp [closedV] at h
  | _, _, .map _, h => by simp [closedV] at h
  | _, _, .func _ a b, h => by
    simp only [closedV, Bool.and_eq_true] at h
    rw [VRs.eq_of_closed a h.1.2, VRs.eq_of_closed b h.2]
  | _, _, .yield _, h => by simp [closedV] at h
  | _, _, .iface e, h => by rw [VR.eq_of_closed e (by simpa [closedV] using h)]
  | _, _, .agg e, h => by rw [VRs.eq_of_closed e (by simpa [closedV] using h)]
  | _, _, .tuple e, h => by rw [VRs.eq_of_closed e (by simpa [closedV] using h)]
theorem VRs.eq_of_closed {σ : Sg} : ∀ {l l' : List Value}, VRs σ l l' → closedVs l = true → l' = l
  | _, _, .nil, _ => rfl
  | _, _, .cons a b, h => by
    simp only [closedVs, Bool.and_eq_true] at h
    rw [VR.eq_of_closed a h.1, VRs.eq_of_closed b h.2]
end

theorem VRs.length {σ : Sg} : ∀ {l l' : List Value}, VRs σ l l' → l'.length = l.length
  | _, _, .nil => rfl
  | _, _, .cons _ b => by simp [VRs.length b]
theorem VRs.get {σ : Sg} : ∀ {l l' : List Value}, VRs σ l l' → ∀ (i : Nat) (v : Value), l[i]? = some v → ∃ v', l'[i]? = some v' ∧ VR σ v v'
  | _, _, .nil, i, v, h => by simp at h
  | _, _, .cons a b, i, v, h => by
    cases i with
    | zero => simp at h; subst h; exact ⟨_, by simp, a⟩
    | succ i => simpa using VRs.get b i v (by simpa using h)
theorem VRs.append {σ : Sg} : ∀ {l l' m m' : List Value}, VRs σ l l' → VRs σ m m' → VRs σ (l ++ m) (l' ++ m')
  | _, _, _, _, .nil, h => h
  | _, _, _, _, .cons a b, h => .cons a (VRs.append b h)
theorem VRs.of_get {σ : Sg} : ∀ {l l' : List Value}, l'.length = l.length → (∀ (i : Nat) (v v' : Value), l[i]? = some v → l'[i]? = some v' → VR σ v v') → VRs σ l l'
  | [], [], _, _ => .nil
  | [], _ :: _, h, _ => by simp at h
  | _ :: _, [], h, _ => by simp at h
  | v :: l, v' :: l', h, hv => .cons (hv 0 v v' rfl rfl) (VRs.of_get (by simpa using h) fun i a b ha hb => hv (i + 1) a b (by simpa using ha) (by simpa using hb))
theorem VR.cells {σ : Sg} {v v' : Value} (h : VR σ v v') : VRs σ v.cells.toList v'.cells.toList := by
  cases h with
  | agg h => exact h
  | atom h => cases v <;> first | (simp [atomV] at h; done) | exact .cons (.atom h) .nil
  | ptr h => exact .cons (.ptr h) .nil
  | slice h a b c d => exact .cons (.slice h a b c d) .nil
  | handle => exact .cons .handle .nil
  | @tok k => rw [(Env.one k).1]; exact .cons .tok .nil
  | map h => exact .cons (.map h) .nil
  | func a b c => exact .cons (.func a b c) .nil
  | yield h => exact .cons (.yield h) .nil
  | iface h => exact .cons (.iface h) .nil
  | tuple h => exact .cons (.tuple h) .nil
theorem VR.oneCell {σ : Sg} {v v' : Value} (h : VR σ v v') : oneCell v' = oneCell v := by
  cases h <;> first | rfl | exact (Env.one _).2
theorem VRs.all_oneCell {σ : Sg} : ∀ {l l' : List Value}, VRs σ l l' → l'.all Eng.oneCell = l.all Eng.oneCell
  | _, _, .nil => rfl
  | _, _, .cons a b => by simp [VR.oneCell a, VRs.all_oneCell b]
theorem VRs.snoc_inv {σ : Sg} {v : Value} {l l' : List Value} (h : VRs σ (v :: l) l') : ∃ v' m, l' = v' :: m ∧ VR σ v v' ∧ VRs σ l m := by
  cases h with
  | cons a b => exact ⟨_, _, rfl, a, b⟩

/-- The slots of a frame. -/
def TR (σ : Sg) (t : T Value) (n : Nat) (tm : Array Value) : Prop := tm.size = n ∧ ∀ i v, t.get i = some v → ∃ v', tm[i]? = some v' ∧ VR σ v v'
theorem TR.mono {σ τ : Sg} (h : σ.le τ) {t : T Value} {n : Nat} {tm : Array Value} (ht : TR σ t n tm) : TR τ t n tm :=
  ⟨ht.1, fun i v hv => let ⟨v', a, b⟩ := ht.2 i v hv; ⟨v', a, b.mono h⟩⟩
theorem TR.set {σ : Sg} {t : T Value} {n : Nat} {tm : Array Value} (ht : TR σ t n tm) (d : Nat) (hd : d < n) {v v' : Value} (hv : VR σ v v') : TR σ (t.set d v) n (tm.setIfInBounds d v') := by
  refine ⟨by simp [ht.1], fun i u hu => ?_⟩
  rcases T.set_get t d v i u hu with ⟨rfl, rfl⟩ | ⟨hne, h⟩
  · exact ⟨v', by rw [Array.getElem?_setIfInBounds]; simp [ht.1, hd], hv⟩
  · obtain ⟨u', h1, h2⟩ := ht.2 i u h
    exact ⟨u', by rw [Array.getElem?_setIfInBounds_ne (Ne.symm hne)]; exact h1, h2⟩

def mayFz (fz : Nat × Nat) (i : Nat) : Prop := fz.1 ≤ i ∧ (i < fz.2 ∨ 2 ^ 64 ≤ fz.2)

/-- An entry of a map. -/
def ER (σ : Sg) (e e' : MapEntry) : Prop := closedV e.key = true ∧ e'.key = e.key ∧ e'.born = e.born ∧ VR σ e.val e'.val
inductive ERs (σ : Sg) : List MapEntry → List MapEntry → Prop
  | nil : ERs σ [] []
  | cons {e e' : MapEntry} {l l' : List MapEntry} : ER σ e e' → ERs σ l l' → ERs σ (e :: l) (e' :: l')
theorem ER.mono {σ τ : Sg} (h : σ.le τ) {e e' : MapEntry} (hh : ER σ e e') : ER τ e e' := ⟨hh.1, hh.2.1, hh.2.2.1, hh.2.2.2.mono h⟩
theorem ERs.mono {σ τ : Sg} (h : σ.le τ) : ∀ {l l' : List MapEntry}, ERs σ l l' → ERs τ l l'
  | _, _, .nil => .nil
  | _, _, .cons a b => .cons (a.mono h) (ERs.mono h b)

/-- What lies in a block. -/
def OR (σ : Sg) (m : Im) : AObj → Obj → Prop
  | .cells t size z u e fz, o => ∃ c fz', o = .cells c e fz' ∧ c.size = m.N ∧ m.u = u ∧ size + m.δ ≤ m.N ∧ size ≤ 2 ^ 60 ∧
      (∀ i v, i < size → cellF t z i = some v → ∃ v', c[i + m.δ]? = some v' ∧ VR σ v v') ∧
      (fz.2 = 0 → fz' = (0, 0)) ∧ (∀ i, fz'.1 ≤ i + m.δ → i + m.δ < fz'.2 → mayFz fz i) ∧ (z ≠ [] → m.δ = 0) ∧ (2 ^ 64 ≤ fz.2 ∨ fz'.1 ≤ fz'.2)
  | .map es clock, o => ∃ es', o = .map es' clock ∧ ERs σ es es'.toList
  | .loop st pe tm n ps as_ bo _, o => ∃ l : Loop, o = .loop l ∧ l.state = st ∧ l.pending = pe ∧ TR σ tm n l.tmps ∧ l.params = ⟨ps⟩ ∧ l.assign = as_ ∧ l.body = bo
  | .deferred op, o => ∃ ds, o = .deferred ds ∧ (op = true → ds = some [])
  | .iter s pos, o => o = .stringIter s pos ∧ m.δ = 0
theorem OR.mono {σ τ : Sg} (h : σ.le τ) {m : Im} {o : AObj} {o' : Obj} (hh : OR σ m o o') : OR τ m o o' := by
  cases o with
  | cells t size z u e fz =>
    obtain ⟨c, fz', a1, a2, a3, a4, a5, a6, a7, a8⟩ := hh
    exact ⟨c, fz', a1, a2, a3, a4, a5, fun i v hi hv => let ⟨v', x, y⟩ := a6 i v hi hv; ⟨v', x, y.mono h⟩, a7, a8⟩
  | map es cl => obtain ⟨es', a, b⟩ := hh; exact ⟨es', a, b.mono h⟩
  | loop st pe tm n ps as_ bo d => obtain ⟨l, a1, a2, a3, a4, a5⟩ := hh; exact ⟨l, a1, a2, a3, a4.mono h, a5⟩
  | deferred op => exact hh
  | iter s pos => exact hh

/-- What the whole memory stands for; 'base': the model's blocks below it are none of the run's own. -/
structure R (P : Program) (base : Nat) (σ : Sg) (A : AS) (W : World) : Prop where
  live : ∀ b o m, A.h.get b = some o → σ b = some m → ∃ o', W.heap[m.c]? = some o' ∧ OR σ m o o'
  inj : ∀ b b' m m', (A.h.get b).isSome → (A.h.get b').isSome → σ b = some m → σ b' = some m' → m.c = m'.c → b = b'
  fresh : ∀ b, A.nx ≤ b → σ b = none
  glob : ∀ g, g < P.globals.size → ∃ m, σ g = some m ∧ m.c = g ∧ m.δ = 0
  high : ∀ b m, σ b = some m → A.lo ≤ b → base ≤ m.c
  low : ∀ b m, σ b = some m → b < A.lo → m.c < base
  base_le : base ≤ W.heap.size
  lonx : A.lo ≤ A.nx
  dom : ∀ b, (A.h.get b).isSome → b < A.nx

def Img (A : AS) (σ : Sg) (c : Nat) : Prop := ∃ b m, (A.h.get b).isSome ∧ σ b = some m ∧ m.c = c ∧ A.lo ≤ b

/-- What lies beside the memory stays. -/
def Rest (W W1 : World) : Prop := W1.os = W.os ∧ W1.output = W.output ∧ W1.tape = W.tape

/-- From one memory to a later one. -/
structure Ext (A : AS) (σ : Sg) (W : World) (A1 : AS) (σ1 : Sg) (W1 : World) : Prop where
  le : σ.le σ1
  same : ∀ b, b < A.nx → σ1 b = σ b
  nx : A.nx ≤ A1.nx
  lo : A1.lo = A.lo
  size : W.heap.size ≤ W1.heap.size
  img : ∀ c, c < W.heap.size → Img A1 σ1 c → Img A σ c
  frame : ∀ c, c < W.heap.size → ¬ Img A σ c → W1.heap[c]? = W.heap[c]?
  rest : Rest W W1

theorem Ext.refl (A : AS) (σ : Sg) (W : World) : Ext A σ W A σ W :=
  ⟨fun _ _ h => h, fun _ _ => rfl, Nat.le_refl _, rfl, Nat.le_refl _, fun _ _ h => h, fun _ _ _ => rfl, rfl, rfl, rfl⟩
theorem Ext.trans {A A1 A2 : AS} {σ σ1 σ2 : Sg} {W W1 W2 : World} (h : Ext A σ W A1 σ1 W1) (k : Ext A1 σ1 W1 A2 σ2 W2) : Ext A σ W A2 σ2 W2 where
  le := fun b m e => k.le b m (h.le b m e)
  same := fun b hb => by rw [k.same b (Nat.lt_of_lt_of_le hb h.nx), h.same b hb]
  nx := Nat.le_trans h.nx k.nx
  lo := by rw [k.lo, h.lo]
  size := Nat.le_trans h.size k.size
  img := fun c hc hi => h.img c hc (k.img c (Nat.lt_of_lt_of_le hc h.size) hi)
  frame := fun c hc hn => by rw [k.frame c (Nat.lt_of_lt_of_le hc h.size) (fun hi => hn (h.img c hc hi)), h.frame c hc hn]
  rest := ⟨k.rest.1.trans h.rest.1, k.rest.2.1.trans h.rest.2.1, k.rest.2.2.trans h.rest.2.2⟩

end Go.Eng

namespace Go.Eng
open Go
variable [Env]

variable {P : Program} {base : Nat} {σ : Sg} {A : AS} {W : World}

def Sg.add (σ : Sg) (b : Nat) (m : Im) : Sg := fun x => if x = b then some m else σ x

theorem Sg.le_add {σ : Sg} {b : Nat} {m : Im} (h : σ b = none) : σ.le (σ.add b m) := by
  intro x y e
  by_cases hx : x = b
  · subst hx; rw [h] at e; simp at e
  · simp [Sg.add, hx, e]
theorem Sg.add_at (σ : Sg) (b : Nat) (m : Im) : σ.add b m b = some m := by simp [Sg.add]
theorem Sg.add_ne (σ : Sg) (b : Nat) (m : Im) {x : Nat} (h : x ≠ b) : σ.add b m x = σ x := by simp [Sg.add, h]

theorem live_ne {b : Nat} {m : Im} (h : R P base σ A W) (e : σ b = some m) : b < A.nx := by
  rcases Nat.lt_or_ge b A.nx with h1 | h1
  · exact h1
  · rw [h.fresh b h1] at e; simp at e

/-- Only what the tape tells has turned. -/
theorem R.same {W1 : World} (h : R P base σ A W) (e : W1.heap = W.heap) : R P base σ A W1 :=
  ⟨by rw [e]; exact h.live, h.inj, h.fresh, h.glob, h.high, h.low, by rw [e]; exact h.base_le, h.lonx, h.dom⟩
theorem Ext.same' {W1 : World} (e : W1.heap = W.heap) (hr : Rest W W1 := by exact ⟨rfl, rfl, rfl⟩) : Ext A σ W A σ W1 :=
  ⟨fun _ _ h => h, fun _ _ => rfl, Nat.le_refl _, rfl, by rw [e]; exact Nat.le_refl _, fun _ _ h => h, fun _ _ _ => by rw [e], hr⟩

/-- A new block. -/
theorem R.new {o : AObj} {o' : Obj} {m : Im} {W1 : World} (h : R P base σ A W) (hW : W1.heap = W.heap.push o') (hm : m.c = W.heap.size) (ho : OR σ m o o') (hr : Rest W W1 := by exact ⟨rfl, rfl, rfl⟩) :
    R P base (σ.add A.nx m) (A.new o) W1 ∧ Ext A σ W (A.new o) (σ.add A.nx m) W1 := by
  have hf : σ A.nx = none := h.fresh _ (Nat.le_refl _)
  have hle : σ.le (σ.add A.nx m) := Sg.le_add hf
  have hlt : ∀ b m', σ b = some m' → b ≠ A.nx := fun b m' e hb => by rw [hb, hf] at e; simp at e
  have hold : ∀ b o1, (A.new o).h.get b = some o1 → (b = A.nx ∧ o = o1) ∨ (b ≠ A.nx ∧ A.h.get b = some o1) := fun b o1 e => T.set_get _ _ _ _ _ e
  have hold' : ∀ b, ((A.new o).h.get b).isSome → b = A.nx ∨ (b ≠ A.nx ∧ (A.h.get b).isSome) := fun b e => by
    obtain ⟨o1, e1⟩ := Option.isSome_iff_exists.1 e
    rcases hold b o1 e1 with ⟨a, _⟩ | ⟨a, b⟩
    · exact .inl a
    · exact .inr ⟨a, by rw [b]; rfl⟩
  have hin : ∀ b o1 m', A.h.get b = some o1 → σ b = some m' → m'.c < W.heap.size := fun b o1 m' e1 e2 => by
    obtain ⟨o2, e3, _⟩ := h.live b o1 m' e1 e2
    exact (Array.getElem?_eq_some_iff.1 e3).1
  refine ⟨⟨?_, ?_, ?_, ?_, ?_, fun b m' e hl => h.low b m' (by rw [Sg.add_ne _ _ _ (fun q => by have := h.lonx; have : b < A.lo := hl; omega)] at e; exact e) hl, ?_, Nat.le_succ_of_le h.lonx, fun b hb => ?_⟩, ⟨hle, ?_, Nat.le_succ _, rfl, ?_, ?_, ?_, hr⟩⟩
  · intro b o1 m' e1 e2
    rcases hold b o1 e1 with ⟨rfl, rfl⟩ | ⟨hb, e1'⟩
    · rw [Sg.add_at] at e2; obtain rfl := Option.some.inj e2
      exact ⟨o', by rw [hW, hm]; simp, ho.mono hle⟩
    · rw [Sg.add_ne _ _ _ hb] at e2
      obtain ⟨o2, e3, e4⟩ := h.live b o1 m' e1' e2
      exact ⟨o2, by rw [hW, Array.getElem?_push, if_neg (by have := (Array.getElem?_eq_some_iff.1 e3).1; omega)]; exact e3, e4.mono hle⟩
  · intro b b' m1 m2 e1 e2 e3 e4 e5
    rcases hold' b e1 with rfl | ⟨hb, l1⟩ <;> rcases hold' b' e2 with rfl | ⟨hb', l2⟩
    · rfl
    · rw [Sg.add_at] at e3; obtain rfl := Option.some.inj e3
      rw [Sg.add_ne _ _ _ hb'] at e4
      obtain ⟨o2, q⟩ := Option.isSome_iff_exists.1 l2
      have := hin _ _ _ q e4; omega
    · rw [Sg.add_at] at e4; obtain rfl := Option.some.inj e4
      rw [Sg.add_ne _ _ _ hb] at e3
      obtain ⟨o2, q⟩ := Option.isSome_iff_exists.1 l1
      have := hin _ _ _ q e3; omega
    · rw [Sg.add_ne _ _ _ hb] at e3; rw [Sg.add_ne _ _ _ hb'] at e4
      exact h.inj _ _ _ _ l1 l2 e3 e4 e5
  · intro b hb
    have hb' : A.nx + 1 ≤ b := hb
    rw [Sg.add_ne _ _ _ (by omega)]; exact h.fresh b (by omega)
  · intro g hg
    obtain ⟨m', e1, e2, e3⟩ := h.glob g hg
    exact ⟨m', hle _ _ e1, e2, e3⟩
  · intro b m' e hl
    by_cases hb : b = A.nx
    · rw [hb, Sg.add_at] at e; obtain rfl := Option.some.inj e; rw [hm]; exact h.base_le
    · rw [Sg.add_ne _ _ _ hb] at e; exact h.high b m' e hl
  · rw [hW, Array.size_push]; exact Nat.le_succ_of_le h.base_le
  · rcases hold' b hb with rfl | ⟨_, q⟩
    · exact Nat.lt_succ_self _
    · exact Nat.lt_succ_of_lt (h.dom b q)
  · intro b hb; exact Sg.add_ne _ _ _ (by omega)
  · rw [hW, Array.size_push]; exact Nat.le_succ _
  · rintro c hc ⟨b, m', e1, e2, e3, e4⟩
    rcases hold' b e1 with rfl | ⟨hb, l1⟩
    · rw [Sg.add_at] at e2; obtain rfl := Option.some.inj e2; omega
    · rw [Sg.add_ne _ _ _ hb] at e2; exact ⟨b, m', l1, e2, e3, e4⟩
  · intro c hc _
    rw [hW, Array.getElem?_push, if_neg (by omega)]

/-- A block's content is turned. -/
theorem R.upd {b : Nat} {m : Im} {o1 : AObj} {o1' : Obj} {W1 : World} (h : R P base σ A W) (hl : (A.h.get b).isSome) (hb : σ b = some m) (hlo : A.lo ≤ b)
    (hs : W1.heap.size = W.heap.size) (hne : ∀ c, c ≠ m.c → W1.heap[c]? = W.heap[c]?) (hat : W1.heap[m.c]? = some o1') (ho : OR σ m o1 o1') (hr : Rest W W1 := by exact ⟨rfl, rfl, rfl⟩) :
    R P base σ (A.put b o1) W1 ∧ Ext A σ W (A.put b o1) σ W1 := by
  have hold : ∀ x o, (A.put b o1).h.get x = some o → (x = b ∧ o1 = o) ∨ (x ≠ b ∧ A.h.get x = some o) := fun x o e => T.set_get _ _ _ _ _ e
  have hold' : ∀ x, ((A.put b o1).h.get x).isSome → (A.h.get x).isSome := fun x e => by
    obtain ⟨o, e1⟩ := Option.isSome_iff_exists.1 e
    rcases hold x o e1 with ⟨rfl, _⟩ | ⟨_, q⟩
    · exact hl
    · rw [q]; rfl
  refine ⟨⟨?_, ?_, h.fresh, h.glob, h.high, h.low, by rw [hs]; exact h.base_le, h.lonx, fun x hx => h.dom x (hold' x hx)⟩, ⟨fun _ _ h => h, fun _ _ => rfl, Nat.le_refl _, rfl, by omega, ?_, ?_, hr⟩⟩
  · intro x o m' e1 e2
    rcases hold x o e1 with ⟨rfl, rfl⟩ | ⟨hx, e1'⟩
    · rw [hb] at e2; obtain rfl := Option.some.inj e2
      exact ⟨o1', hat, ho⟩
    · obtain ⟨o2, e3, e4⟩ := h.live x o m' e1' e2
      refine ⟨o2, ?_, e4⟩
      rw [hne]; exact e3
      intro hc
      exact hx (h.inj x b m' m (by rw [e1']; rfl) hl e2 hb hc)
  · intro x x' m1 m2 l1 l2; exact h.inj x x' m1 m2 (hold' _ l1) (hold' _ l2)
  · rintro c hc ⟨x, m', e1, e2, e3, e4⟩
    exact ⟨x, m', hold' _ e1, e2, e3, e4⟩
  · intro c hc hn
    exact hne c (fun e => hn ⟨b, m, hl, hb, e.symm, hlo⟩)

/-- A block is forgotten. -/
theorem R.kill (b : Nat) (h : R P base σ A W) : R P base σ (A.kill b) W ∧ Ext A σ W (A.kill b) σ W := by
  have hold : ∀ x o, (A.kill b).h.get x = some o → A.h.get x = some o := fun x o e => (T.del_get _ _ _ _ e).2
  have hold' : ∀ x, ((A.kill b).h.get x).isSome → (A.h.get x).isSome := fun x e => by
    obtain ⟨o, e1⟩ := Option.isSome_iff_exists.1 e
    rw [hold x o e1]; rfl
  refine ⟨⟨fun x o m e => h.live x o m (hold _ _ e), fun x x' m1 m2 l1 l2 => h.inj x x' m1 m2 (hold' _ l1) (hold' _ l2), h.fresh, h.glob, h.high, h.low, h.base_le, h.lonx, fun x hx => h.dom x (hold' x hx)⟩,
    ⟨fun _ _ h => h, fun _ _ => rfl, Nat.le_refl _, rfl, Nat.le_refl _, ?_, fun _ _ _ => rfl, rfl, rfl, rfl⟩⟩
  rintro c hc ⟨x, m', e1, e2, e3, e4⟩
  exact ⟨x, m', hold' _ e1, e2, e3, e4⟩

/-- A forgotten block goes on under a new number. -/
theorem R.alias {b : Nat} {m m1 : Im} {o1 : AObj} {o1' : Obj} {W1 : World} (h : R P base σ A W) (hl : (A.h.get b).isSome) (hb : σ b = some m) (hlo : A.lo ≤ b)
    (hs : W1.heap.size = W.heap.size) (hne : ∀ c, c ≠ m.c → W1.heap[c]? = W.heap[c]?) (hat : W1.heap[m.c]? = some o1') (hc : m1.c = m.c) (ho : OR σ m1 o1 o1') (hr : Rest W W1 := by exact ⟨rfl, rfl, rfl⟩) :
    R P base (σ.add A.nx m1) ((A.kill b).new o1) W1 ∧ Ext A σ W ((A.kill b).new o1) (σ.add A.nx m1) W1 := by
  have hf : σ A.nx = none := h.fresh _ (Nat.le_refl _)
  have hle : σ.le (σ.add A.nx m1) := Sg.le_add hf
  have hold : ∀ x o, ((A.kill b).new o1).h.get x = some o → (x = A.nx ∧ o1 = o) ∨ (x ≠ A.nx ∧ x ≠ b ∧ A.h.get x = some o) := fun x o e => by
    rcases T.set_get _ _ _ _ _ e with h | ⟨h1, h2⟩
    · exact .inl h
    · exact .inr ⟨h1, T.del_get _ _ _ _ h2⟩
  have hold' : ∀ x, (((A.kill b).new o1).h.get x).isSome → x = A.nx ∨ (x ≠ A.nx ∧ x ≠ b ∧ (A.h.get x).isSome) := fun x e => by
    obtain ⟨o, e1⟩ := Option.isSome_iff_exists.1 e
    rcases hold x o e1 with ⟨a, _⟩ | ⟨a, c, d⟩
    · exact .inl a
    · exact .inr ⟨a, c, by rw [d]; rfl⟩
  refine ⟨⟨?_, ?_, ?_, ?_, ?_, fun b m' e hl => h.low b m' (by rw [Sg.add_ne _ _ _ (fun q => by have := h.lonx; have : b < A.lo := hl; omega)] at e; exact e) hl, by rw [hs]; exact h.base_le, Nat.le_succ_of_le h.lonx, fun x hx => ?_⟩, ⟨hle, ?_, Nat.le_succ _, rfl, by omega, ?_, ?_, hr⟩⟩
  · intro x o m' e1 e2
    rcases hold x o e1 with ⟨rfl, rfl⟩ | ⟨hx, hxb, e1'⟩
    · rw [Sg.add_at] at e2; obtain rfl := Option.some.inj e2
      exact ⟨o1', by rw [hc]; exact hat, ho.mono hle⟩
    · rw [Sg.add_ne _ _ _ hx] at e2
      obtain ⟨o2, e3, e4⟩ := h.live x o m' e1' e2
      refine ⟨o2, ?_, e4.mono hle⟩
      rw [hne]; exact e3
      intro hcc
      exact hxb (h.inj x b m' m (by rw [e1']; rfl) hl e2 hb hcc)
  · intro x x' m2 m3 e1 e2 e3 e4 e5
    rcases hold' x e1 with rfl | ⟨hx, hxb, l1⟩ <;> rcases hold' x' e2 with rfl | ⟨hx', hxb', l2⟩
    · rfl
    · rw [Sg.add_at] at e3; obtain rfl := Option.some.inj e3
      rw [Sg.add_ne _ _ _ hx'] at e4
      exact absurd (h.inj x' b m3 m l2 hl e4 hb (by rw [← e5, hc])) hxb'
    · rw [Sg.add_at] at e4; obtain rfl := Option.some.inj e4
      rw [Sg.add_ne _ _ _ hx] at e3
      exact absurd (h.inj x b m2 m l1 hl e3 hb (by rw [e5, hc])) hxb
    · rw [Sg.add_ne _ _ _ hx] at e3; rw [Sg.add_ne _ _ _ hx'] at e4
      exact h.inj _ _ _ _ l1 l2 e3 e4 e5
  · intro x hx
    have hx' : A.nx + 1 ≤ x := hx
    rw [Sg.add_ne _ _ _ (by omega)]; exact h.fresh x (by omega)
  · intro g hg
    obtain ⟨m', e1, e2, e3⟩ := h.glob g hg
    exact ⟨m', hle _ _ e1, e2, e3⟩
  · intro x m' e hl'
    by_cases hx : x = A.nx
    · rw [hx, Sg.add_at] at e; obtain rfl := Option.some.inj e; rw [hc]; exact h.high b m hb hlo
    · rw [Sg.add_ne _ _ _ hx] at e; exact h.high x m' e hl'
  · rcases hold' x hx with rfl | ⟨_, _, q⟩
    · exact Nat.lt_succ_self _
    · exact Nat.lt_succ_of_lt (h.dom x q)
  · intro x hx; exact Sg.add_ne _ _ _ (by omega)
  · rintro c hcc ⟨x, m', e1, e2, e3, e4⟩
    rcases hold' x e1 with rfl | ⟨hx, hxb, l1⟩
    · rw [Sg.add_at] at e2; obtain rfl := Option.some.inj e2
      exact ⟨b, m, hl, hb, by rw [← hc]; exact e3, hlo⟩
    · rw [Sg.add_ne _ _ _ hx] at e2; exact ⟨x, m', l1, e2, e3, e4⟩
  · intro c _ hn
    exact hne c (fun e => hn ⟨b, m, hl, hb, e.symm, hlo⟩)

/-- A cell of a block that lives. -/
theorem R.cell {b i : Nat} {m : Im} {t : T Value} {size : Nat} {z : List Value} {u : Nat} {e : TypeId} {fz : Nat × Nat} {v : Value} (h : R P base σ A W)
    (hg : A.h.get b = some (.cells t size z u e fz)) (hb : σ b = some m) (hi : i < size) (hv : cellF t z i = some v) :
    ∃ v', W.cell? ⟨m.c, i + m.δ, none⟩ = some v' ∧ VR σ v v' := by
  obtain ⟨o', e1, c, fz', rfl, _, _, _, _, h6, _⟩ := h.live b _ m hg hb
  obtain ⟨v', e2, e3⟩ := h6 i v hi hv
  exact ⟨v', by simp [World.cell?, e1, e2], e3⟩

theorem cellF_lt {t : T Value} {z : List Value} {i : Nat} {v : Value} (h : cellF t z i = some v) : t.get i = some v ∨ (t.get i = none ∧ nth z (i % z.length) = some v) := by
  unfold cellF at h
  cases ht : t.get i with
  | some x => rw [ht] at h; exact .inl h
  | none => rw [ht] at h; exact .inr ⟨rfl, h⟩
theorem nth_eq : ∀ (l : List Value) (i : Nat), nth l i = l[i]?
  | [], i => by simp [nth]
  | v :: l, 0 => by simp [nth]
  | v :: l, i + 1 => by simp [nth, nth_eq l i]

/-- Cells one behind the other. -/
theorem R.cells {b off n : Nat} {m : Im} {t : T Value} {size : Nat} {z : List Value} {u : Nat} {e : TypeId} {fz : Nat × Nat} {l : List Value} (h : R P base σ A W)
    (hg : A.h.get b = some (.cells t size z u e fz)) (hb : σ b = some m) (hn : off + n ≤ size) (hl : T.take (cellF t z) n off = some l) :
    ∃ l', VRs σ l l' ∧ l'.length = n ∧ ∀ j v', l'[j]? = some v' → W.cell? ⟨m.c, off + m.δ + j, none⟩ = some v' := by
  obtain ⟨h1, h2⟩ := T.take_spec _ _ _ _ hl
  have key : ∀ k, k ≤ n → ∃ l', VRs σ (l.take k) l' ∧ l'.length = k ∧ ∀ j v', l'[j]? = some v' → W.cell? ⟨m.c, off + m.δ + j, none⟩ = some v' := by
    intro k
    induction k with
    | zero => intro _; exact ⟨[], by simpa using VRs.nil, rfl, by simp⟩
    | succ k ih =>
      intro hk
      obtain ⟨l', e1, e2, e3⟩ := ih (by omega)
      have hk' : k < l.length := by omega
      have hv : cellF t z (off + k) = some l[k] := by rw [h2 k (by omega)]; simp [hk']
      obtain ⟨v', e4, e5⟩ := h.cell hg hb (i := off + k) (by omega) hv
      refine ⟨l' ++ [v'], ?_, by simp [e2], ?_⟩
      · rw [List.take_add_one, List.getElem?_eq_getElem hk']
        exact e1.append (.cons e5 .nil)
      · intro j x hx
        rcases Nat.lt_or_ge j k with hj | hj
        · rw [List.getElem?_append_left (by omega)] at hx; exact e3 j x hx
        · rw [List.getElem?_append_right (by omega), e2] at hx
          have : j = k := by
            rcases Nat.lt_or_ge (j - k) 1 with q | q
            · omega
            · rw [List.getElem?_eq_none (by simp; omega)] at hx; simp at hx
          subst this
          simp at hx; subst hx
          rw [show off + m.δ + j = off + j + m.δ from by omega]; exact e4
  obtain ⟨l', e1, e2, e3⟩ := key n (Nat.le_refl _)
  exact ⟨l', by rwa [List.take_of_length_le (by omega)] at e1, e2, e3⟩

end Go.Eng

namespace Go.Eng
open Go
variable [Env]

variable {P : Program} {base : Nat} {σ : Sg} {A : AS} {W : World}

theorem pureRun_run {α : Type} : ∀ (s : Sem α) (a : α), pureRun P s = some a → ∀ w, s.run P w = .ok a w
  | .pure a, b, h, w => by simp only [pureRun, Option.some.injEq] at h; subst h; rfl
  | .program k, b, h, w => by simp only [pureRun] at h; exact pureRun_run (k P) b h w
  | .mark m k, b, h, w => by simp only [pureRun] at h; exact pureRun_run k b h w
  | .choose q k, b, h, w => by
    simp only [pureRun] at h
    split at h
    · rename_i hq; simp only [Sem.run, hq, if_true]; exact pureRun_run (k 0) b h w
    · simp at h
  | .load .., b, h, w => by simp [pureRun] at h
  | .store .., b, h, w => by simp [pureRun] at h
  | .new .., b, h, w => by simp [pureRun] at h
  | .shape .., b, h, w => by simp [pureRun] at h
  | .freeze .., b, h, w => by simp [pureRun] at h
  | .frozen .., b, h, w => by simp [pureRun] at h
  | .getObj .., b, h, w => by simp [pureRun] at h
  | .setObj .., b, h, w => by simp [pureRun] at h
  | .sys .., b, h, w => by simp [pureRun] at h
  | .halt .., b, h, w => by simp [pureRun] at h

/-! Types. -/
theorem run_underlying (t : TypeId) {d : TypeDesc} (h : P.underlying t = some d) (w : World) : (underlying t).run P w = .ok d w := by
  simp [underlying, program, Sem.run, Bind.bind, Sem.bind, h, pure]
theorem run_typeInfo (t : TypeId) {i : TypeInfo} (h : P.info? t = some i) (w : World) : (typeInfo t).run P w = .ok i w := by
  simp [typeInfo, program, Sem.run, Bind.bind, Sem.bind, h, pure]
theorem sizeP_info {t : TypeId} {n : Nat} (h : sizeP P t = some n) : ∃ i, P.info? t = some i ∧ i.size = n := by
  unfold sizeP at h
  cases hi : P.info? t with
  | none => simp [hi] at h
  | some i => simp [hi] at h; exact ⟨i, rfl, h⟩
theorem run_sizeOf (t : TypeId) {n : Nat} (h : sizeP P t = some n) (w : World) : (sizeOf t).run P w = .ok n w := by
  obtain ⟨i, h1, rfl⟩ := sizeP_info h
  simp [sizeOf, run_typeInfo t h1]
theorem run_zeroValue (t : TypeId) {z : List Value} (h : zeroP P t = some z) (w : World) : ∃ v, (zeroValue t).run P w = .ok v w ∧ closedV v = true ∧ v.cells.toList = z := by
  unfold zeroP at h
  cases hi : P.info? t with
  | none => simp [hi] at h
  | some i =>
    simp only [hi] at h
    cases hz : i.zero with
    | none => simp [hz] at h
    | some v =>
      simp only [hz] at h
      cases hc : closedV v with
      | false => simp [hc] at h
      | true =>
        simp [hc] at h
        exact ⟨v, by simp [zeroValue, run_typeInfo t hi, hz], hc, h⟩
theorem run_isAgg (t : TypeId) {b : Bool} (h : isAggP P t = some b) (w : World) : (isAgg t).run P w = .ok b w := by
  unfold isAggP at h
  cases hu : P.underlying t with
  | none => simp [hu] at h
  | some d =>
    rw [hu] at h
    simp only [isAgg, Sem.run_bind, run_underlying t hu, Result.andThen_ok]
    cases d <;> simp at h <;> subst h <;> rfl

/-! Loads. -/
theorem run_loadCellsFrom_at (c o : Nat) : ∀ (l : List Value) (i : Nat) (acc : Array Value) (W : World), (∀ j v, l[j]? = some v → W.cell? ⟨c, o + (i + j), none⟩ = some v) →
    (loadCellsFrom ⟨c, o, none⟩ i l.length acc).run P W = .ok (acc ++ l.toArray) W
  | [], i, acc, W, _ => by simp [loadCellsFrom]
  | v :: l, i, acc, W, h => by
    have h0 : W.cell? ((⟨c, o, none⟩ : Addr).add i) = some v := by
      have := h 0 v rfl
      unfold Addr.add
      by_cases hi : i = 0
      · subst hi; simpa using this
      · simpa [hi] using this
    simp only [List.length_cons, loadCellsFrom, Sem.run_bind]
    have hl : (load ((⟨c, o, none⟩ : Addr).add i)).run P W = .ok v W := by simp [load, Sem.run, h0]
    rw [hl, Result.andThen_ok, run_loadCellsFrom_at c o l (i + 1) (acc.push v) W (fun j x hx => by
      have := h (j + 1) x (by simpa using hx)
      rwa [show i + (j + 1) = i + 1 + j from by omega] at this)]
    simp

theorem load_sound {ty : TypeId} {a a' v : Value} (h : R P base σ A W) (ha : VR σ a a') (hv : aLoad P ty a A = some v) :
    ∃ v', (Instr.loadAt ty a').run P W = .ok v' W ∧ VR σ v v' := by
  unfold aLoad at hv
  split at hv <;> try (simp at hv; done)
  rename_i b off
  cases ha with
  | atom ha => simp [atomV] at ha
  | @ptr _ _ m hb =>
  split at hv <;> try (simp at hv; done)
  rename_i tr size z u e fz hg
  split at hv
  · rename_i hag
    split at hv <;> try (simp at hv; done)
    rename_i n hn
    cases hle : Nat.ble (off + n) size with
    | false => simp [hle] at hv
    | true =>
      simp only [hle, cond_true] at hv
      split at hv <;> try (simp at hv; done)
      rename_i l hl
      simp at hv; subst hv
      obtain ⟨l', e1, e2, e3⟩ := h.cells hg hb (Nat.le_of_ble_eq_true hle) hl
      refine ⟨.agg ⟨l'⟩, ?_, .agg e1⟩
      have := run_loadCellsFrom_at (P := P) m.c (off + m.δ) l' 0 #[] W (fun j v hv => by simpa using e3 j v hv)
      simp only [Instr.loadAt, Instr.sureAddr, loadVar, Sem.run_bind, Sem.run_pure, Result.andThen_ok, run_isAgg ty hag, if_true, run_sizeOf ty hn, loadCells]
      rw [e2] at this
      rw [this]
      simp
  · rename_i hag
    cases hlt : Nat.blt off size with
    | false => simp [hlt] at hv
    | true =>
      simp only [hlt, cond_true] at hv
      obtain ⟨v', e1, e2⟩ := h.cell hg hb (by simpa [Nat.blt, Nat.succ_le_iff] using hlt) hv
      refine ⟨v', ?_, e2⟩
      simp [Instr.loadAt, Instr.sureAddr, loadVar, run_isAgg ty hag, load, Sem.run, e1]
  · simp at hv

/-! Stores. -/
def wr : Array Value → Nat → List Value → Array Value
  | cs, _, [] => cs
  | cs, o, v :: l => wr (cs.setIfInBounds o v) (o + 1) l
theorem wr_size : ∀ (l : List Value) (cs : Array Value) (o : Nat), (wr cs o l).size = cs.size
  | [], _, _ => rfl
  | v :: l, cs, o => by rw [wr, wr_size l]; simp
theorem wr_get : ∀ (l : List Value) (cs : Array Value) (o j : Nat), o + l.length ≤ cs.size → (wr cs o l)[j]? = if o ≤ j ∧ j < o + l.length then l[j - o]? else cs[j]?
  | [], cs, o, j, _ => by rw [if_neg (by simp)]; rfl
  | v :: l, cs, o, j, h => by
    simp only [List.length_cons] at h
    rw [wr, wr_get l _ _ _ (by simp; omega)]
    by_cases h1 : o + 1 ≤ j ∧ j < o + 1 + l.length
    · rw [if_pos h1, if_pos (by simp; omega), show j - o = (j - (o + 1)) + 1 from by omega, List.getElem?_cons_succ]
    · rw [if_neg h1]
      by_cases e : j = o
      · subst e; rw [if_pos (by simp), Array.getElem?_setIfInBounds]; simp; omega
      · rw [if_neg (by simp; omega), Array.getElem?_setIfInBounds_ne (Ne.symm e)]

theorem setCell_heap {c o : Nat} {cs : Array Value} {e : TypeId} {fz : Nat × Nat} {v : Value} (h : W.heap[c]? = some (.cells cs e fz)) :
    (W.setCell ⟨c, o, none⟩ v).heap = W.heap.setIfInBounds c (.cells (cs.setIfInBounds o v) e fz) := by
  obtain ⟨hlt, hat⟩ := Array.getElem?_eq_some_iff.1 h
  simp only [World.setCell]
  apply Array.ext_getElem?
  intro i
  rw [Array.getElem?_modify, Array.getElem?_setIfInBounds]
  by_cases hi : c = i
  · subst hi; simp [hlt, hat]
  · simp [hi]

theorem run_storeCells_own (c o : Nat) (e : TypeId) (fz : Nat × Nat) : ∀ (l : List Value) (i : Nat) (cs : Array Value) (W : World), W.heap[c]? = some (.cells cs e fz) → o + i + l.length ≤ cs.size → l.all oneCell = true →
    (∀ j, j < l.length → ¬ (fz.1 ≤ o + i + j ∧ o + i + j < fz.2)) →
    ∃ W1, (storeCells ⟨c, o, none⟩ l i).run P W = .ok () W1 ∧ W1.heap = W.heap.setIfInBounds c (.cells (wr cs (o + i) l) e fz) ∧ Rest W W1
  | [], i, cs, W, h, _, _, _ => by
    refine ⟨W, by simp [storeCells], ?_, rfl, rfl, rfl⟩
    apply Array.ext_getElem?
    intro j
    rw [Array.getElem?_setIfInBounds]
    by_cases hj : c = j
    · subst hj; simp [wr, (Array.getElem?_eq_some_iff.1 h).1, (Array.getElem?_eq_some_iff.1 h).2]
    · simp [hj]
  | v :: l, i, cs, W, h, hs, h1, hf => by
    simp only [List.length_cons] at hs hf
    simp only [List.all_cons, Bool.and_eq_true] at h1
    have ha : (⟨c, o, none⟩ : Addr).add i = ⟨c, o + i, none⟩ := by
      unfold Addr.add
      by_cases hi : i = 0
      · subst hi; simp
      · simp [hi]
    have hlt : o + i < cs.size := by omega
    have hc : W.cell? ⟨c, o + i, none⟩ = some cs[o + i] := by simp [World.cell?, h, hlt]
    have hz : W.frozen? ⟨c, o + i, none⟩ = false := by
      have := hf 0 (by omega)
      obtain ⟨lo, hi⟩ := fz
      simp only [World.frozen?, h]
      simp at this ⊢
      exact this
    have hst : (store ⟨c, o + i, none⟩ v).run P W = .ok () (W.setCell ⟨c, o + i, none⟩ v) := by
      cases v <;> first | (simp [oneCell] at h1; done) | simp [store, Sem.run, hc, hz]
    have hh := setCell_heap (o := o + i) (v := v) h
    obtain ⟨W1, e1, e2, e3⟩ := run_storeCells_own c o e fz l (i + 1) (cs.setIfInBounds (o + i) v) (W.setCell ⟨c, o + i, none⟩ v)
      (by rw [hh, Array.getElem?_setIfInBounds]; simp [(Array.getElem?_eq_some_iff.1 h).1]) (by simp; omega) h1.2
      (fun j hj => by have := hf (j + 1) (by omega); rwa [show o + i + (j + 1) = o + (i + 1) + j from by omega] at this)
    refine ⟨W1, ?_, ?_, e3⟩
    · rw [storeCells, Sem.run_bind, ha, hst, Result.andThen_ok, e1]
    · rw [e2, hh]
      apply Array.ext_getElem?
      intro j
      simp only [Array.getElem?_setIfInBounds, Array.size_setIfInBounds]
      by_cases hj : c = j
      · subst hj; simp [wr, Nat.add_assoc]
      · simp [hj]

theorem thawed_spec {fz fz' : Nat × Nat} {off n δ : Nat} (h : thawed fz off n = true) (h0 : fz.2 = 0 → fz' = (0, 0)) (hf : ∀ i, fz'.1 ≤ i + δ → i + δ < fz'.2 → mayFz fz i) :
    ∀ j, j < n → ¬ (fz'.1 ≤ off + δ + j ∧ off + δ + j < fz'.2) := by
  intro j hj ⟨h1, h2⟩
  have := hf (off + j) (by omega) (by omega)
  obtain ⟨m1, m2⟩ := this
  simp only [thawed, Bool.or_eq_true, Bool.and_eq_true, Nat.blt] at h
  rcases h with (h | ⟨h, h'⟩) | h
  · have := h0 (Nat.eq_of_beq_eq_true h); subst this; simp at h2
  · have a := Nat.le_of_ble_eq_true h; have b := Nat.le_of_ble_eq_true h'; omega
  · have a := Nat.le_of_ble_eq_true h; omega

/-- Cells written into a block of its own. -/
theorem putCells_sound {b off : Nat} {m : Im} {l l' : List Value} {A1 : AS} (h : R P base σ A W) (hb : σ b = some m) (hl : VRs σ l l') (hp : aPutCells b off l A = some A1) :
    ∃ W1, (storeCells ⟨m.c, off + m.δ, none⟩ l').run P W = .ok () W1 ∧ R P base σ A1 W1 ∧ Ext A σ W A1 σ W1 := by
  unfold aPutCells at hp
  split at hp <;> try (simp at hp; done)
  rename_i tr size z u e fz hg
  cases hcond : (Nat.ble A.lo b && Nat.ble (off + l.length) size && thawed fz off l.length && l.all oneCell) with
  | false => simp [hcond] at hp
  | true =>
    simp only [hcond, cond_true, Option.some.injEq] at hp
    subst hp
    simp only [Bool.and_eq_true] at hcond
    obtain ⟨⟨⟨hlo, hsz⟩, hth⟩, hone⟩ := hcond
    have hsz' := Nat.le_of_ble_eq_true hsz
    obtain ⟨o', e1, c, fz', rfl, hN, hu, hle, h60, hcell, hz0, hfz, hδ⟩ := h.live b _ m hg hb
    have hlen : l'.length = l.length := hl.length
    obtain ⟨W1, r1, r2, r3⟩ := run_storeCells_own (P := P) m.c (off + m.δ) e fz' l' 0 c W e1 (by omega) (by rw [hl.all_oneCell]; exact hone)
      (fun j hj => by simpa using thawed_spec hth hz0 hfz j (by omega))
    refine ⟨W1, r1, ?_⟩
    have hclt := (Array.getElem?_eq_some_iff.1 e1).1
    refine h.upd (m := m) (o1' := .cells (wr c (off + m.δ) l') e fz') (by rw [hg]; rfl) hb (Nat.le_of_ble_eq_true hlo) (by rw [r2]; simp) (fun x hx => by rw [r2, Array.getElem?_setIfInBounds_ne (Ne.symm hx)])
      (by rw [r2, Array.getElem?_setIfInBounds]; simp [hclt]) ?_ r3
    refine ⟨_, fz', rfl, by rw [wr_size]; exact hN, hu, hle, h60, ?_, hz0, hfz, hδ⟩
    intro i v hi hv
    rw [wr_get _ _ _ _ (by omega)]
    have hat := T.setAll_at l tr off i (by omega)
    by_cases hin : off ≤ i ∧ i < off + l.length
    · rw [if_pos hin] at hat
      rw [if_pos (by omega)]
      have hv' : l[i - off]? = some v := by
        rcases cellF_lt hv with hq | ⟨hq, _⟩
        · rw [hat] at hq; exact hq
        · rw [hat, List.getElem?_eq_none_iff] at hq; omega
      obtain ⟨v', q1, q2⟩ := hl.get _ _ hv'
      exact ⟨v', by rw [show i + m.δ - (off + m.δ) = i - off from by omega]; exact q1, q2⟩
    · rw [if_neg hin] at hat
      rw [if_neg (by omega)]
      refine hcell i v hi ?_
      unfold cellF at hv ⊢
      rw [hat] at hv
      exact hv

theorem store_sound {ty : TypeId} {a a' v v' : Value} {A1 : AS} (h : R P base σ A W) (ha : VR σ a a') (hv : VR σ v v') (hs : aStore P ty a v A = some A1) :
    ∃ W1, (Instr.storeAt ty a' v').run P W = .ok () W1 ∧ R P base σ A1 W1 ∧ Ext A σ W A1 σ W1 := by
  unfold aStore at hs
  split at hs <;> try (simp at hs; done)
  rename_i b off
  cases ha with
  | atom ha => simp [atomV] at ha
  | @ptr _ _ m hb =>
  split at hs <;> try (simp at hs; done)
  rename_i n hn
  cases hq : Nat.beq v.cells.size n with
  | false => simp [hq] at hs
  | true =>
    simp only [hq, cond_true] at hs
    have hq' := Nat.eq_of_beq_eq_true hq
    obtain ⟨W1, e1, e2⟩ := putCells_sound h hb hv.cells hs
    refine ⟨W1, ?_, e2⟩
    have hlen := hv.cells.length
    simp only [Array.length_toList] at hlen
    simp only [Instr.storeAt, Instr.sureAddr, storeVar, Sem.run_bind, Sem.run_pure, Result.andThen_ok, run_sizeOf ty hn]
    rw [if_neg (by omega)]
    exact e1

end Go.Eng
/- Part of an abstract machine that runs the program's code in Lean's kernel, and of the proof that what it answers every run of the model answers (Go.Eng; program-independent). No condition. -/
set_option linter.unusedSectionVars false
namespace Go.Eng
open Go
variable [Env]

variable {P : Program} {base : Nat} {σ : Sg} {A : AS} {W : World} {t : T Value} {n : Nat} {a : Act}

/-- What an operation's run must be, where the abstract one answers r and leaves A1. -/
def OpSim (P : Program) (base : Nat) (σ : Sg) (A : AS) (W : World) (run : Result Next) (r : ANext) (A1 : AS) : Prop := match r with
  | .value v => ∃ σ1 W1 v', (run = .ok (.value v') W1 ∨ (run = .ok .skip W1 ∧ v' = undef)) ∧ R P base σ1 A1 W1 ∧ Ext A σ W A1 σ1 W1 ∧ VR σ1 v v'
  | .enter f args => ∃ args', run = (callFunc f ⟨args'⟩).run P W ∧ VRs σ args args' ∧ A1 = A
  | .yield l args => ∃ m args', σ l = some m ∧ run = (Instr.yield m.c ⟨args'⟩).run P W ∧ VRs σ args args' ∧ A1 = A

theorem sim_value {run : Result Next} {v v' : Value} (h : R P base σ A W) (hr : run = .ok (.value v') W) (hv : VR σ v v') : OpSim P base σ A W run (.value v) A :=
  ⟨σ, W, v', .inl hr, h, Ext.refl _ _ _, hv⟩

theorem eval_sound (h : R P base σ A W) (ht : TR σ t n a.tmps) {x : Operand} {v : Value} (hx : aEval P x t = some v) : VR σ v (a.eval x) := by
  cases x with
  | tmp i =>
    obtain ⟨v', e1, e2⟩ := ht.2 i v hx
    simp [Act.eval, e1]; exact e2
  | const c =>
    simp only [aEval, constV] at hx
    cases hc : closedV c with
    | false => simp [hc] at hx
    | true => simp [hc] at hx; subst hx; exact closed_VR σ c hc
  | global g =>
    simp only [aEval, globV] at hx
    cases hc : Nat.blt g P.globals.size with
    | false => simp [hc] at hx
    | true =>
      simp [hc] at hx; subst hx
      obtain ⟨m, e1, e2, e3⟩ := h.glob g (by simpa [Nat.blt, Nat.succ_le_iff] using hc)
      have := VR.ptr (o := 0) e1
      rw [e2, e3] at this; exact this
  | func f => simp [aEval] at hx; subst hx; exact closed_VR σ _ (by simp [closedV, closedVs])

theorem evals_sound (h : R P base σ A W) (ht : TR σ t n a.tmps) : ∀ {l : List Operand} {vs : List Value}, evals P t l = some vs → VRs σ vs (l.map a.eval)
  | [], vs, e => by simp [evals] at e; subst e; exact .nil
  | x :: l, vs, e => by
    simp only [evals] at e
    cases h1 : aEval P x t with
    | none => simp [h1] at e
    | some v =>
      simp only [h1] at e
      cases h2 : evals P t l with
      | none => simp [h2] at e
      | some vs' => simp [h2] at e; subst e; exact .cons (eval_sound h ht h1) (evals_sound h ht h2)

theorem pureRun_bind {α β : Type} : ∀ (s : Sem α) (f : α → Sem β), pureRun P (s.bind f) = (pureRun P s).bind fun a => pureRun P (f a)
  | .pure a, f => rfl
  | .program k, f => by simp only [Sem.bind, pureRun]; exact pureRun_bind (k P) f
  | .mark m k, f => by simp only [Sem.bind, pureRun]; exact pureRun_bind k f
  | .choose q k, f => by
    simp only [Sem.bind, pureRun]
    split
    · exact pureRun_bind (k 0) f
    · rfl
  | .load .., f => rfl
  | .store .., f => rfl
  | .new .., f => rfl
  | .shape .., f => rfl
  | .freeze .., f => rfl
  | .frozen .., f => rfl
  | .getObj .., f => rfl
  | .setObj .., f => rfl
  | .sys .., f => rfl
  | .halt .., f => rfl
theorem pureRun_bind' {α β : Type} (s : Sem α) (f : α → Sem β) : pureRun P (s >>= f) = (pureRun P s).bind fun a => pureRun P (f a) := pureRun_bind s f
theorem pureRun_pure {α : Type} (x : α) : pureRun P (pure x : Sem α) = some x := rfl
theorem pureRun_program : pureRun P program = some P := rfl
theorem pureRun_halt {α : Type} (h : Halt) : pureRun P (.halt h : Sem α) = none := rfl

/-- A pure operation. -/
theorem allClosed_spec (h : R P base σ A W) (ht : TR σ t n a.tmps) : ∀ {l : List Operand}, allClosed P t l = true → ∀ x ∈ l, (aEval P x t).getD undef = a.eval x
  | [], _, x, hx => by simp at hx
  | y :: l, e, x, hx => by
    simp only [allClosed, Bool.and_eq_true] at e
    rcases List.mem_cons.1 hx with rfl | hx
    · cases h1 : aEval P x t with
      | none => simp [h1] at e
      | some v =>
        simp only [h1] at e
        simp only [Option.getD_some]
        exact ((eval_sound h ht h1).eq_of_closed e.1).symm
    · exact allClosed_spec h ht e.2 x hx
theorem pure_sound {o : Oper} {r : ANext} {A1 : AS} (hs : ∀ cs b, o.op ≠ .select cs b) (h : R P base σ A W) (ht : TR σ t n a.tmps) (e : aPure P o t A = some (r, A1)) :
    OpSim P base σ A W ((execOp a.eval o).run P W) r A1 := by
  unfold aPure at e
  cases hc : allClosed P t o.op.operands.toList with
  | false => simp [hc] at e
  | true =>
    simp only [hc, cond_true] at e
    have heq : execOp (fun x => (aEval P x t).getD undef) o = execOp a.eval o :=
      execOp_congr o hs fun x hx => allClosed_spec h ht hc x (by simpa using hx)
    rw [heq] at e
    split at e <;> try (simp at e; done)
    rename_i v hv
    cases hcv : closedV v with
    | false => simp [hcv] at e
    | true =>
      simp [hcv] at e
      obtain ⟨rfl, rfl⟩ := e
      exact sim_value h (pureRun_run _ _ hv W) (closed_VR σ v hcv)

theorem okA_inv {o : Option Value} {r : ANext} {A1 : AS} (e : okA A o = some (r, A1)) : ∃ v, o = some v ∧ r = .value v ∧ A1 = A := by
  unfold okA at e
  cases o with
  | none => simp at e
  | some v => simp at e; exact ⟨v, rfl, e.1.symm, e.2.symm⟩

theorem move_sound {x : Operand} {r : ANext} {A1 : AS} (h : R P base σ A W) (ht : TR σ t n a.tmps) (e : xMove P x t A = some (r, A1)) :
    OpSim P base σ A W (.ok (.value (a.eval x)) W) r A1 := by
  obtain ⟨v, e1, rfl, rfl⟩ := okA_inv e
  exact sim_value h rfl (eval_sound h ht e1)

theorem pick_sound {c x y : Operand} {r : ANext} {A1 : AS} (h : R P base σ A W) (ht : TR σ t n a.tmps) (e : xPick P c x y t A = some (r, A1)) :
    OpSim P base σ A W ((do pure (.value (if ← asBool (a.eval c) then a.eval x else a.eval y)) : Sem Next).run P W) r A1 := by
  unfold xPick pickV at e
  split at e <;> try (simp at e; done)
  rename_i b hb
  split at e <;> try (simp at e; done)
  rename_i u v hu hv
  simp at e
  obtain ⟨rfl, rfl⟩ := e
  have hb' := eval_sound h ht hb
  have : a.eval c = .bool b := hb'.eq_of_closed rfl
  refine sim_value (v' := if b then a.eval x else a.eval y) h (by simp [this, asBool]) ?_
  cases b
  · simpa using eval_sound h ht hv
  · simpa using eval_sound h ht hu

theorem newC_inv {v : Value} {tr : T Value} {size : Nat} {z : List Value} {u : Nat} {e : TypeId} {fz : Nat × Nat} {r : ANext} {A1 : AS} (h : newC A v tr size z u e fz = some (r, A1)) :
    size ≤ 2 ^ 60 ∧ r = .value v ∧ A1 = A.new (.cells tr size z u e fz) := by
  unfold newC at h
  cases hc : Nat.ble size (2 ^ 60) with
  | false => simp [hc] at h
  | true => simp [hc] at h; exact ⟨Nat.le_of_ble_eq_true hc, h.1.symm, h.2.symm⟩

/-- A new block of cells, whole. -/
theorem R.newCells {tr : T Value} {size : Nat} {z : List Value} {u : Nat} {e : TypeId} {cs : Array Value} {fz : Nat × Nat} (h : R P base σ A W) (h60 : size ≤ 2 ^ 60) (hs : size ≤ cs.size)
    (hc : ∀ i v, i < size → cellF tr z i = some v → ∃ v', cs[i]? = some v' ∧ VR σ v v') :
    ∃ m, m.c = W.heap.size ∧ m.δ = 0 ∧ m.u = u ∧ m.N = cs.size ∧ σ A.nx = none ∧
      R P base (σ.add A.nx m) (A.new (.cells tr size z u e fz)) { W with heap := W.heap.push (.cells cs e) } ∧
      Ext A σ W (A.new (.cells tr size z u e fz)) (σ.add A.nx m) { W with heap := W.heap.push (.cells cs e) } := by
  refine ⟨⟨W.heap.size, 0, cs.size, u⟩, rfl, rfl, rfl, rfl, h.fresh _ (Nat.le_refl _), ?_⟩
  refine h.new (o' := .cells cs e) rfl rfl ⟨cs, (0, 0), rfl, rfl, rfl, by simpa using hs, h60, fun i v hi hv => ?_, fun _ => rfl, fun i _ h2 => by simp at h2, fun _ => rfl, .inr (Nat.le_refl _)⟩
  obtain ⟨v', a, b⟩ := hc i v hi hv
  exact ⟨v', by simpa using a, b⟩

theorem run_newRow (e : TypeId) (cs : Array Value) (W : World) : (newRow e cs).run P W = .ok ⟨W.heap.size, 0, none⟩ { W with heap := W.heap.push (.cells cs e) } := by
  simp [newRow, newObj, Sem.run, Bind.bind, Sem.bind, pure]

theorem VRs.setAll_cell {l l' : List Value} (hl : VRs σ l l') (h60 : l.length ≤ 2 ^ 60) (i : Nat) (v : Value) (hi : i < l.length) (hv : cellF (T.setAll .leaf 0 l) [] i = some v) : ∃ v', l'[i]? = some v' ∧ VR σ v v' := by
  have hat := T.setAll_at l (.leaf : T Value) 0 i (by omega)
  rw [if_pos (by omega)] at hat
  rcases cellF_lt hv with hq | ⟨_, hq⟩
  · rw [hat] at hq; exact hl.get _ _ (by simpa using hq)
  · simp [nth] at hq

theorem VRs.leaf_cell {l l' : List Value} (hl : VRs σ l l') (i : Nat) (v : Value) (hi : i < l.length) (hv : cellF .leaf l i = some v) : ∃ v', l'[i]? = some v' ∧ VR σ v v' := by
  rcases cellF_lt hv with hq | ⟨_, hq⟩
  · simp [T.get_leaf] at hq
  · rw [nth_eq, Nat.mod_eq_of_lt hi] at hq
    exact hl.get i v hq

theorem alloc_sound {e : TypeId} {r : ANext} {A1 : AS} (h : R P base σ A W) (he : xAlloc P e t A = some (r, A1)) :
    OpSim P base σ A W ((do pure (.value (← Instr.alloc e true (.tuple #[]))) : Sem Next).run P W) r A1 := by
  unfold xAlloc at he
  split at he <;> try (simp at he; done)
  rename_i z hz
  obtain ⟨h60, rfl, rfl⟩ := newC_inv he
  obtain ⟨zv, hr, hcl, hzz⟩ := run_zeroValue e hz W
  have hcc : VRs σ z z := by rw [← hzz]; exact (closed_VR σ zv hcl).cells
  obtain ⟨m, m1, m2, m3, m4, m5, h1, h2⟩ := h.newCells (tr := .leaf) (size := z.length) (z := z) (u := z.length) (e := e) (cs := zv.cells) h60 (by rw [← Array.length_toList, hzz]; exact Nat.le_refl _) (fun i v hi hv => by
    rcases cellF_lt hv with hq | ⟨_, hq⟩
    · simp [T.get_leaf] at hq
    · rw [nth_eq, Nat.mod_eq_of_lt hi] at hq
      obtain ⟨v', q1, q2⟩ := hcc.get i v hq
      exact ⟨v', by rw [← Array.getElem?_toList, hzz]; exact q1, q2⟩)
  refine ⟨_, _, .pointer (some ⟨W.heap.size, 0, none⟩), .inl ?_, h1, h2, ?_⟩
  · simp [Instr.alloc, hr, newVar, run_newRow]
  · have := VR.ptr (o := 0) (Sg.add_at σ A.nx m)
    rw [m1, m2] at this; exact this

theorem box_sound {e : TypeId} {x : Operand} {r : ANext} {A1 : AS} (h : R P base σ A W) (ht : TR σ t n a.tmps) (he : xBox P e x t A = some (r, A1)) :
    OpSim P base σ A W ((do pure (.value (← Instr.box e (a.eval x))) : Sem Next).run P W) r A1 := by
  unfold xBox boxV at he
  split at he <;> try (simp at he; done)
  rename_i v hv
  obtain ⟨h60, rfl, rfl⟩ := newC_inv he
  have hv' := eval_sound h ht hv
  have hl := hv'.cells
  have hlen := hl.length
  simp only [Array.length_toList] at hlen
  obtain ⟨m, m1, m2, m3, m4, m5, h1, h2⟩ := h.newCells (tr := .leaf) (size := v.cells.size) (z := v.cells.toList) (u := v.cells.size) (e := e) (cs := (a.eval x).cells) h60 (by omega) (fun i u hi hu => by
    obtain ⟨v', q1, q2⟩ := hl.leaf_cell i u (by simpa using hi) hu
    exact ⟨v', by simpa using q1, q2⟩)
  refine ⟨_, _, .pointer (some ⟨W.heap.size, 0, none⟩), .inl ?_, h1, h2, ?_⟩
  · simp [Instr.box, newVar, run_newRow]
  · have := VR.ptr (o := 0) (Sg.add_at σ A.nx m)
    rw [m1, m2] at this; exact this

theorem xload_sound {ty : TypeId} {x : Operand} {r : ANext} {A1 : AS} (h : R P base σ A W) (ht : TR σ t n a.tmps) (he : xLoad P ty x t A = some (r, A1)) :
    OpSim P base σ A W ((do pure (.value (← Instr.loadAt ty (a.eval x))) : Sem Next).run P W) r A1 := by
  unfold xLoad loadV at he
  split at he <;> try (simp at he; done)
  rename_i v hv
  obtain ⟨u, e1, rfl, rfl⟩ := okA_inv he
  obtain ⟨u', e2, e3⟩ := load_sound h (eval_sound h ht hv) e1
  exact sim_value h (by simp [e2]) e3

theorem xstore_sound {ty : TypeId} {x y : Operand} {r : ANext} {A1 : AS} (h : R P base σ A W) (ht : TR σ t n a.tmps) (he : xStore P ty x y t A = some (r, A1)) :
    OpSim P base σ A W ((do Instr.storeAt ty (a.eval x) (a.eval y); pure .skip : Sem Next).run P W) r A1 := by
  unfold xStore storeV at he
  split at he <;> try (simp at he; done)
  rename_i v w hv hw
  split at he <;> try (simp at he; done)
  rename_i A' hA
  simp at he
  obtain ⟨rfl, rfl⟩ := he
  obtain ⟨W1, e1, e2, e3⟩ := store_sound h (eval_sound h ht hv) (eval_sound h ht hw) hA
  exact ⟨σ, W1, undef, .inr ⟨by simp [e1], rfl⟩, e2, e3, closed_VR σ _ (by simp [undef, closedV, closedVs])⟩

theorem shiftA_eq (b o k : Nat) : shiftA ⟨b, o, none⟩ k = ⟨b, o + k, none⟩ := by cases k <;> rfl
theorem add_eq (b o k : Nat) : (⟨b, o, none⟩ : Addr).add k = ⟨b, o + k, none⟩ := by
  unfold Addr.add
  by_cases h : k = 0 <;> simp [h]

theorem field_sound {s : TypeId} {x : Operand} {f : Nat} {r : ANext} {A1 : AS} (h : R P base σ A W) (ht : TR σ t n a.tmps) (he : xField P s x f t A = some (r, A1)) :
    OpSim P base σ A W ((do pure (.value (← Instr.fieldAt s (a.eval x) f)) : Sem Next).run P W) r A1 := by
  unfold xField fieldV at he
  split at he <;> try (simp at he; done)
  rename_i v hv
  obtain ⟨u, e1, rfl, rfl⟩ := okA_inv he
  have hv' := eval_sound h ht hv
  unfold aFieldAddr at e1
  split at e1 <;> try (simp at e1; done)
  rename_i fields b off hu
  split at e1 <;> try (simp at e1; done)
  rename_i fl hfl
  split at e1 <;> try (simp at e1; done)
  rename_i k hk
  simp at e1; subst e1
  generalize a.eval x = w at hv'
  cases hv' with
  | atom q => simp [atomV] at q
  | @ptr _ _ m hb =>
  refine sim_value (v' := .pointer (some ⟨m.c, off + fl.offset + m.δ, none⟩)) h ?_ ?_
  · simp [Instr.fieldAt, run_underlying s hu, hfl, Instr.sureAddr, fieldPlace, run_sizeOf _ hk, add_eq]
    omega
  · rw [shiftA_eq]; exact .ptr hb

theorem intOf_inv {v : Value} {i : Int} (h : intOf v = some i) : ∃ k, v = .int k i := by
  cases v <;> simp [intOf] at h
  subst h; exact ⟨_, rfl⟩

theorem index_sound {ty : TypeId} {x ix : Operand} {r : ANext} {A1 : AS} (h : R P base σ A W) (ht : TR σ t n a.tmps) (he : xIndexAddr P ty x ix t A = some (r, A1)) :
    OpSim P base σ A W ((do pure (.value (← Instr.indexAt ty (a.eval x) (a.eval ix))) : Sem Next).run P W) r A1 := by
  unfold xIndexAddr indexV at he
  split at he <;> try (simp at he; done)
  rename_i v iv hv hiv
  obtain ⟨u, e1, rfl, rfl⟩ := okA_inv he
  have hv' := eval_sound h ht hv
  have hi' := eval_sound h ht hiv
  unfold aIndexAddr at e1
  split at e1 <;> try (simp at e1; done)
  · rename_i i len elem b off hio hu
    obtain ⟨k, rfl⟩ := intOf_inv hio
    have hie : a.eval ix = .int k (.ofNat i) := hi'.eq_of_closed rfl
    cases hlt : Nat.blt i len with
    | false => simp [hlt] at e1
    | true =>
      simp only [hlt, cond_true] at e1
      split at e1 <;> try (simp at e1; done)
      rename_i sz hsz
      simp at e1; subst e1
      have hlt' : i < len := by simpa [Nat.blt, Nat.succ_le_iff] using hlt
      generalize a.eval x = w at hv'
      cases hv' with
      | atom q => simp [atomV] at q
      | @ptr _ _ m hb =>
      refine sim_value (v' := .pointer (some ⟨m.c, off + i * sz + m.δ, none⟩)) h ?_ ?_
      · have h0 : (0 : Int) ≤ Int.ofNat i ∧ Int.ofNat i < (len : Int) := ⟨Int.natCast_nonneg i, by simpa using hlt'⟩
        simp [Instr.indexAt, asIntOf, hie, run_underlying ty hu, Instr.sureAddr, run_sizeOf _ hsz, add_eq, hlt']
        omega
      · rw [shiftA_eq]; exact .ptr hb
  · rename_i i elem b off len cap hio hu
    obtain ⟨k, rfl⟩ := intOf_inv hio
    have hie : a.eval ix = .int k (.ofNat i) := hi'.eq_of_closed rfl
    cases hlt : Nat.blt i len with
    | false => simp [hlt] at e1
    | true =>
      simp only [hlt, cond_true] at e1
      split at e1 <;> try (simp at e1; done)
      rename_i sz hsz
      simp at e1; subst e1
      have hlt' : i < len := by simpa [Nat.blt, Nat.succ_le_iff] using hlt
      generalize a.eval x = w at hv'
      cases hv' with
      | atom q => simp [atomV] at q
      | @slice _ _ o' _ _ cap' m hb c1 c2 c3 c4 =>
      have hoff : o' = off + m.δ := by rcases c4 with c4 | ⟨c4, _⟩ <;> omega
      subst hoff
      refine sim_value (v' := .pointer (some ⟨m.c, off + i * sz + m.δ, none⟩)) h ?_ ?_
      · simp [Instr.indexAt, asIntOf, hie, run_underlying ty hu, Instr.sureAddr, run_sizeOf _ hsz, add_eq, hlt']
        omega
      · rw [shiftA_eq]; exact .ptr hb

theorem nil_sound {x : Operand} {r : ANext} {A1 : AS} {o : Oper} (ho : o.op = .nilCheck x) (h : R P base σ A W) (ht : TR σ t n a.tmps) (he : xNil P x t A = some (r, A1)) :
    OpSim P base σ A W ((execOp a.eval o).run P W) r A1 := by
  unfold xNil nilV at he
  split at he <;> try (simp at he; done)
  · rename_i ad hv
    simp at he; obtain ⟨rfl, rfl⟩ := he
    have hv' := eval_sound h ht hv
    have : ∃ ad', a.eval x = .pointer (some ad') := by
      generalize a.eval x = w at hv'
      cases hv' with
      | atom q => simp [atomV] at q
      | ptr hb => exact ⟨_, rfl⟩
      | handle => exact ⟨_, rfl⟩
    obtain ⟨ad', hw⟩ := this
    exact sim_value (v' := a.eval x) h (by simp [execOp, ho, hw]) hv'
  · rename_i f u w hv
    simp at he; obtain ⟨rfl, rfl⟩ := he
    have hv' := eval_sound h ht hv
    have : ∃ u' w', a.eval x = .func (.func f) u' w' := by
      generalize a.eval x = q at hv'
      cases hv' with
      | atom q => simp [atomV] at q
      | func n b c => exact ⟨_, _, rfl⟩
    obtain ⟨u', w', hw⟩ := this
    exact sim_value (v' := a.eval x) h (by simp [execOp, ho, hw]) hv'
  · rename_i ty v hv
    simp at he; obtain ⟨rfl, rfl⟩ := he
    have hv' := eval_sound h ht hv
    have : ∃ v', a.eval x = .iface ty v' := by
      generalize a.eval x = q at hv'
      cases hv' with
      | atom q => simp [atomV] at q
      | iface b => exact ⟨_, rfl⟩
    obtain ⟨v', hw⟩ := this
    exact sim_value (v' := a.eval x) h (by simp [execOp, ho, hw]) hv'

theorem extract_sound {x : Operand} {i : Nat} {r : ANext} {A1 : AS} (h : R P base σ A W) (ht : TR σ t n a.tmps) (he : xExtract P x i t A = some (r, A1)) :
    OpSim P base σ A W ((do pure (.value (← Instr.extract (a.eval x) i)) : Sem Next).run P W) r A1 := by
  unfold xExtract extractV at he
  split at he <;> try (simp at he; done)
  rename_i l hv
  obtain ⟨u, e1, rfl, rfl⟩ := okA_inv he
  have hv' := eval_sound h ht hv
  generalize a.eval x = w at hv'
  cases hv' with
  | atom q => simp [atomV] at q
  | @tuple _ l' hl =>
  rw [nth_eq] at e1
  obtain ⟨u', q1, q2⟩ := hl.get i u e1
  exact sim_value h (by simp [Instr.extract, q1]) q2

theorem iface_sound {ty : TypeId} {x : Operand} {r : ANext} {A1 : AS} (h : R P base σ A W) (ht : TR σ t n a.tmps) (he : xMakeIface P ty x t A = some (r, A1)) :
    OpSim P base σ A W ((do pure (.value (← Instr.makeInterface ty (a.eval x))) : Sem Next).run P W) r A1 := by
  unfold xMakeIface at he
  split at he <;> try (simp at he; done)
  rename_i v d hno hv hu
  simp at he; obtain ⟨rfl, rfl⟩ := he
  refine sim_value (v' := .iface ty (a.eval x)) h ?_ (.iface (eval_sound h ht hv))
  simp only [Instr.makeInterface, Sem.run_bind, run_underlying ty hu, Result.andThen_ok]
  cases d <;> first | rfl | (exfalso; exact hno _ _ rfl rfl) | (exfalso; exact hno _ rfl rfl) | (exfalso; exact hno rfl)

theorem makeFunc_sound {fn : Fn} {first captured : Array Operand} {r : ANext} {A1 : AS} (h : R P base σ A W) (ht : TR σ t n a.tmps) (he : xMakeFunc P fn first captured t A = some (r, A1)) :
    OpSim P base σ A W ((do pure (.value (← Instr.makeFunc fn (first.map a.eval) (captured.map a.eval))) : Sem Next).run P W) r A1 := by
  unfold xMakeFunc at he
  split at he <;> try (simp at he; done)
  rename_i gn x1 x2 x3 u v hno hu hv
  simp at he; obtain ⟨rfl, rfl⟩ := he
  refine sim_value (v' := .func gn ⟨first.toList.map a.eval⟩ ⟨captured.toList.map a.eval⟩) h ?_ (.func (fun l e => hno l e) (evals_sound h ht hu) (evals_sound h ht hv))
  have e1 : first.map a.eval = ⟨first.toList.map a.eval⟩ := by apply Array.toList_inj.1; simp
  have e2 : captured.map a.eval = ⟨captured.toList.map a.eval⟩ := by apply Array.toList_inj.1; simp
  simp [Instr.makeFunc, e1, e2]

theorem makeMap_sound {ty : TypeId} {r : ANext} {A1 : AS} (h : R P base σ A W) (he : xMakeMap t A = some (r, A1)) :
    OpSim P base σ A W ((do pure (.value (← Instr.makeMap ty none)) : Sem Next).run P W) r A1 := by
  unfold xMakeMap at he
  simp at he; obtain ⟨rfl, rfl⟩ := he
  obtain ⟨h1, h2⟩ := h.new (o := .map [] 0) (o' := .map #[] 0) (m := ⟨W.heap.size, 0, 0, 0⟩) (W1 := { W with heap := W.heap.push (.map #[] 0) }) rfl rfl ⟨#[], rfl, .nil⟩
  refine ⟨_, _, .map (some W.heap.size), .inl ?_, h1, h2, ?_⟩
  · simp [Instr.makeMap, newObj, Sem.run]
  · exact .map (Sg.add_at σ A.nx _)

theorem not_sound {o : Oper} {op : UnOp} {ty : TypeId} {x : Operand} {r : ANext} {A1 : AS} (ho : o.op = .unOp op ty x) (h : R P base σ A W) (ht : TR σ t n a.tmps) (he : xUn P o op x t A = some (r, A1)) :
    OpSim P base σ A W ((execOp a.eval o).run P W) r A1 := by
  unfold xUn at he
  split at he
  · unfold notV at he
    split at he <;> try (simp at he; done)
    rename_i b hb
    simp at he; obtain ⟨rfl, rfl⟩ := he
    have : a.eval x = .bool b := (eval_sound h ht hb).eq_of_closed rfl
    exact sim_value (v' := .bool (!b)) h (by simp [execOp, ho, this, Op.unary]) (.atom rfl)
  · exact pure_sound (by rw [ho]; simp) h ht he

end Go.Eng

namespace Go.Eng
open Go
variable [Env]

variable {P : Program} {base : Nat} {σ : Sg} {A : AS} {W : World} {t : T Value} {n : Nat} {a : Act}

theorem wrap_i64 (n : Nat) (h : n < 2 ^ 63) : IntKind.i64.wrap (n : Int) = n := by
  simp [IntKind.wrap, IntKind.bits, IntKind.signed]; omega
theorem run_askRoom (b : Nat) (W : World) : (askRoom b).run P W = .ok () W := by
  unfold askRoom; split <;> simp [mark, Sem.run]
theorem natOf_inv {v : Value} {i : Nat} (h : natOf v = some i) : ∃ k, v = .int k (.ofNat i) := by
  unfold natOf at h
  split at h <;> simp at h
  subst h; exact ⟨_, rfl⟩
theorem bind_natOf {o : Option Value} {i : Nat} (h : o.bind natOf = some i) : ∃ k, o = some (.int k (.ofNat i)) := by
  cases o with
  | none => simp at h
  | some v => obtain ⟨k, rfl⟩ := natOf_inv (by simpa using h); exact ⟨k, rfl⟩

/-- A pattern laid again and again. -/
theorem pattern_cell {z : List Value} {zc : Array Value} {N i : Nat} {v : Value} (hz : zc.toList = z) (hcl : closedVs z = true) (hi : i < N) (hv : cellF .leaf z i = some v) :
    ∃ v', ((Array.range N).map (zc[· % zc.size]!))[i]? = some v' ∧ VR σ v v' := by
  rcases cellF_lt hv with hq | ⟨_, hq⟩
  · simp [T.get_leaf] at hq
  · rw [nth_eq] at hq
    have hzs : zc.size = z.length := by rw [← Array.length_toList, hz]
    have hq' : zc[i % zc.size]? = some v := by rw [← Array.getElem?_toList, hz, hzs]; exact hq
    refine ⟨v, ?_, ?_⟩
    · rw [Array.getElem?_map, Array.getElem?_range, if_pos hi]
      simp [getElem!_def, hq']
    · have : v ∈ z := List.mem_of_getElem? hq
      have hc : closedV v = true := by
        clear hq hq' hzs hz hv
        induction z with
        | nil => simp at this
        | cons x z ih =>
          simp only [closedVs, Bool.and_eq_true] at hcl
          rcases List.mem_cons.1 this with rfl | this
          · exact hcl.1
          · exact ih hcl.2 this
      exact closed_VR σ v hc

theorem zeroP_closed {ty : TypeId} {z : List Value} (h : zeroP P ty = some z) : closedVs z = true := by
  unfold zeroP at h
  split at h <;> try (simp at h; done)
  split at h <;> try (simp at h; done)
  rename_i v hv
  cases hc : closedV v with
  | false => simp [hc] at h
  | true =>
    simp [hc] at h; subst h
    cases v with
    | agg l => cases l; exact hc
    | _ => simp [Value.cells, closedVs, hc]

theorem makeSlice_sound {ty : TypeId} {x y : Operand} {r : ANext} {A1 : AS} (h : R P base σ A W) (ht : TR σ t n a.tmps) (he : xMakeSlice P ty x y t A = some (r, A1)) :
    OpSim P base σ A W ((do pure (.value (← Instr.makeSlice ty (a.eval x) (a.eval y))) : Sem Next).run P W) r A1 := by
  unfold xMakeSlice makeSliceV at he
  split at he <;> try (simp at he; done)
  rename_i l c elem hl hc hu
  split at he <;> try (simp at he; done)
  rename_i inf z hinf hz
  cases hcond : (Nat.ble l c && Nat.ble (c * inf.bytes) (2 ^ 40) && Nat.ble c (2 ^ 40)) with
  | false => rw [hcond] at he; simp at he
  | true =>
    rw [hcond] at he
    simp only [cond_true] at he
    simp only [Bool.and_eq_true] at hcond
    obtain ⟨⟨h1, h2⟩, h3⟩ := hcond
    have h1 := Nat.le_of_ble_eq_true h1
    have h2 := Nat.le_of_ble_eq_true h2
    have h3 := Nat.le_of_ble_eq_true h3
    obtain ⟨h60, rfl, rfl⟩ := newC_inv he
    obtain ⟨k, hk⟩ := bind_natOf hl
    obtain ⟨k', hk'⟩ := bind_natOf hc
    have ex : a.eval x = .int k (.ofNat l) := (eval_sound h ht hk).eq_of_closed rfl
    have ey : a.eval y = .int k' (.ofNat c) := (eval_sound h ht hk').eq_of_closed rfl
    have hsz : sizeP P elem = some inf.size := by simp [sizeP, hinf]
    obtain ⟨zv, hr, hcl, hzz⟩ := run_zeroValue elem hz W
    have wl : IntKind.i64.wrap (Int.ofNat l) = (l : Int) := wrap_i64 l (by omega)
    have wc : IntKind.i64.wrap (Int.ofNat c) = (c : Int) := wrap_i64 c (by omega)
    have hb : ¬ ((inf.bytes : Int) * (c : Int) > 2 ^ 48) := by
      have : (inf.bytes * c : Nat) ≤ 2 ^ 40 := by rw [Nat.mul_comm]; exact h2
      have h' : ((inf.bytes * c : Nat) : Int) ≤ ((2 ^ 40 : Nat) : Int) := Int.ofNat_le.2 this
      rw [Int.natCast_mul] at h'
      have : ((2 ^ 40 : Nat) : Int) ≤ 2 ^ 48 := by decide
      omega
    obtain ⟨zc, hzc, hzr⟩ : ∃ zc : Array Value, (c * inf.size ≠ 0 → zc.toList = z) ∧ ((c * inf.size = 0 ∧ zc = #[]) ∨ (c * inf.size ≠ 0 ∧ zc = zv.cells)) := by
      by_cases h0 : c * inf.size = 0
      · exact ⟨#[], fun q => absurd h0 q, .inl ⟨h0, rfl⟩⟩
      · exact ⟨zv.cells, fun _ => hzz, .inr ⟨h0, rfl⟩⟩
    obtain ⟨m, m1, m2, m3, m4, m5, r1, r2⟩ := h.newCells (tr := .leaf) (size := c * inf.size) (z := z) (u := inf.size) (e := elem) (cs := (Array.range (c * inf.size)).map (zc[· % zc.size]!)) h60 (by simp) (fun i v hi hv =>
      pattern_cell (hzc (by omega)) (zeroP_closed hz) hi hv)
    refine ⟨_, _, .slice (some ⟨W.heap.size, 0, none⟩) l c, .inl ?_, r1, r2, ?_⟩
    · have q1 : ¬ ((c : Int) < 0) := by omega
      have q2 : ¬ ((l : Int) < 0) := by omega
      have q3 : ¬ ((l : Int) > (c : Int)) := by omega
      simp only [Instr.makeSlice, ex, ey, asInt, asIntOf, Sem.run_bind, Sem.run_pure, run_underlying ty hu, run_typeInfo elem hinf, run_sizeOf elem hsz, Result.andThen_ok, wl, wc]
      simp only [q1, q2, q3, hb, decide_false, Bool.or_false, Bool.false_eq_true, if_false, Int.toNat_natCast, run_askRoom, Sem.run_bind, Result.andThen_ok, run_sizeOf elem hsz]
      rcases hzr with ⟨h0, rfl⟩ | ⟨h0, rfl⟩
      · rw [if_pos h0]; simp only [Sem.run_bind, Sem.run_pure, Result.andThen_ok, run_newRow]
      · rw [if_neg h0]; simp only [Sem.run_bind, Sem.run_pure, Result.andThen_ok, run_newRow, hr]
    · have hN : m.N = c * inf.size := by rw [m4]; simp
      have := VR.slice (σ := σ.add A.nx m) (b := A.nx) (o := 0) (o' := 0) (len := l) (cap := c) (cap' := c) (m := m) (Sg.add_at σ A.nx m) h1 (Nat.le_refl _) (.inl rfl) (.inl (by omega))
      rw [m1] at this; exact this

/-! Structs and rows written out. -/
inductive PRs (σ : Sg) : List (Nat × Value) → List (Nat × Value) → Prop
  | nil : PRs σ [] []
  | cons {i : Nat} {v v' : Value} {l l' : List (Nat × Value)} : VR σ v v' → PRs σ l l' → PRs σ ((i, v) :: l) ((i, v') :: l')
theorem evalParts_sound (h : R P base σ A W) (ht : TR σ t n a.tmps) : ∀ {l : List (Nat × Operand)} {ps : List (Nat × Value)}, evalParts P t l = some ps → PRs σ ps (l.map fun x => (x.1, a.eval x.2))
  | [], ps, e => by simp [evalParts] at e; subst e; exact .nil
  | (i, x) :: l, ps, e => by
    simp only [evalParts] at e
    cases h1 : aEval P x t with
    | none => simp [h1] at e
    | some v =>
      simp only [h1] at e
      cases h2 : evalParts P t l with
      | none => simp [h2] at e
      | some vs' => simp [h2] at e; subst e; exact .cons (eval_sound h ht h1) (evalParts_sound h ht h2)

theorem foldl_wr : ∀ (l : List Value) (off k : Nat) (cs : Array Value), (l.zipIdx k).foldl (fun cs (x : Value × Nat) => cs.setIfInBounds (off + x.2) x.1) cs = wr cs (off + k) l
  | [], off, k, cs => by simp [wr]
  | v :: l, off, k, cs => by
    rw [List.zipIdx_cons, List.foldl_cons, foldl_wr l off (k + 1)]
    simp [wr, Nat.add_assoc]
theorem arr_foldl_wr (vs : Array Value) (off : Nat) (cs : Array Value) : vs.zipIdx.foldl (fun cs (x : Value × Nat) => cs.setIfInBounds (off + x.2) x.1) cs = wr cs off vs.toList := by
  rw [← Array.foldl_toList, Array.toList_zipIdx, foldl_wr]; simp

/-- A list of cells written into cells. -/
theorem spliceL_get : ∀ (l : List Value) (off : Nat) (vs : List Value) (j : Nat), off + vs.length ≤ l.length → (spliceL l off vs)[j]? = if off ≤ j ∧ j < off + vs.length then vs[j - off]? else l[j]?
  | l, 0, [], j, _ => by cases l <;> simp [spliceL]
  | [], off + 1, vs, j, h => by simp at h
  | [], 0, v :: vs, j, h => by simp at h
  | x :: l, 0, v :: vs, j, h => by
    simp only [List.length_cons] at h
    cases j with
    | zero => simp [spliceL]
    | succ j =>
      simp only [spliceL, List.getElem?_cons_succ]
      rw [spliceL_get l 0 vs j (by omega)]
      by_cases hj : j < vs.length
      · simp [hj]
      · simp [hj]
  | x :: l, off + 1, vs, j, h => by
    simp only [List.length_cons] at h
    cases j with
    | zero => simp [spliceL]
    | succ j =>
      simp only [spliceL, List.getElem?_cons_succ]
      rw [spliceL_get l off vs j (by omega)]
      by_cases hj : off ≤ j ∧ j < off + vs.length
      · rw [if_pos hj, if_pos (by omega), show j + 1 - (off + 1) = j - off from by omega]
      · rw [if_neg hj, if_neg (by omega)]
theorem spliceL_length : ∀ (l : List Value) (off : Nat) (vs : List Value), off + vs.length ≤ l.length → (spliceL l off vs).length = l.length
  | l, 0, [], _ => by cases l <;> simp [spliceL]
  | [], off + 1, vs, h => by simp at h
  | [], 0, v :: vs, h => by simp at h
  | x :: l, 0, v :: vs, h => by simp only [List.length_cons] at h ⊢; simp [spliceL, spliceL_length l 0 vs (by omega)]
  | x :: l, off + 1, vs, h => by simp only [List.length_cons] at h ⊢; simp [spliceL, spliceL_length l off vs (by omega)]

theorem fill_sound {place place' : Nat → Option (Nat × Nat)} : ∀ {ps ps' : List (Nat × Value)} {cells l : List Value} {cs : Array Value}, PRs σ ps ps' → (∀ i x, place i = some x → place' i = some x) →
    VRs σ cells cs.toList → aFill place cells ps = some l → ∃ cs', Instr.fill place' cs ps' = some cs' ∧ VRs σ l cs'.toList
  | _, _, cells, l, cs, .nil, _, hc, e => by simp [aFill] at e; subst e; exact ⟨cs, rfl, hc⟩
  | _, _, cells, l, cs, .cons (i := i) (v := v) (v' := v') hv hp, hpl, hc, e => by
    simp only [aFill] at e
    split at e <;> try (simp at e; done)
    rename_i off size hpi
    cases hcond : (Nat.beq v.cells.size size && Nat.ble (off + size) cells.length) with
    | false => rw [hcond] at e; simp at e
    | true =>
      rw [hcond] at e; simp only [cond_true] at e
      simp only [Bool.and_eq_true] at hcond
      have h1 := Nat.eq_of_beq_eq_true hcond.1
      have h2 := Nat.le_of_ble_eq_true hcond.2
      have hvc := hv.cells
      have hvl := hvc.length
      simp only [Array.length_toList] at hvl
      have hcl := hc.length
      simp only [Array.length_toList] at hcl
      have hnew : VRs σ (spliceL cells off v.cells.toList) (wr cs off v'.cells.toList).toList := by
        refine VRs.of_get (by rw [spliceL_length _ _ _ (by simp; omega), Array.length_toList, wr_size]; omega) fun j x x' hx hx' => ?_
        rw [spliceL_get _ _ _ _ (by simp; omega)] at hx
        rw [Array.getElem?_toList, wr_get _ _ _ _ (by simp; omega)] at hx'
        by_cases hj : off ≤ j ∧ j < off + v.cells.toList.length
        · rw [if_pos hj] at hx
          rw [if_pos (by simp at hj ⊢; omega)] at hx'
          obtain ⟨y, q1, q2⟩ := hvc.get _ _ hx
          rw [q1] at hx'; cases hx'; exact q2
        · rw [if_neg hj] at hx
          rw [if_neg (by simp at hj ⊢; omega)] at hx'
          obtain ⟨y, q1, q2⟩ := hc.get _ _ hx
          rw [Array.getElem?_toList, hx'] at q1; cases q1; exact q2
      obtain ⟨cs', q1, q2⟩ := fill_sound hp hpl hnew e
      refine ⟨cs', ?_, q2⟩
      simp only [Instr.fill, hpl i _ hpi]
      rw [if_neg (by simp; omega)]
      rw [show (v'.cells.zipIdx.foldl (fun cs (x : Value × Nat) => match x with | (c, j) => cs.setIfInBounds (off + j) c) cs) = wr cs off v'.cells.toList from arr_foldl_wr _ _ _]
      exact q1

theorem run_fieldSizes : ∀ (l : List Field) (r : List (Nat × Nat)), fieldSizes P l = some r → ∀ W, (l.mapM (fun f => do pure (f.offset, ← sizeOf f.type) : Field → Sem (Nat × Nat))).run P W = .ok r W
  | [], r, h, W => by simp [fieldSizes] at h; subst h; simp
  | f :: l, r, h, W => by
    simp only [fieldSizes] at h
    split at h <;> try (simp at h; done)
    rename_i k hk
    split at h <;> try (simp at h; done)
    rename_i r' hr'
    simp at h; subst h
    have := run_fieldSizes l r' hr' W
    simp [List.mapM_cons, run_sizeOf _ hk] at this ⊢
    simp [this]

theorem build_sound {ty : TypeId} {parts : Array (Nat × Operand)} {r : ANext} {A1 : AS} (h : R P base σ A W) (ht : TR σ t n a.tmps) (he : xBuild P ty parts t A = some (r, A1)) :
    OpSim P base σ A W ((do pure (.value (← Instr.build ty (parts.map fun (i, x) => (i, a.eval x)))) : Sem Next).run P W) r A1 := by
  unfold xBuild at he
  split at he <;> try (simp at he; done)
  rename_i ps hps
  obtain ⟨v, e1, rfl, rfl⟩ := okA_inv he
  have hp := evalParts_sound h ht hps
  have hparts : (parts.map fun (i, x) => (i, a.eval x)).toList = parts.toList.map fun x => (x.1, a.eval x.2) := by simp
  unfold aBuild at e1
  split at e1 <;> try (simp at e1; done)
  · rename_i z fields hz hu
    split at e1 <;> try (simp at e1; done)
    rename_i pl hpl
    split at e1 <;> try (simp at e1; done)
    rename_i l hl
    simp at e1; subst e1
    obtain ⟨zv, hr, hcl, hzz⟩ := run_zeroValue ty hz W
    have hzc : VRs σ z zv.cells.toList := by rw [← hzz]; exact (closed_VR σ zv hcl).cells
    obtain ⟨cs', q1, q2⟩ := fill_sound (place' := fun i => pl.toArray[i]?) hp (fun i x hx => by simpa using hx) hzc hl
    refine sim_value (v' := .agg cs') h ?_ (by cases cs'; exact .agg q2)
    have hm := run_fieldSizes (P := P) fields.toList pl hpl W
    simp only [Instr.build, Sem.run_bind, hr, Result.andThen_ok, run_underlying ty hu, Array.mapM_eq_mapM_toList, Sem.run_map, hm]
    rw [hparts]
    simp only [q1, Sem.run_pure, Result.andThen_ok]
  · rename_i z k elem hz hu
    split at e1 <;> try (simp at e1; done)
    rename_i sz hsz
    split at e1 <;> try (simp at e1; done)
    rename_i l hl
    simp at e1; subst e1
    obtain ⟨zv, hr, hcl, hzz⟩ := run_zeroValue ty hz W
    have hzc : VRs σ z zv.cells.toList := by rw [← hzz]; exact (closed_VR σ zv hcl).cells
    obtain ⟨cs', q1, q2⟩ := fill_sound (place' := fun i => some (i * sz, sz)) hp (fun i x hx => hx) hzc hl
    refine sim_value (v' := .agg cs') h ?_ (by cases cs'; exact .agg q2)
    simp only [Instr.build, Sem.run_bind, hr, Result.andThen_ok, run_underlying ty hu, run_sizeOf _ hsz]
    rw [hparts]
    simp only [q1, Sem.run_pure, Result.andThen_ok]

/-- A row written out. -/
theorem parts_sound {size total : Nat} {z : List Value} (h60 : total ≤ 2 ^ 60) : ∀ {ps ps' : List (Nat × Value)} {tr tr' : T Value} {cs : Array Value}, PRs σ ps ps' → cs.size = total →
    (∀ i v, i < total → cellF tr z i = some v → ∃ v', cs[i]? = some v' ∧ VR σ v v') → aParts size total tr ps = some tr' →
    ∃ cs', Instr.fill (fun i => some (i * size, size)) cs ps' = some cs' ∧ cs'.size = total ∧ (∀ i v, i < total → cellF tr' z i = some v → ∃ v', cs'[i]? = some v' ∧ VR σ v v')
  | _, _, tr, tr', cs, .nil, hs, hc, e => by simp [aParts] at e; subst e; exact ⟨cs, rfl, hs, hc⟩
  | _, _, tr, tr', cs, .cons (i := i) (v := v) (v' := v') hv hp, hs, hc, e => by
    simp only [aParts] at e
    cases hcond : (Nat.beq v.cells.size size && Nat.ble (i * size + size) total) with
    | false => rw [hcond] at e; simp at e
    | true =>
      rw [hcond] at e; simp only [cond_true] at e
      simp only [Bool.and_eq_true] at hcond
      have h1 := Nat.eq_of_beq_eq_true hcond.1
      have h2 := Nat.le_of_ble_eq_true hcond.2
      have hvc := hv.cells
      have hvl := hvc.length
      simp only [Array.length_toList] at hvl
      obtain ⟨cs', q1, q2, q3⟩ := parts_sound h60 hp (cs := wr cs (i * size) v'.cells.toList) (by rw [wr_size]; exact hs) (fun j x hj hx => by
        rw [wr_get _ _ _ _ (by simp; omega)]
        have hat := T.setAll_at v.cells.toList tr (i * size) j (by simp; omega)
        by_cases hin : i * size ≤ j ∧ j < i * size + v.cells.toList.length
        · rw [if_pos hin] at hat
          rw [if_pos (by simp at hin ⊢; omega)]
          have hx' : v.cells.toList[j - i * size]? = some x := by
            rcases cellF_lt hx with hq | ⟨hq, _⟩
            · rw [hat] at hq; exact hq
            · rw [hat, List.getElem?_eq_none_iff] at hq; omega
          exact hvc.get _ _ hx'
        · rw [if_neg hin] at hat
          rw [if_neg (by simp at hin ⊢; omega)]
          refine hc j x hj ?_
          unfold cellF at hx ⊢
          rw [hat] at hx
          exact hx) e
      refine ⟨cs', ?_, q2, q3⟩
      simp only [Instr.fill]
      rw [if_neg (by simp; omega)]
      rw [show (v'.cells.zipIdx.foldl (fun cs (x : Value × Nat) => match x with | (c, j) => cs.setIfInBounds (i * size + j) c) cs) = wr cs (i * size) v'.cells.toList from arr_foldl_wr _ _ _]
      exact q1

theorem buildSlice_sound {ty : TypeId} {len : Nat} {parts : Array (Nat × Operand)} {r : ANext} {A1 : AS} (h : R P base σ A W) (ht : TR σ t n a.tmps) (he : xBuildSlice P ty len parts t A = some (r, A1)) :
    OpSim P base σ A W ((do pure (.value (← Instr.buildSlice ty len (parts.map fun (i, x) => (i, a.eval x)))) : Sem Next).run P W) r A1 := by
  unfold xBuildSlice sliceOf at he
  split at he <;> try (simp at he; done)
  rename_i ps elem hps hu
  split at he <;> try (simp at he; done)
  rename_i sz z hsz hz
  cases hcond : Nat.ble (len * sz) (2 ^ 24) with
  | false => rw [hcond] at he; simp at he
  | true =>
    rw [hcond] at he; simp only [cond_true] at he
    have hcond := Nat.le_of_ble_eq_true hcond
    split at he <;> try (simp at he; done)
    rename_i tr htr
    obtain ⟨h60, rfl, rfl⟩ := newC_inv he
    have hp := evalParts_sound h ht hps
    have hparts : (parts.map fun (i, x) => (i, a.eval x)).toList = parts.toList.map fun x => (x.1, a.eval x.2) := by simp
    obtain ⟨zv, hr, hcl, hzz⟩ := run_zeroValue elem hz W
    obtain ⟨zc, hzc, hzr⟩ : ∃ zc : Array Value, (len * sz ≠ 0 → zc.toList = z) ∧ ((len * sz = 0 ∧ zc = #[]) ∨ (len * sz ≠ 0 ∧ zc = zv.cells)) := by
      by_cases h0 : len * sz = 0
      · exact ⟨#[], fun q => absurd h0 q, .inl ⟨h0, rfl⟩⟩
      · exact ⟨zv.cells, fun _ => hzz, .inr ⟨h0, rfl⟩⟩
    obtain ⟨cs', q1, q2, q3⟩ := parts_sound (σ := σ) (z := z) h60 hp (cs := (Array.range (len * sz)).map (zc[· % zc.size]!)) (by simp) (fun i v hi hv =>
      pattern_cell (hzc (by omega)) (zeroP_closed hz) hi hv) htr
    obtain ⟨m, m1, m2, m3, m4, m5, r1, r2⟩ := h.newCells (tr := tr) (size := len * sz) (z := z) (u := sz) (e := elem) (cs := cs') h60 (by omega) q3
    refine ⟨_, _, .slice (some ⟨W.heap.size, 0, none⟩) len len, .inl ?_, r1, r2, ?_⟩
    · simp only [Instr.buildSlice, Sem.run_bind, run_underlying ty hu, Result.andThen_ok, run_sizeOf elem hsz]
      rw [if_neg (by omega)]
      rcases hzr with ⟨h0, rfl⟩ | ⟨h0, rfl⟩
      · rw [if_pos h0]; simp only [Sem.run_bind, Sem.run_pure, Result.andThen_ok]; rw [hparts]; simp only [q1, Sem.run_bind, run_newRow, Result.andThen_ok, Sem.run_pure]
      · rw [if_neg h0]; simp only [Sem.run_bind, Sem.run_pure, Result.andThen_ok, hr]; rw [hparts]; simp only [q1, Sem.run_bind, run_newRow, Result.andThen_ok, Sem.run_pure]
    · have := VR.slice (σ := σ.add A.nx m) (b := A.nx) (o := 0) (o' := 0) (len := len) (cap := len) (cap' := len) (m := m) (Sg.add_at σ A.nx m) (Nat.le_refl _) (Nat.le_refl _) (.inl rfl) (.inl (by omega))
      rw [m1] at this; exact this

end Go.Eng

namespace Go.Eng
open Go
variable [Env]

variable {P : Program} {base : Nat} {σ : Sg} {A : AS} {W : World} {t : T Value} {n : Nat} {a : Act}

/-! Slices. -/
theorem pureRun_boundsPanic {α : Type} (k : IntKind) (x y : Int) (c : BoundsCode) : pureRun P (boundsPanic k x y c : Sem α) = none := by
  unfold boundsPanic
  dsimp only
  split
  · rfl
  · rfl
theorem sliceBound_inv {x : Value} {y : Nat} {c : BoundsCode} {i : Nat} (h : pureRun P (Instr.sliceBound x y c) = some i) : ∃ k j, x = .int k j ∧ 0 ≤ j ∧ j ≤ y ∧ i = j.toNat := by
  unfold Instr.sliceBound at h
  rw [pureRun_bind'] at h
  cases x <;> try (simp [asIntOf, stuck, pureRun] at h; done)
  · rename_i k j
    simp only [asIntOf, pureRun_pure, Option.bind_some] at h
    split at h
    · rename_i hb
      simp [pureRun_pure] at h
      exact ⟨k, j, rfl, hb.1, hb.2, h.symm⟩
    · rw [pureRun_boundsPanic] at h; simp at h
  · rename_i p
    cases p <;> simp [asIntOf, stuck, unsupported, pureRun] at h
theorem sliceBound_run {k : IntKind} {j : Int} {y : Nat} {c : BoundsCode} (h0 : 0 ≤ j) (h1 : j ≤ y) (W : World) : (Instr.sliceBound (.int k j) y c).run P W = .ok j.toNat W := by
  simp [Instr.sliceBound, asIntOf, h0, h1]

theorem sliceBounds_inv {b : Bool} {len cap : Nat} {lo hi mx : Option Value} {l h m : Nat} (hlc : len ≤ cap) (e : pureRun P (Instr.sliceBounds b len cap lo hi mx) = some (l, h, m)) :
    (∀ v, lo = some v → closedV v = true) ∧ (∀ v, hi = some v → closedV v = true) ∧ (∀ v, mx = some v → closedV v = true) ∧ l ≤ h ∧ h ≤ m ∧ m ≤ cap ∧ (mx = none → m = cap) ∧
    ∀ cap', cap ≤ cap' → ∀ W, (Instr.sliceBounds b len cap' lo hi mx).run P W = .ok (l, h, if mx = none then cap' else m) W := by
  unfold Instr.sliceBounds at e
  cases mx with
  | none =>
    simp only [pureRun_bind', pureRun_pure, Option.bind_some] at e
    cases hi with
    | none =>
      simp only [pureRun_bind', pureRun_pure, Option.bind_some] at e
      cases lo with
      | none =>
        simp [pureRun_pure] at e
        obtain ⟨rfl, rfl, rfl⟩ := e
        exact ⟨by simp, by simp, by simp, by omega, hlc, Nat.le_refl _, fun _ => rfl, fun cap' hc W => by simp [Instr.sliceBounds]⟩
      | some vl =>
        simp only [Option.isSome_none, Bool.false_eq_true, if_false, pureRun_bind'] at e
        cases q : pureRun P (Instr.sliceBound vl len .sliceB) with
        | none => rw [q] at e; simp at e
        | some l1 =>
          rw [q] at e
          simp [pureRun_pure] at e
          obtain ⟨rfl, rfl, rfl⟩ := e
          obtain ⟨k, j, rfl, j0, j1, rfl⟩ := sliceBound_inv q
          refine ⟨by rintro v h; cases h; rfl, by simp, by simp, by omega, hlc, Nat.le_refl _, fun _ => rfl, fun cap' hc W => ?_⟩
          simp [Instr.sliceBounds, sliceBound_run j0 j1]
    | some vh =>
      simp only [pureRun_bind'] at e
      cases qh : pureRun P (Instr.sliceBound vh cap (if b then .sliceAcap else .sliceAlen)) with
      | none => rw [qh] at e; simp at e
      | some h1 =>
        rw [qh] at e
        simp only [Option.bind_some] at e
        obtain ⟨kh, jh, rfl, jh0, jh1, rfl⟩ := sliceBound_inv qh
        cases lo with
        | none =>
          simp [pureRun_pure] at e
          obtain ⟨rfl, rfl, rfl⟩ := e
          refine ⟨by simp, by rintro v h; cases h; rfl, by simp, by omega, by omega, Nat.le_refl _, fun _ => rfl, fun cap' hc W => ?_⟩
          simp [Instr.sliceBounds, sliceBound_run jh0 (show jh ≤ (cap' : Int) by omega)]
        | some vl =>
          simp only [Option.isSome_none, Bool.false_eq_true, if_false, pureRun_bind'] at e
          cases q : pureRun P (Instr.sliceBound vl jh.toNat .sliceB) with
          | none => rw [q] at e; simp at e
          | some l1 =>
            rw [q] at e
            simp [pureRun_pure] at e
            obtain ⟨rfl, rfl, rfl⟩ := e
            obtain ⟨k, j, rfl, j0, j1, rfl⟩ := sliceBound_inv q
            refine ⟨by rintro v h; cases h; rfl, by rintro v h; cases h; rfl, by simp, by omega, by omega, Nat.le_refl _, fun _ => rfl, fun cap' hc W => ?_⟩
            simp [Instr.sliceBounds, sliceBound_run jh0 (show jh ≤ (cap' : Int) by omega), sliceBound_run j0 j1]
  | some vm =>
    simp only [pureRun_bind'] at e
    cases qm : pureRun P (Instr.sliceBound vm cap (if b then .slice3Acap else .slice3Alen)) with
    | none => rw [qm] at e; simp at e
    | some m1 =>
      rw [qm] at e
      simp only [Option.bind_some] at e
      obtain ⟨km, jm, rfl, jm0, jm1, rfl⟩ := sliceBound_inv qm
      cases hi with
      | none => (rw [pureRun_bind'] at e; simp [stuck, pureRun_halt] at e)
      | some vh =>
        simp only [pureRun_bind'] at e
        cases qh : pureRun P (Instr.sliceBound vh jm.toNat .slice3B) with
        | none => rw [qh] at e; simp at e
        | some h1 =>
          rw [qh] at e
          simp only [Option.bind_some] at e
          obtain ⟨kh, jh, rfl, jh0, jh1, rfl⟩ := sliceBound_inv qh
          cases lo with
          | none =>
            simp [pureRun_pure] at e
            obtain ⟨rfl, rfl, rfl⟩ := e
            refine ⟨by simp, by rintro v h; cases h; rfl, by rintro v h; cases h; rfl, by omega, by omega, by omega, by simp, fun cap' hc W => ?_⟩
            simp [Instr.sliceBounds, sliceBound_run jm0 (show jm ≤ (cap' : Int) by omega), sliceBound_run jh0 jh1]
          | some vl =>
            simp only [Option.isSome_some, if_true, pureRun_bind'] at e
            cases q : pureRun P (Instr.sliceBound vl jh.toNat .slice3C) with
            | none => rw [q] at e; simp at e
            | some l1 =>
              rw [q] at e
              simp [pureRun_pure] at e
              obtain ⟨rfl, rfl, rfl⟩ := e
              obtain ⟨k, j, rfl, j0, j1, rfl⟩ := sliceBound_inv q
              refine ⟨by rintro v h; cases h; rfl, by rintro v h; cases h; rfl, by rintro v h; cases h; rfl, by omega, by omega, by omega, by simp, fun cap' hc W => ?_⟩
              simp [Instr.sliceBounds, sliceBound_run jm0 (show jm ≤ (cap' : Int) by omega), sliceBound_run jh0 jh1, sliceBound_run j0 j1]

theorem optV_sound (h : R P base σ A W) (ht : TR σ t n a.tmps) {x : Option Operand} {v : Option Value} (e : optV P t x = some v) (hc : ∀ u, v = some u → closedV u = true) : x.map a.eval = v := by
  cases x with
  | none => simp [optV] at e; simp [← e]
  | some y =>
    simp only [optV] at e
    split at e <;> try (simp at e; done)
    rename_i u hu
    simp at e; subst e
    simp [(eval_sound h ht hu).eq_of_closed (hc u rfl)]

theorem subStr_eq (s : ByteArray) (l h : Nat) : s.extract l h = subStr s l h := by
  apply ByteArray.ext
  rw [ByteArray.data_extract]
  apply Array.ext'
  simp [subStr, List.extract_eq_take_drop]
theorem strSlice_sound {o : Oper} {ty : TypeId} {x : Operand} {lo hi mx : Option Operand} {s : ByteArray} {r : ANext} {A1 : AS} (ho : o.op = .slice ty x lo hi mx) (h : R P base σ A W) (ht : TR σ t n a.tmps) (hs : aEval P x t = some (.string s))
    (he : strSlice P o ty s t A (optV P t lo) (optV P t hi) (optV P t mx) = some (r, A1)) : OpSim P base σ A W ((execOp a.eval o).run P W) r A1 := by
  generalize q1 : optV P t lo = wlo at he
  generalize q2 : optV P t hi = whi at he
  generalize q3 : optV P t mx = wmx at he
  unfold strSlice at he
  split at he
  · rename_i vlo vhi
    split at he
    · rename_i l hh m hu hb
      simp at he; obtain ⟨rfl, rfl⟩ := he
      obtain ⟨c1, c2, c3, b1, b2, b3, b4, b5⟩ := sliceBounds_inv (Nat.le_refl _) hb
      have o1 := optV_sound h ht q1 c1
      have o2 := optV_sound h ht q2 c2
      have o3 := optV_sound h ht q3 c3
      have hx : a.eval x = .string s := (eval_sound h ht hs).eq_of_closed rfl
      refine sim_value (v' := .string (subStr s l hh)) h ?_ (.atom rfl)
      have hrun := b5 s.size (Nat.le_refl _) W
      have hlen : s.size = s.data.toList.length := rfl
      rw [← hlen] at hrun
      rw [if_pos rfl] at hrun
      simp only [execOp, ho, o1, o2, o3, hx, Instr.sliceAt, Instr.slice, Sem.run_bind, run_underlying ty hu, Result.andThen_ok, Sem.run_pure, subStr_eq]
      have hrun2 : (Instr.sliceBounds false s.size s.size vlo vhi none).run P W = .ok (l, hh, s.size) W := hrun
      simp only [Option.isSome_none, Bool.false_eq_true, if_false, Sem.run_bind, hrun2, Result.andThen_ok, Sem.run_pure]
    · exact pure_sound (by rw [ho]; simp) h ht he
  · exact pure_sound (by rw [ho]; simp) h ht he

theorem slice_sound {o : Oper} {ty : TypeId} {x : Operand} {lo hi mx : Option Operand} {r : ANext} {A1 : AS} (ho : o.op = .slice ty x lo hi mx) (h : R P base σ A W) (ht : TR σ t n a.tmps)
    (he : xSlice P o ty x lo hi mx t A = some (r, A1)) : OpSim P base σ A W ((execOp a.eval o).run P W) r A1 := by
  unfold xSlice at he
  split at he
  · rename_i s hs; exact strSlice_sound ho h ht hs he
  · exact pure_sound (by rw [ho]; simp) h ht he
  · rename_i v hs1 hs2 hv
    split at he <;> try (simp at he; done)
    rename_i vlo vhi vmx hlo hhi hmx
    obtain ⟨u, e1, rfl, rfl⟩ := okA_inv he
    have hv' := eval_sound h ht hv
    unfold aSlice at e1
    split at e1 <;> try (simp at e1; done)
    · rename_i k elem b off hu
      split at e1 <;> try (simp at e1; done)
      rename_i l hh m sz hb hsz
      simp at e1; subst e1
      obtain ⟨c1, c2, c3, b1, b2, b3, b4, b5⟩ := sliceBounds_inv (Nat.le_refl _) hb
      have o1 := optV_sound h ht hlo c1
      have o2 := optV_sound h ht hhi c2
      have o3 := optV_sound h ht hmx c3
      generalize hw : a.eval x = w at hv'
      cases hv' with
      | atom q => simp [atomV] at q
      | @ptr _ _ mm hbb =>
      refine sim_value (v' := .slice (some (if m = l then ⟨mm.c, off + mm.δ, none⟩ else ⟨mm.c, off + mm.δ + l * sz, none⟩)) (hh - l) (m - l)) h ?_ ?_
      · have hrun := b5 k (Nat.le_refl _) W
        have hm : (if vmx = none then k else m) = m := by split <;> simp_all
        rw [hm] at hrun
        simp only [execOp, ho, o1, o2, o3, hw, Instr.sliceAt, Sem.run_bind, run_underlying ty hu, Result.andThen_ok, Instr.sureAddr, Sem.run_pure, hrun, run_sizeOf elem hsz]
        by_cases hml : m = l
        · simp [hml]
        · simp [hml, add_eq]
      · have hN : mm.δ = mm.δ := rfl
        by_cases hml : m = l
        · subst hml
          simp only [Nat.beq_eq_true_eq, if_true, Nat.sub_self]
          rw [show (bif Nat.beq m m then (⟨b, off, none⟩ : Addr) else shiftA ⟨b, off, none⟩ (m * sz)) = ⟨b, off, none⟩ by simp]
          rw [show hh - m = 0 by omega]
          exact .slice hbb (Nat.le_refl _) (Nat.le_refl _) (.inl rfl) (.inl rfl)
        · rw [show (bif Nat.beq m l then (⟨b, off, none⟩ : Addr) else shiftA ⟨b, off, none⟩ (l * sz)) = ⟨b, off + l * sz, none⟩ by
            have : Nat.beq m l = false := by cases q : Nat.beq m l with | false => rfl | true => exact absurd (Nat.eq_of_beq_eq_true q) hml
            rw [this, cond_false, shiftA_eq]]
          rw [if_neg hml]
          exact .slice hbb (by omega) (Nat.le_refl _) (.inl rfl) (.inl (by omega))
    · rename_i elem b off len cap hu
      split at e1 <;> try (simp at e1; done)
      rename_i l hh m sz q1 q2 q3 q4 q5 q6 hb hsz hg
      cases hus : Nat.beq q4 sz with
      | false => rw [hus] at e1; simp at e1
      | true =>
      rw [hus] at e1
      simp at e1; subst e1
      have hus := Nat.eq_of_beq_eq_true hus
      generalize hw : a.eval x = w at hv'
      cases hv' with
      | atom q => simp [atomV] at q
      | @slice _ _ o' _ _ cap' mm hbb d1 d2 d3 d4 =>
      obtain ⟨c1, c2, c3, b1, b2, b3, b4, b5⟩ := sliceBounds_inv d1 hb
      have o1 := optV_sound h ht hlo c1
      have o2 := optV_sound h ht hhi c2
      have o3 := optV_sound h ht hmx c3
      obtain ⟨_, _, cc, fz', rfl, hN, hmu, _⟩ := h.live b _ mm hg hbb
      have hrun := b5 cap' d2 W
      generalize hm' : (if vmx = none then cap' else m) = m' at hrun
      refine sim_value (v' := .slice (some (if m' = l then ⟨mm.c, o', none⟩ else ⟨mm.c, o' + l * sz, none⟩)) (hh - l) (m' - l)) h ?_ ?_
      · simp only [execOp, ho, o1, o2, o3, hw, Instr.sliceAt, Instr.slice, Sem.run_bind, run_underlying ty hu, Result.andThen_ok, Sem.run_pure, hrun, run_sizeOf elem hsz]
        by_cases hml : m' = l
        · simp [hml]
        · simp [hml, add_eq]
      · have hmm : m ≤ m' := by rw [← hm']; split <;> omega
        have hbig : m' = m ∨ (m' = cap' ∧ m = cap) := by
          rw [← hm']; split
          · rename_i q; exact .inr ⟨rfl, b4 q⟩
          · exact .inl rfl
        have hsu : sz = mm.u := by rw [hmu]; exact hus.symm
        have hmul : ∀ x y : Nat, y ≤ x → (x - y) * mm.u + y * mm.u = x * mm.u := fun x y hxy => by rw [← Nat.add_mul, Nat.sub_add_cancel hxy]
        by_cases hml : m = l
        · subst hml
          rw [show (bif Nat.beq m m then (⟨b, off, none⟩ : Addr) else shiftA ⟨b, off, none⟩ (m * sz)) = ⟨b, off, none⟩ by simp]
          rw [show hh - m = 0 by omega, Nat.sub_self]
          by_cases hml' : m' = m
          · rw [if_pos hml', show m' - m = 0 by omega]
            exact .slice hbb (Nat.le_refl _) (Nat.le_refl _) (.inl rfl) (by rcases d4 with d4 | d4; exact .inl d4; exact .inr ⟨rfl, d4.2⟩)
          · rw [if_neg hml']
            obtain ⟨r1, r2⟩ := hbig.resolve_left hml'
            refine .slice hbb (Nat.le_refl _) (Nat.zero_le _) (.inr ?_) (.inr ⟨rfl, ?_⟩)
            · have := d3.resolve_left (by omega)
              have hk := hmul m' m (by omega)
              rw [hsu, r1] at *
              omega
            · rcases d4 with d4 | d4 <;> omega
        · have hml' : ¬ m' = l := by omega
          rw [show (bif Nat.beq m l then (⟨b, off, none⟩ : Addr) else shiftA ⟨b, off, none⟩ (l * sz)) = ⟨b, off + l * sz, none⟩ by
            have : Nat.beq m l = false := by cases q : Nat.beq m l with | false => rfl | true => exact absurd (Nat.eq_of_beq_eq_true q) hml
            rw [this, cond_false, shiftA_eq]]
          rw [if_neg hml']
          have ho' : o' = off + mm.δ := by rcases d4 with d4 | d4 <;> omega
          refine .slice hbb (by omega) (by omega) ?_ (.inl (by omega))
          rcases hbig with r | ⟨r1, r2⟩
          · exact .inl (by omega)
          · rcases d3 with d3 | d3
            · exact .inl (by omega)
            · refine .inr ?_
              have hk := hmul m' l (by omega)
              rw [hsu, r1] at *
              omega
  · simp at he

/-! Maps. -/
theorem ERs.isEmpty {l l' : List MapEntry} (h : ERs σ l l') : l'.isEmpty = l.isEmpty := by cases h <;> rfl
theorem ERs.length {l l' : List MapEntry} : ∀ (h : ERs σ l l'), l'.length = l.length
  | .nil => rfl
  | .cons _ b => by simp [ERs.length b]
theorem ERs.append {l l' m m' : List MapEntry} : ∀ (_ : ERs σ l l') (_ : ERs σ m m'), ERs σ (l ++ m) (l' ++ m')
  | .nil, h => h
  | .cons a b, h => .cons a (ERs.append b h)
/-- Two answers to 'where is the key'. -/
def FR (σ : Sg) : Option (Nat × Value) → Option (Nat × Value) → Prop
  | none, none => True
  | some (i, v), some (j, v') => i = j ∧ VR σ v v'
  | _, _ => False
theorem findNow_rel {d : TypeDesc} {k : Value} : ∀ {l l' : List MapEntry}, ERs σ l l' → ∀ i, (match Instr.findNow d k l i with | none => Instr.findNow d k l' i = none | some r => ∃ r', Instr.findNow d k l' i = some r' ∧ FR σ r r')
  | _, _, .nil, i => ⟨none, rfl, trivial⟩
  | _, _, .cons (e := e) (e' := e') he hl, i => by
    simp only [Instr.findNow]
    rw [he.2.1]
    cases hq : Instr.sameNow d k e.key with
    | none => simp
    | some b =>
      cases b with
      | true => simp; exact ⟨rfl, he.2.2.2⟩
      | false => simpa using findNow_rel hl (i + 1)
theorem findAsking_rel {kt : TypeId} {k : Value} : ∀ {l l' : List MapEntry}, ERs σ l l' → ∀ i r, aFindAsking P kt k l i = some r → ∀ W, ∃ r', (Instr.findAsking kt k l' i).run P W = .ok r' W ∧ FR σ r r'
  | _, _, .nil, i, r, h, W => by simp [aFindAsking] at h; subst h; exact ⟨none, rfl, trivial⟩
  | _, _, .cons (e := e) (e' := e') he hl, i, r, h, W => by
    simp only [aFindAsking] at h
    split at h <;> try (simp at h; done)
    · rename_i hq
      simp at h; subst h
      refine ⟨some (i, e'.val), ?_, rfl, he.2.2.2⟩
      simp [Instr.findAsking, he.2.1, pureRun_run _ _ hq W]
    · rename_i hq
      obtain ⟨r', q1, q2⟩ := findAsking_rel hl (i + 1) r h W
      refine ⟨r', ?_, q2⟩
      simp [Instr.findAsking, he.2.1, pureRun_run _ _ hq W, q1]
theorem find_sound {kt : TypeId} {k : Value} {l l' : List MapEntry} (hl : ERs σ l l') {r : Option (Nat × Value)} (h : aFind P kt k l = some r) (W : World) : ∃ r', (Instr.findKey kt k l').run P W = .ok r' W ∧ FR σ r r' := by
  unfold aFind at h
  split at h <;> try (simp at h; done)
  rename_i d hd
  have hrel := findNow_rel (d := d) (k := k) hl 0
  split at h
  · rename_i r1 hr1
    simp at h; subst h
    rw [hr1] at hrel
    obtain ⟨r', q1, q2⟩ := hrel
    exact ⟨r', by simp [Instr.findKey, run_underlying kt hd, q1], q2⟩
  · rename_i hr1
    rw [hr1] at hrel
    obtain ⟨r', q1, q2⟩ := findAsking_rel hl 0 r h W
    refine ⟨r', ?_, q2⟩
    simp only [Instr.findKey, Sem.run_bind, run_underlying kt hd, Result.andThen_ok]
    simp only at hrel
    rw [hrel]; exact q1

theorem lookup_sound {ty : TypeId} {x ix : Operand} {ok : Bool} {r : ANext} {A1 : AS} (h : R P base σ A W) (ht : TR σ t n a.tmps) (he : xLookup P ty x ix ok t A = some (r, A1)) :
    OpSim P base σ A W ((do pure (.value (← Instr.lookup ty (a.eval x) (a.eval ix) ok)) : Sem Next).run P W) r A1 := by
  unfold xLookup lookupV at he
  split at he <;> try (simp at he; done)
  rename_i m k kt et hm hk hu
  split at he <;> try (simp at he; done)
  rename_i es c hes hck
  have hk' : a.eval ix = k := (eval_sound h ht hk).eq_of_closed hck
  have hm' := eval_sound h ht hm
  -- the entries
  obtain ⟨es', hrel, hx⟩ : ∃ es' : Array MapEntry, ERs σ es es'.toList ∧ ((a.eval x = .map none ∧ es' = #[]) ∨ ∃ b cl, a.eval x = .map (some b) ∧ W.heap[b]? = some (.map es' cl)) := by
    unfold aEntries at hes
    split at hes <;> try (simp at hes; done)
    · simp at hes; obtain ⟨rfl, rfl⟩ := hes
      exact ⟨#[], .nil, .inl ⟨hm'.eq_of_closed rfl, rfl⟩⟩
    · rename_i b
      split at hes <;> try (simp at hes; done)
      rename_i es0 c0 hg
      simp at hes; obtain ⟨rfl, rfl⟩ := hes
      generalize a.eval x = w at hm'
      cases hm' with
      | atom q => simp [atomV] at q
      | @map _ mm hb =>
      obtain ⟨o', e1, es', rfl, e2⟩ := h.live b _ mm hg hb
      exact ⟨es', e2, .inr ⟨_, _, rfl, e1⟩⟩
  have hemp : es'.isEmpty = es.isEmpty := by rw [← hrel.isEmpty]; simp
  split at he <;> try (simp at he; done)
  · rename_i q0 q1 q2 i v hchk hf
    simp at he; obtain ⟨rfl, rfl⟩ := he
    obtain ⟨r', f1, f2⟩ := find_sound hrel hf W
    have hchk' := pureRun_run _ _ hchk W
    rw [← hemp] at hchk'
    cases r' with
    | none => exact f2.elim
    | some p =>
      obtain ⟨j, v'⟩ := p
      obtain ⟨rfl, hv⟩ := f2
      refine sim_value (v' := if ok then .tuple #[v', .bool true] else v') h ?_ ?_
      · rcases hx with ⟨hx, rfl⟩ | ⟨b, cl, hx, hb⟩
        · simp only [Instr.lookup, Sem.run_bind, run_underlying ty hu, Result.andThen_ok, hx, hk', hchk', Sem.run_pure, f1]
        · simp only [Instr.lookup, Sem.run_bind, run_underlying ty hu, Result.andThen_ok, hx, hk', getObj, Sem.run, hb, hchk', Sem.run_pure, f1]
      · cases ok
        · simpa using hv
        · exact .tuple (.cons hv (.cons (.atom rfl) .nil))
  · rename_i q0 q1 q2 inf hchk hf hinf
    split at he <;> try (simp at he; done)
    rename_i z hz
    cases hcz : closedV z with
    | false => rw [hcz] at he; simp at he
    | true =>
    rw [hcz] at he
    simp at he; obtain ⟨rfl, rfl⟩ := he
    obtain ⟨r', f1, f2⟩ := find_sound hrel hf W
    have hchk' := pureRun_run _ _ hchk W
    rw [← hemp] at hchk'
    cases r' with
    | some p => exact f2.elim
    | none =>
      refine sim_value (v' := if ok then .tuple #[z, .bool false] else z) h ?_ ?_
      · have hzr : (zeroValue et).run P W = .ok z W := by simp [zeroValue, run_typeInfo et hinf, hz]
        rcases hx with ⟨hx, rfl⟩ | ⟨b, cl, hx, hb⟩
        · simp only [Instr.lookup, Sem.run_bind, run_underlying ty hu, Result.andThen_ok, hx, hk', hchk', Sem.run_pure, f1, hzr]
        · simp only [Instr.lookup, Sem.run_bind, run_underlying ty hu, Result.andThen_ok, hx, hk', getObj, Sem.run, hb, hchk', Sem.run_pure, f1, hzr]
      · cases ok
        · simpa using closed_VR σ z hcz
        · exact .tuple (.cons (closed_VR σ z hcz) (.cons (.atom rfl) .nil))

theorem range_sound {ty : TypeId} {x : Operand} {r : ANext} {A1 : AS} (h : R P base σ A W) (ht : TR σ t n a.tmps) (he : xRange P ty x t A = some (r, A1)) :
    OpSim P base σ A W ((do pure (.value (← Instr.range ty (a.eval x))) : Sem Next).run P W) r A1 := by
  unfold xRange rangeV at he
  split at he <;> try (simp at he; done)
  rename_i s hs
  split at he <;> try (simp at he; done)
  rename_i hu
  simp at he; obtain ⟨rfl, rfl⟩ := he
  have hx : a.eval x = .string s := (eval_sound h ht hs).eq_of_closed rfl
  obtain ⟨h1, h2⟩ := h.new (o := .iter s 0) (o' := .stringIter s 0) (m := ⟨W.heap.size, 0, 0, 0⟩) (W1 := { W with heap := W.heap.push (.stringIter s 0) }) rfl rfl ⟨rfl, rfl⟩
  refine ⟨_, _, .pointer (some ⟨W.heap.size, 0, none⟩), .inl ?_, h1, h2, ?_⟩
  · simp [hx, Instr.range, run_underlying ty hu, newObj, Sem.run]
  · exact .ptr (m := ⟨W.heap.size, 0, 0, 0⟩) (Sg.add_at σ A.nx _)
theorem next_sound {ty : TypeId} {x : Operand} {b : Bool} {r : ANext} {A1 : AS} (h : R P base σ A W) (ht : TR σ t n a.tmps) (he : xNext P x b t A = some (r, A1)) :
    OpSim P base σ A W ((do pure (.value (← Instr.next (a.eval x) b ty)) : Sem Next).run P W) r A1 := by
  unfold xNext nextV at he
  split at he <;> try (simp at he; done)
  rename_i rr hx
  split at he <;> try (simp at he; done)
  rename_i s pos hg
  cases hlo : Nat.ble A.lo rr with
  | false => rw [hlo] at he; simp at he
  | true =>
  rw [hlo] at he
  simp only [cond_true] at he
  have hx' := eval_sound h ht hx
  generalize hw : a.eval x = w at hx'
  cases hx' with
  | atom q => simp [atomV] at q
  | @ptr _ _ m hb =>
  obtain ⟨o', e1, e2⟩ := h.live rr _ m hg hb
  have e2 : o' = .stringIter s pos ∧ m.δ = 0 := e2
  obtain ⟨rfl, hδ⟩ := e2
  have hclt := (Array.getElem?_eq_some_iff.1 e1).1
  have hlen : s.size = s.data.toList.length := rfl
  rw [Nat.zero_add, hδ]
  cases hp : Nat.blt pos s.data.toList.length with
  | false =>
    rw [hp] at he
    simp at he; obtain ⟨rfl, rfl⟩ := he
    have hnl : ¬ pos < s.size := fun q => by
      have h9 : Nat.blt pos s.data.toList.length = true := Nat.ble_eq_true_of_le q
      rw [h9] at hp; cases hp
    refine sim_value (v' := .tuple #[.bool false]) h ?_ (.tuple (.cons (.atom rfl) .nil))
    simp [Instr.next, getObj, Sem.run, e1, hnl]
  | true =>
    rw [hp] at he
    simp at he; obtain ⟨rfl, rfl⟩ := he
    have hnl : pos < s.size := by rw [hlen]; simpa [Nat.blt, Nat.succ_le_iff] using hp
    have hup := h.upd (b := rr) (m := m) (o1 := .iter s (pos + (Utf8.decode s pos).2)) (o1' := .stringIter s (pos + (Utf8.decode s pos).2))
      (W1 := { W with heap := W.heap.setIfInBounds m.c (.stringIter s (pos + (Utf8.decode s pos).2)) }) (by rw [hg]; rfl) hb (Nat.le_of_ble_eq_true hlo)
      (by simp) (fun y hy => by simp [Array.getElem?_setIfInBounds_ne (Ne.symm hy)]) (by simp [Array.getElem?_setIfInBounds, hclt]) ⟨rfl, hδ⟩
    refine ⟨σ, _, .tuple #[.bool true, goInt pos, .int .i32 (Utf8.decode s pos).1], .inl ?_, hup.1, hup.2, .tuple (.cons (.atom rfl) (.cons (.atom rfl) (.cons (.atom rfl) .nil)))⟩
    simp [Instr.next, getObj, setObj, Sem.run, e1, hnl]
theorem setEntry_ER {v v' k : Value} (hk : closedV k = true) (hv : VR σ v v') : ∀ {l l' : List MapEntry}, ERs σ l l' → ∀ i, ERs σ (setEntry v k l i) (l'.modify i fun e => { e with key := k, val := v' })
  | _, _, .nil, i => by cases i <;> exact .nil
  | _, _, .cons (e := e) (e' := e') he hl, 0 => .cons ⟨hk, rfl, he.2.2.1, hv⟩ hl
  | _, _, .cons (e := e) (e' := e') he hl, i + 1 => .cons he (setEntry_ER hk hv hl i)
theorem ERs.get_key : ∀ {l l' : List MapEntry}, ERs σ l l' → ∀ (i : Nat) (e : MapEntry), l[i]? = some e → ∃ e', l'[i]? = some e' ∧ e'.key = e.key
  | _, _, .nil, i, e, h => by simp at h
  | _, _, .cons he hl, 0, e, h => by simp at h; subst h; exact ⟨_, rfl, he.2.1⟩
  | _, _, .cons he hl, i + 1, e, h => by simpa using ERs.get_key hl i e (by simpa using h)
theorem mapUpdate_sound {ty : TypeId} {x k y : Operand} {r : ANext} {A1 : AS} (h : R P base σ A W) (ht : TR σ t n a.tmps) (he : xMapUpdate P ty x k y t A = some (r, A1)) :
    OpSim P base σ A W ((do Instr.mapUpdate ty (a.eval x) (a.eval k) (a.eval y); pure .skip : Sem Next).run P W) r A1 := by
  unfold xMapUpdate mapUpdateV at he
  split at he <;> try (simp at he; done)
  rename_i b kv v kt vt hm hk hv hu
  split at he <;> try (simp at he; done)
  rename_i es c hg hck hlo
  have hk' : a.eval k = kv := (eval_sound h ht hk).eq_of_closed hck
  have hm' := eval_sound h ht hm
  have hv' := eval_sound h ht hv
  generalize hw : a.eval x = w at hm'
  cases hm' with
  | atom q => simp [atomV] at q
  | @map _ mm hb =>
  obtain ⟨o', e1, es', rfl, e2⟩ := h.live b _ mm hg hb
  have hclt := (Array.getElem?_eq_some_iff.1 e1).1
  split at he <;> try (simp at he; done)
  · rename_i q0 hchk hf
    simp at he; obtain ⟨rfl, rfl⟩ := he
    obtain ⟨r', f1, f2⟩ := find_sound e2 hf W
    cases r' with
    | some p => exact f2.elim
    | none =>
    have he1 : ER σ { key := kv, val := v, born := c } { key := kv, val := a.eval y, born := c } := ⟨hck, rfl, rfl, hv'⟩
    have hup := h.upd (b := b) (m := mm) (o1 := .map (es ++ [{ key := kv, val := v, born := c }]) (c + 1)) (o1' := .map (es'.push { key := kv, val := a.eval y, born := c }) (c + 1))
      (W1 := { W with heap := W.heap.setIfInBounds mm.c (.map (es'.push { key := kv, val := a.eval y, born := c }) (c + 1)) }) (by rw [hg]; rfl) hb (Nat.le_of_ble_eq_true hlo)
      (by simp) (fun x hx => by simp [Array.getElem?_setIfInBounds_ne (Ne.symm hx)]) (by simp [Array.getElem?_setIfInBounds, hclt])
      ⟨_, rfl, by simpa using e2.append (.cons he1 .nil)⟩
    refine ⟨σ, _, undef, .inr ⟨?_, rfl⟩, hup.1, hup.2, closed_VR σ _ (by simp [undef, closedV, closedVs])⟩
    simp only [Instr.mapUpdate, Sem.run_bind, run_underlying ty hu, Result.andThen_ok, hk', getObj, Sem.run, e1, pureRun_run _ _ hchk W, f1, setObj, Sem.run_pure]
  · rename_i q0 i u hchk hf
    split at he <;> try (simp at he; done)
    rename_i e hei
    cases hsb : Instr.sameBits 10000 e.key kv with
    | false => rw [hsb] at he; simp at he
    | true =>
    rw [hsb] at he
    simp at he; obtain ⟨rfl, rfl⟩ := he
    obtain ⟨r', f1, f2⟩ := find_sound e2 hf W
    cases r' with
    | none => exact f2.elim
    | some p =>
    obtain ⟨j, u'⟩ := p
    obtain ⟨rfl, _⟩ : i = j ∧ VR σ u u' := f2
    obtain ⟨e', k1, k2⟩ := e2.get_key i e hei
    have hup := h.upd (b := b) (m := mm) (o1 := .map (setEntry v kv es i) c) (o1' := .map (es'.modify i fun e => { e with key := kv, val := a.eval y }) c)
      (W1 := { W with heap := W.heap.setIfInBounds mm.c (.map (es'.modify i fun e => { e with key := kv, val := a.eval y }) c) }) (by rw [hg]; rfl) hb (Nat.le_of_ble_eq_true hlo)
      (by simp) (fun x hx => by simp [Array.getElem?_setIfInBounds_ne (Ne.symm hx)]) (by simp [Array.getElem?_setIfInBounds, hclt])
      ⟨_, rfl, by simpa using setEntry_ER hck hv' e2 i⟩
    have hget : ((es'[i]?).map (·.key)).getD kv = e.key := by
      have : es'[i]? = some e' := by simpa using k1
      rw [this]; simp [k2]
    refine ⟨σ, _, undef, .inr ⟨?_, rfl⟩, hup.1, hup.2, closed_VR σ _ (by simp [undef, closedV, closedVs])⟩
    simp only [Instr.mapUpdate, Sem.run_bind, run_underlying ty hu, Result.andThen_ok, hk', getObj, Sem.run, e1, pureRun_run _ _ hchk W, f1, setObj, Sem.run_pure, hget, Instr.keyThatStays, hsb, if_true]

theorem assert_sound {x : Operand} {xty ty : TypeId} {ok : Bool} {r : ANext} {A1 : AS} (h : R P base σ A W) (ht : TR σ t n a.tmps) (he : xAssert P x ty ok t A = some (r, A1)) :
    OpSim P base σ A W ((do pure (.value (← Instr.typeAssert (a.eval x) xty ty ok)) : Sem Next).run P W) r A1 := by
  unfold xAssert assertV at he
  split at he <;> try (simp at he; done)
  rename_i tx v d hx hu
  have hx' := eval_sound h ht hx
  generalize a.eval x = w at hx'
  cases hx' with
  | atom q => simp [atomV] at q
  | @iface _ _ v' hv =>
  have hd : ∀ ms, d ≠ .interface ms := by
    rintro ms rfl; simp at he
  split at he
  · simp at he
  · cases hq : Nat.beq tx ty with
    | true =>
      rw [hq] at he
      simp at he; obtain ⟨rfl, rfl⟩ := he
      have hq := Nat.eq_of_beq_eq_true hq
      refine sim_value (v' := if ok then .tuple #[v', .bool true] else v') h ?_ ?_
      · simp only [Instr.typeAssert, Sem.run_bind, run_underlying ty hu, Result.andThen_ok]
        cases d <;> first | (exact absurd rfl (hd _)) | (simp [hq])
      · cases ok
        · simpa using hv
        · exact .tuple (.cons hv (.cons (.atom rfl) .nil))
    | false =>
      rw [hq] at he
      simp only [cond_false] at he
      have hne : ¬ tx = ty := by rintro rfl; simp at hq
      cases ok with
      | false => simp at he
      | true =>
        simp only [cond_true] at he
        split at he <;> try (simp at he; done)
        rename_i inf hinf
        split at he <;> try (simp at he; done)
        rename_i z hz
        cases hcz : closedV z with
        | false => rw [hcz] at he; simp at he
        | true =>
        rw [hcz] at he
        simp at he; obtain ⟨rfl, rfl⟩ := he
        refine sim_value (v' := .tuple #[z, .bool false]) h ?_ (.tuple (.cons (closed_VR σ z hcz) (.cons (.atom rfl) .nil)))
        have hzr : (zeroValue ty).run P W = .ok z W := by simp [zeroValue, run_typeInfo ty hinf, hz]
        simp only [Instr.typeAssert, Sem.run_bind, run_underlying ty hu, Result.andThen_ok]
        cases d <;> first | (exact absurd rfl (hd _)) | (simp [hne, hzr])

theorem part_sound {ty : TypeId} {l l' : List Value} {off : Nat} {v : Value} (hl : VRs σ l l') (e : partV P ty l off = some v) : ∃ v', (part ty ⟨l'⟩ off).run P W = .ok v' W ∧ VR σ v v' := by
  unfold partV at e
  split at e
  · rename_i hag
    split at e <;> try (simp at e; done)
    rename_i n hn
    simp at e; subst e
    refine ⟨.agg ⟨(l'.drop off).take n⟩, ?_, .agg (VRs.of_get (by simp [hl.length]) fun i u u' hu hu' => ?_)⟩
    · simp only [part, Sem.run_bind, run_isAgg ty hag, Result.andThen_ok, if_true, run_sizeOf ty hn, Sem.run_pure]
      have : (⟨l'⟩ : Array Value).extract off (off + n) = ⟨(l'.drop off).take n⟩ := by
        apply Array.ext'
        simp [List.extract_eq_take_drop]
      rw [this]
    · have hi : i < n := by
        rcases Nat.lt_or_ge i n with q | q
        · exact q
        · rw [List.getElem?_eq_none (by simp; omega)] at hu; simp at hu
      rw [List.getElem?_take_of_lt hi, List.getElem?_drop] at hu hu'
      obtain ⟨w, q1, q2⟩ := hl.get _ _ hu
      rw [q1] at hu'
      cases hu'
      exact q2
  · rename_i hag
    obtain ⟨v', q1, q2⟩ := hl.get _ _ e
    refine ⟨v', ?_, q2⟩
    simp [part, run_isAgg ty hag, q1]
  · simp at e

theorem fieldOf_sound {o : Oper} {s : TypeId} {x : Operand} {f : Nat} {r : ANext} {A1 : AS} (ho : o.op = .field s x f) (h : R P base σ A W) (ht : TR σ t n a.tmps) (he : xFieldOf P o s x f t A = some (r, A1)) :
    OpSim P base σ A W ((execOp a.eval o).run P W) r A1 := by
  unfold xFieldOf fieldOfV at he
  split at he
  · rename_i cs hx
    split at he <;> try (simp at he; done)
    rename_i fields hu
    split at he <;> try (simp at he; done)
    rename_i fl hfl
    obtain ⟨u, e1, rfl, rfl⟩ := okA_inv he
    have hv := eval_sound h ht hx
    generalize hw : a.eval x = w at hv
    cases hv with
    | atom q => simp [atomV] at q
    | @agg l l' hl =>
    obtain ⟨v', q1, q2⟩ := part_sound (P := P) (W := W) hl e1
    refine sim_value (v' := v') h ?_ q2
    simp only [execOp, ho, hw, Instr.field, Sem.run_bind, run_underlying s hu, Result.andThen_ok, hfl, asAgg, Sem.run_pure, q1]
  · exact pure_sound (by rw [ho]; simp) h ht he

theorem indexStr_sound {o : Oper} {ty : TypeId} {x ix : Operand} {r : ANext} {A1 : AS} (ho : o.op = .index ty x ix) (h : R P base σ A W) (ht : TR σ t n a.tmps) (he : xIndex P o ty x ix t A = some (r, A1)) :
    OpSim P base σ A W ((execOp a.eval o).run P W) r A1 := by
  unfold xIndex indexStr at he
  split at he
  · rename_i s k i hx hi hu
    split at he <;> try (simp at he; done)
    rename_i c hc
    simp at he; obtain ⟨rfl, rfl⟩ := he
    have hx' : a.eval x = .string s := (eval_sound h ht hx).eq_of_closed rfl
    have hi' : a.eval ix = .int k (.ofNat i) := (eval_sound h ht hi).eq_of_closed rfl
    refine sim_value (v' := .int .u8 (.ofNat c.toNat)) h ?_ (.atom rfl)
    obtain ⟨hlt, hat⟩ := List.getElem?_eq_some_iff.1 hc
    have hs : s[i]? = some c := by
      have hlt' : i < s.size := by
        have : s.size = s.data.toList.length := rfl
        omega
      rw [getElem?_pos s i hlt']
      rw [← hat]; rfl
    have hif : (if 0 ≤ (Int.ofNat i) then s[(Int.ofNat i).toNat]? else none) = some c := (if_pos (Int.natCast_nonneg i)).trans hs
    simp only [execOp, ho, hx', hi', Instr.index, asIntOf, Sem.run_bind, Sem.run_pure, Result.andThen_ok, run_underlying ty hu, hif]
    rfl
  · exact pure_sound (by rw [ho]; simp) h ht he

end Go.Eng
