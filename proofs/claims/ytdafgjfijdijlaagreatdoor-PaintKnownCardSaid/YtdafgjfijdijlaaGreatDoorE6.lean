/- Part of an abstract machine that runs the program's code in Lean's kernel, and of the proof that what it answers every run of the model answers (Go.Eng; program-independent). No condition. -/
import Derived.Test.YtdafgjfijdijlaaGreatDoorE5
import Derived.Laws.Cells
import Derived.Laws.IdiomCopy
namespace Go.Eng
open Go

variable {P : Program} {base : Nat} {σ : Sg} {A : AS} {W : World}

def Sg.add (σ : Sg) (b : Nat) (m : Im) : Sg := fun x => if x = b then some m else σ x

theorem Sg.le_add {σ : Sg} {b : Nat} {m : Im} (h : σ b = none) : σ.le (σ.add b m) := by
  intro x y e
  by_cases hx : x = b
  · subst hx; rw [h] at e; simp at e
  · simp [Sg.add, hx, e]
theorem Sg.add_at (σ : Sg) (b : Nat) (m : Im) : σ.add b m b = some m := by simp [Sg.add]
theorem Sg.add_ne (σ : Sg) (b : Nat) (m : Im) {x : Nat} (h : x ≠ b) : σ.add b m x = σ x := by simp [Sg.add, h]

theorem live_ne {b : Nat} {m : Im} (h : R P base σ A W) (e : σ b = some m) : b < A.nx := by
  rcases Nat.lt_or_ge b A.nx with h1 | h1
  · exact h1
  · rw [h.fresh b h1] at e; simp at e

/-- Only what the tape tells has turned. -/
theorem R.same {W1 : World} (h : R P base σ A W) (e : W1.heap = W.heap) : R P base σ A W1 :=
  ⟨by rw [e]; exact h.live, h.inj, h.fresh, h.glob, h.high, h.low, by rw [e]; exact h.base_le, h.lonx, h.dom⟩
theorem Ext.same' {W1 : World} (e : W1.heap = W.heap) (hr : Rest W W1 := by exact ⟨rfl, rfl⟩) : Ext A σ W A σ W1 :=
  ⟨fun _ _ h => h, fun _ _ => rfl, Nat.le_refl _, rfl, by rw [e]; exact Nat.le_refl _, fun _ _ h => h, fun _ _ _ => by rw [e], hr⟩

/-- A new block. -/
theorem R.new {o : AObj} {o' : Obj} {m : Im} {W1 : World} (h : R P base σ A W) (hW : W1.heap = W.heap.push o') (hm : m.c = W.heap.size) (ho : OR σ m o o') (hr : Rest W W1 := by exact ⟨rfl, rfl⟩) :
    R P base (σ.add A.nx m) (A.new o) W1 ∧ Ext A σ W (A.new o) (σ.add A.nx m) W1 := by
  have hf : σ A.nx = none := h.fresh _ (Nat.le_refl _)
  have hle : σ.le (σ.add A.nx m) := Sg.le_add hf
  have hlt : ∀ b m', σ b = some m' → b ≠ A.nx := fun b m' e hb => by rw [hb, hf] at e; simp at e
  have hold : ∀ b o1, (A.new o).h.get b = some o1 → (b = A.nx ∧ o = o1) ∨ (b ≠ A.nx ∧ A.h.get b = some o1) := fun b o1 e => T.set_get _ _ _ _ _ e
  have hold' : ∀ b, ((A.new o).h.get b).isSome → b = A.nx ∨ (b ≠ A.nx ∧ (A.h.get b).isSome) := fun b e => by
    obtain ⟨o1, e1⟩ := Option.isSome_iff_exists.1 e
    rcases hold b o1 e1 with ⟨a, _⟩ | ⟨a, b⟩
    · exact .inl a
    · exact .inr ⟨a, by rw [b]; rfl⟩
  have hin : ∀ b o1 m', A.h.get b = some o1 → σ b = some m' → m'.c < W.heap.size := fun b o1 m' e1 e2 => by
    obtain ⟨o2, e3, _⟩ := h.live b o1 m' e1 e2
    exact (Array.getElem?_eq_some_iff.1 e3).1
  refine ⟨⟨?_, ?_, ?_, ?_, ?_, fun b m' e hl => h.low b m' (by rw [Sg.add_ne _ _ _ (fun q => by have := h.lonx; have : b < A.lo := hl; omega)] at e; exact e) hl, ?_, Nat.le_succ_of_le h.lonx, fun b hb => ?_⟩, ⟨hle, ?_, Nat.le_succ _, rfl, ?_, ?_, ?_, hr⟩⟩
  · intro b o1 m' e1 e2
    rcases hold b o1 e1 with ⟨rfl, rfl⟩ | ⟨hb, e1'⟩
    · rw [Sg.add_at] at e2; obtain rfl := Option.some.inj e2
      exact ⟨o', by rw [hW, hm]; simp, ho.mono hle⟩
    · rw [Sg.add_ne _ _ _ hb] at e2
      obtain ⟨o2, e3, e4⟩ := h.live b o1 m' e1' e2
      exact ⟨o2, by rw [hW, Array.getElem?_push, if_neg (by have := (Array.getElem?_eq_some_iff.1 e3).1; omega)]; exact e3, e4.mono hle⟩
  · intro b b' m1 m2 e1 e2 e3 e4 e5
    rcases hold' b e1 with rfl | ⟨hb, l1⟩ <;> rcases hold' b' e2 with rfl | ⟨hb', l2⟩
    · rfl
    · rw [Sg.add_at] at e3; obtain rfl := Option.some.inj e3
      rw [Sg.add_ne _ _ _ hb'] at e4
      obtain ⟨o2, q⟩ := Option.isSome_iff_exists.1 l2
      have := hin _ _ _ q e4; omega
    · rw [Sg.add_at] at e4; obtain rfl := Option.some.inj e4
      rw [Sg.add_ne _ _ _ hb] at e3
      obtain ⟨o2, q⟩ := Option.isSome_iff_exists.1 l1
      have := hin _ _ _ q e3; omega
    · rw [Sg.add_ne _ _ _ hb] at e3; rw [Sg.add_ne _ _ _ hb'] at e4
      exact h.inj _ _ _ _ l1 l2 e3 e4 e5
  · intro b hb
    have hb' : A.nx + 1 ≤ b := hb
    rw [Sg.add_ne _ _ _ (by omega)]; exact h.fresh b (by omega)
  · intro g hg
    obtain ⟨m', e1, e2, e3⟩ := h.glob g hg
    exact ⟨m', hle _ _ e1, e2, e3⟩
  · intro b m' e hl
    by_cases hb : b = A.nx
    · rw [hb, Sg.add_at] at e; obtain rfl := Option.some.inj e; rw [hm]; exact h.base_le
    · rw [Sg.add_ne _ _ _ hb] at e; exact h.high b m' e hl
  · rw [hW, Array.size_push]; exact Nat.le_succ_of_le h.base_le
  · rcases hold' b hb with rfl | ⟨_, q⟩
    · exact Nat.lt_succ_self _
    · exact Nat.lt_succ_of_lt (h.dom b q)
  · intro b hb; exact Sg.add_ne _ _ _ (by omega)
  · rw [hW, Array.size_push]; exact Nat.le_succ _
  · rintro c hc ⟨b, m', e1, e2, e3, e4⟩
    rcases hold' b e1 with rfl | ⟨hb, l1⟩
    · rw [Sg.add_at] at e2; obtain rfl := Option.some.inj e2; omega
    · rw [Sg.add_ne _ _ _ hb] at e2; exact ⟨b, m', l1, e2, e3, e4⟩
  · intro c hc _
    rw [hW, Array.getElem?_push, if_neg (by omega)]

/-- A block's content is turned. -/
theorem R.upd {b : Nat} {m : Im} {o1 : AObj} {o1' : Obj} {W1 : World} (h : R P base σ A W) (hl : (A.h.get b).isSome) (hb : σ b = some m) (hlo : A.lo ≤ b)
    (hs : W1.heap.size = W.heap.size) (hne : ∀ c, c ≠ m.c → W1.heap[c]? = W.heap[c]?) (hat : W1.heap[m.c]? = some o1') (ho : OR σ m o1 o1') (hr : Rest W W1 := by exact ⟨rfl, rfl⟩) :
    R P base σ (A.put b o1) W1 ∧ Ext A σ W (A.put b o1) σ W1 := by
  have hold : ∀ x o, (A.put b o1).h.get x = some o → (x = b ∧ o1 = o) ∨ (x ≠ b ∧ A.h.get x = some o) := fun x o e => T.set_get _ _ _ _ _ e
  have hold' : ∀ x, ((A.put b o1).h.get x).isSome → (A.h.get x).isSome := fun x e => by
    obtain ⟨o, e1⟩ := Option.isSome_iff_exists.1 e
    rcases hold x o e1 with ⟨rfl, _⟩ | ⟨_, q⟩
    · exact hl
    · rw [q]; rfl
  refine ⟨⟨?_, ?_, h.fresh, h.glob, h.high, h.low, by rw [hs]; exact h.base_le, h.lonx, fun x hx => h.dom x (hold' x hx)⟩, ⟨fun _ _ h => h, fun _ _ => rfl, Nat.le_refl _, rfl, by omega, ?_, ?_, hr⟩⟩
  · intro x o m' e1 e2
    rcases hold x o e1 with ⟨rfl, rfl⟩ | ⟨hx, e1'⟩
    · rw [hb] at e2; obtain rfl := Option.some.inj e2
      exact ⟨o1', hat, ho⟩
    · obtain ⟨o2, e3, e4⟩ := h.live x o m' e1' e2
      refine ⟨o2, ?_, e4⟩
      rw [hne]; exact e3
      intro hc
      exact hx (h.inj x b m' m (by rw [e1']; rfl) hl e2 hb hc)
  · intro x x' m1 m2 l1 l2; exact h.inj x x' m1 m2 (hold' _ l1) (hold' _ l2)
  · rintro c hc ⟨x, m', e1, e2, e3, e4⟩
    exact ⟨x, m', hold' _ e1, e2, e3, e4⟩
  · intro c hc hn
    exact hne c (fun e => hn ⟨b, m, hl, hb, e.symm, hlo⟩)

/-- A block is forgotten. -/
theorem R.kill (b : Nat) (h : R P base σ A W) : R P base σ (A.kill b) W ∧ Ext A σ W (A.kill b) σ W := by
  have hold : ∀ x o, (A.kill b).h.get x = some o → A.h.get x = some o := fun x o e => (T.del_get _ _ _ _ e).2
  have hold' : ∀ x, ((A.kill b).h.get x).isSome → (A.h.get x).isSome := fun x e => by
    obtain ⟨o, e1⟩ := Option.isSome_iff_exists.1 e
    rw [hold x o e1]; rfl
  refine ⟨⟨fun x o m e => h.live x o m (hold _ _ e), fun x x' m1 m2 l1 l2 => h.inj x x' m1 m2 (hold' _ l1) (hold' _ l2), h.fresh, h.glob, h.high, h.low, h.base_le, h.lonx, fun x hx => h.dom x (hold' x hx)⟩,
    ⟨fun _ _ h => h, fun _ _ => rfl, Nat.le_refl _, rfl, Nat.le_refl _, ?_, fun _ _ _ => rfl, rfl, rfl⟩⟩
  rintro c hc ⟨x, m', e1, e2, e3, e4⟩
  exact ⟨x, m', hold' _ e1, e2, e3, e4⟩

/-- A forgotten block goes on under a new number. -/
theorem R.alias {b : Nat} {m m1 : Im} {o1 : AObj} {o1' : Obj} {W1 : World} (h : R P base σ A W) (hl : (A.h.get b).isSome) (hb : σ b = some m) (hlo : A.lo ≤ b)
    (hs : W1.heap.size = W.heap.size) (hne : ∀ c, c ≠ m.c → W1.heap[c]? = W.heap[c]?) (hat : W1.heap[m.c]? = some o1') (hc : m1.c = m.c) (ho : OR σ m1 o1 o1') (hr : Rest W W1 := by exact ⟨rfl, rfl⟩) :
    R P base (σ.add A.nx m1) ((A.kill b).new o1) W1 ∧ Ext A σ W ((A.kill b).new o1) (σ.add A.nx m1) W1 := by
  have hf : σ A.nx = none := h.fresh _ (Nat.le_refl _)
  have hle : σ.le (σ.add A.nx m1) := Sg.le_add hf
  have hold : ∀ x o, ((A.kill b).new o1).h.get x = some o → (x = A.nx ∧ o1 = o) ∨ (x ≠ A.nx ∧ x ≠ b ∧ A.h.get x = some o) := fun x o e => by
    rcases T.set_get _ _ _ _ _ e with h | ⟨h1, h2⟩
    · exact .inl h
    · exact .inr ⟨h1, T.del_get _ _ _ _ h2⟩
  have hold' : ∀ x, (((A.kill b).new o1).h.get x).isSome → x = A.nx ∨ (x ≠ A.nx ∧ x ≠ b ∧ (A.h.get x).isSome) := fun x e => by
    obtain ⟨o, e1⟩ := Option.isSome_iff_exists.1 e
    rcases hold x o e1 with ⟨a, _⟩ | ⟨a, c, d⟩
    · exact .inl a
    · exact .inr ⟨a, c, by rw [d]; rfl⟩
  refine ⟨⟨?_, ?_, ?_, ?_, ?_, fun b m' e hl => h.low b m' (by rw [Sg.add_ne _ _ _ (fun q => by have := h.lonx; have : b < A.lo := hl; omega)] at e; exact e) hl, by rw [hs]; exact h.base_le, Nat.le_succ_of_le h.lonx, fun x hx => ?_⟩, ⟨hle, ?_, Nat.le_succ _, rfl, by omega, ?_, ?_, hr⟩⟩
  · intro x o m' e1 e2
    rcases hold x o e1 with ⟨rfl, rfl⟩ | ⟨hx, hxb, e1'⟩
    · rw [Sg.add_at] at e2; obtain rfl := Option.some.inj e2
      exact ⟨o1', by rw [hc]; exact hat, ho.mono hle⟩
    · rw [Sg.add_ne _ _ _ hx] at e2
      obtain ⟨o2, e3, e4⟩ := h.live x o m' e1' e2
      refine ⟨o2, ?_, e4.mono hle⟩
      rw [hne]; exact e3
      intro hcc
      exact hxb (h.inj x b m' m (by rw [e1']; rfl) hl e2 hb hcc)
  · intro x x' m2 m3 e1 e2 e3 e4 e5
    rcases hold' x e1 with rfl | ⟨hx, hxb, l1⟩ <;> rcases hold' x' e2 with rfl | ⟨hx', hxb', l2⟩
    · rfl
    · rw [Sg.add_at] at e3; obtain rfl := Option.some.inj e3
      rw [Sg.add_ne _ _ _ hx'] at e4
      exact absurd (h.inj x' b m3 m l2 hl e4 hb (by rw [← e5, hc])) hxb'
    · rw [Sg.add_at] at e4; obtain rfl := Option.some.inj e4
      rw [Sg.add_ne _ _ _ hx] at e3
      exact absurd (h.inj x b m2 m l1 hl e3 hb (by rw [e5, hc])) hxb
    · rw [Sg.add_ne _ _ _ hx] at e3; rw [Sg.add_ne _ _ _ hx'] at e4
      exact h.inj _ _ _ _ l1 l2 e3 e4 e5
  · intro x hx
    have hx' : A.nx + 1 ≤ x := hx
    rw [Sg.add_ne _ _ _ (by omega)]; exact h.fresh x (by omega)
  · intro g hg
    obtain ⟨m', e1, e2, e3⟩ := h.glob g hg
    exact ⟨m', hle _ _ e1, e2, e3⟩
  · intro x m' e hl'
    by_cases hx : x = A.nx
    · rw [hx, Sg.add_at] at e; obtain rfl := Option.some.inj e; rw [hc]; exact h.high b m hb hlo
    · rw [Sg.add_ne _ _ _ hx] at e; exact h.high x m' e hl'
  · rcases hold' x hx with rfl | ⟨_, _, q⟩
    · exact Nat.lt_succ_self _
    · exact Nat.lt_succ_of_lt (h.dom x q)
  · intro x hx; exact Sg.add_ne _ _ _ (by omega)
  · rintro c hcc ⟨x, m', e1, e2, e3, e4⟩
    rcases hold' x e1 with rfl | ⟨hx, hxb, l1⟩
    · rw [Sg.add_at] at e2; obtain rfl := Option.some.inj e2
      exact ⟨b, m, hl, hb, by rw [← hc]; exact e3, hlo⟩
    · rw [Sg.add_ne _ _ _ hx] at e2; exact ⟨x, m', l1, e2, e3, e4⟩
  · intro c _ hn
    exact hne c (fun e => hn ⟨b, m, hl, hb, e.symm, hlo⟩)

/-- A cell of a block that lives. -/
theorem R.cell {b i : Nat} {m : Im} {t : T Value} {size : Nat} {z : List Value} {u : Nat} {e : TypeId} {fz : Nat × Nat} {v : Value} (h : R P base σ A W)
    (hg : A.h.get b = some (.cells t size z u e fz)) (hb : σ b = some m) (hi : i < size) (hv : cellF t z i = some v) :
    ∃ v', W.cell? ⟨m.c, i + m.δ, none⟩ = some v' ∧ VR σ v v' := by
  obtain ⟨o', e1, c, fz', rfl, _, _, _, _, h6, _⟩ := h.live b _ m hg hb
  obtain ⟨v', e2, e3⟩ := h6 i v hi hv
  exact ⟨v', by simp [World.cell?, e1, e2], e3⟩

theorem cellF_lt {t : T Value} {z : List Value} {i : Nat} {v : Value} (h : cellF t z i = some v) : t.get i = some v ∨ (t.get i = none ∧ nth z (i % z.length) = some v) := by
  unfold cellF at h
  cases ht : t.get i with
  | some x => rw [ht] at h; exact .inl h
  | none => rw [ht] at h; exact .inr ⟨rfl, h⟩
theorem nth_eq : ∀ (l : List Value) (i : Nat), nth l i = l[i]?
  | [], i => by simp [nth]
  | v :: l, 0 => by simp [nth]
  | v :: l, i + 1 => by simp [nth, nth_eq l i]

/-- Cells one behind the other. -/
theorem R.cells {b off n : Nat} {m : Im} {t : T Value} {size : Nat} {z : List Value} {u : Nat} {e : TypeId} {fz : Nat × Nat} {l : List Value} (h : R P base σ A W)
    (hg : A.h.get b = some (.cells t size z u e fz)) (hb : σ b = some m) (hn : off + n ≤ size) (hl : T.take (cellF t z) n off = some l) :
    ∃ l', VRs σ l l' ∧ l'.length = n ∧ ∀ j v', l'[j]? = some v' → W.cell? ⟨m.c, off + m.δ + j, none⟩ = some v' := by
  obtain ⟨h1, h2⟩ := T.take_spec _ _ _ _ hl
  have key : ∀ k, k ≤ n → ∃ l', VRs σ (l.take k) l' ∧ l'.length = k ∧ ∀ j v', l'[j]? = some v' → W.cell? ⟨m.c, off + m.δ + j, none⟩ = some v' := by
    intro k
    induction k with
    | zero => intro _; exact ⟨[], by simpa using VRs.nil, rfl, by simp⟩
    | succ k ih =>
      intro hk
      obtain ⟨l', e1, e2, e3⟩ := ih (by omega)
      have hk' : k < l.length := by omega
      have hv : cellF t z (off + k) = some l[k] := by rw [h2 k (by omega)]; simp [hk']
      obtain ⟨v', e4, e5⟩ := h.cell hg hb (i := off + k) (by omega) hv
      refine ⟨l' ++ [v'], ?_, by simp [e2], ?_⟩
      · rw [List.take_add_one, List.getElem?_eq_getElem hk']
        exact e1.append (.cons e5 .nil)
      · intro j x hx
        rcases Nat.lt_or_ge j k with hj | hj
        · rw [List.getElem?_append_left (by omega)] at hx; exact e3 j x hx
        · rw [List.getElem?_append_right (by omega), e2] at hx
          have : j = k := by
            rcases Nat.lt_or_ge (j - k) 1 with q | q
            · omega
            · rw [List.getElem?_eq_none (by simp; omega)] at hx; simp at hx
          subst this
          simp at hx; subst hx
          rw [show off + m.δ + j = off + j + m.δ from by omega]; exact e4
  obtain ⟨l', e1, e2, e3⟩ := key n (Nat.le_refl _)
  exact ⟨l', by rwa [List.take_of_length_le (by omega)] at e1, e2, e3⟩

end Go.Eng
