/- Part of an abstract machine that runs the program's code in Lean's kernel, and of the proof that what it answers every run of the model answers (Go.Eng; program-independent). No condition. -/
import Derived.Test.YtdafgjfijdijlaaGreatDoorE4
namespace Go.Eng
open Go

/-! What the abstract machine's values and blocks stand for. -/
/-- Where a block lies: the model's block, the shift, how many cells it has there, how many cells an element takes. -/
structure Im where
  c : Nat
  δ : Nat
  N : Nat
  u : Nat
abbrev Sg := Nat → Option Im

def atomV : Value → Bool
  | .bool _ | .int _ _ | .float _ _ | .complex _ _ _ | .string _ | .nilFunc | .nilIface => true
  | .pointer a => a.isNone
  | .slice a _ _ => a.isNone
  | .map r => r.isNone
  | .chan r => r.isNone
  | _ => false

mutual
inductive VR (σ : Sg) : Value → Value → Prop
  | atom {v : Value} : atomV v = true → VR σ v v
  | ptr {b o : Nat} {m : Im} : σ b = some m → VR σ (.pointer (some ⟨b, o, none⟩)) (.pointer (some ⟨m.c, o + m.δ, none⟩))
  | slice {b o o' len cap cap' : Nat} {m : Im} : σ b = some m → len ≤ cap → cap ≤ cap' → (cap' = cap ∨ o' + cap' * m.u ≤ m.N) → (o' = o + m.δ ∨ (cap = 0 ∧ o + m.δ ≤ o')) →
      VR σ (.slice (some ⟨b, o, none⟩) len cap) (.slice (some ⟨m.c, o', none⟩) len cap')
  | map {r : Nat} {m : Im} : σ r = some m → VR σ (.map (some r)) (.map (some m.c))
  | func {fn : Fn} {a b a' b' : List Value} : (∀ l, fn ≠ .yield l) → VRs σ a a' → VRs σ b b' → VR σ (.func fn ⟨a⟩ ⟨b⟩) (.func fn ⟨a'⟩ ⟨b'⟩)
  | yield {l : Nat} {m : Im} : σ l = some m → VR σ (.func (.yield l) #[] #[]) (.func (.yield m.c) #[] #[])
  | iface {t : TypeId} {v v' : Value} : VR σ v v' → VR σ (.iface t v) (.iface t v')
  | agg {l l' : List Value} : VRs σ l l' → VR σ (.agg ⟨l⟩) (.agg ⟨l'⟩)
  | tuple {l l' : List Value} : VRs σ l l' → VR σ (.tuple ⟨l⟩) (.tuple ⟨l'⟩)
inductive VRs (σ : Sg) : List Value → List Value → Prop
  | nil : VRs σ [] []
  | cons {v v' : Value} {l l' : List Value} : VR σ v v' → VRs σ l l' → VRs σ (v :: l) (v' :: l')
end

def Sg.le (σ τ : Sg) : Prop := ∀ b m, σ b = some m → τ b = some m

mutual
theorem VR.mono {σ τ : Sg} (h : σ.le τ) : ∀ {v v' : Value}, VR σ v v' → VR τ v v'
  | _, _, .atom e => .atom e
  | _, _, .ptr e => .ptr (h _ _ e)
  | _, _, .slice e a b c d => .slice (h _ _ e) a b c d
  | _, _, .map e => .map (h _ _ e)
  | _, _, .func n a b => .func n (VRs.mono h a) (VRs.mono h b)
  | _, _, .yield e => .yield (h _ _ e)
  | _, _, .iface e => .iface (VR.mono h e)
  | _, _, .agg e => .agg (VRs.mono h e)
  | _, _, .tuple e => .tuple (VRs.mono h e)
theorem VRs.mono {σ τ : Sg} (h : σ.le τ) : ∀ {l l' : List Value}, VRs σ l l' → VRs τ l l'
  | _, _, .nil => .nil
  | _, _, .cons a b => .cons (VR.mono h a) (VRs.mono h b)
end

mutual
theorem closed_VR (σ : Sg) : ∀ v : Value, closedV v = true → VR σ v v
  | .bool _, _ | .int _ _, _ | .float _ _, _ | .complex _ _ _, _ | .string _, _ | .nilFunc, _ | .nilIface, _ => .atom rfl
  | .pointer a, h => .atom (by simpa [closedV, atomV] using h)
  | .slice a _ _, h => .atom (by simpa [closedV, atomV] using h)
  | .map a, h => .atom (by simpa [closedV, atomV] using h)
  | .chan a, h => .atom (by simpa [closedV, atomV] using h)
  | .func fn ⟨a⟩ ⟨b⟩, h => by
    simp only [closedV, Bool.and_eq_true] at h
    exact .func (by rintro l rfl; simp at h) (closed_VRs σ a h.1.2) (closed_VRs σ b h.2)
  | .iface _ v, h => .iface (closed_VR σ v (by simpa [closedV] using h))
  | .agg ⟨l⟩, h => .agg (closed_VRs σ l (by simpa [closedV] using h))
  | .tuple ⟨l⟩, h => .tuple (closed_VRs σ l (by simpa [closedV] using h))
theorem closed_VRs (σ : Sg) : ∀ l : List Value, closedVs l = true → VRs σ l l
  | [], _ => .nil
  | v :: l, h => by
    simp only [closedVs, Bool.and_eq_true] at h
    exact .cons (closed_VR σ v h.1) (closed_VRs σ l h.2)
end

mutual
theorem VR.eq_of_closed {σ : Sg} : ∀ {v v' : Value}, VR σ v v' → closedV v = true → v' = v
  | _, _, .atom _, _ => rfl
  | _, _, .ptr _, h => by simp [closedV] at h
  | _, _, .slice _ _ _ _ _, h => by simp [closedV] at h
  | _, _, .map _, h => by simp [closedV] at h
  | _, _, .func _ a b, h => by
    simp only [closedV, Bool.and_eq_true] at h
    rw [VRs.eq_of_closed a h.1.2, VRs.eq_of_closed b h.2]
  | _, _, .yield _, h => by simp [closedV] at h
  | _, _, .iface e, h => by rw [VR.eq_of_closed e (by simpa [closedV] using h)]
  | _, _, .agg e, h => by rw [VRs.eq_of_closed e (by simpa [closedV] using h)]
  | _, _, .tuple e, h => by rw [VRs.eq_of_closed e (by simpa [closedV] using h)]
theorem VRs.eq_of_closed {σ : Sg} : ∀ {l l' : List Value}, VRs σ l l' → closedVs l = true → l' = l
  | _, _, .nil, _ => rfl
  | _, _, .cons a b, h => by
    simp only [closedVs, Bool.and_eq_true] at h
    rw [VR.eq_of_closed a h.1, VRs.eq_of_closed b h.2]
end

theorem VRs.length {σ : Sg} : ∀ {l l' : List Value}, VRs σ l l' → l'.length = l.length
  | _, _, .nil => rfl
  | _, _, .cons _ b => by simp [VRs.length b]
theorem VRs.get {σ : Sg} : ∀ {l l' : List Value}, VRs σ l l' → ∀ (i : Nat) (v : Value), l[i]? = some v → ∃ v', l'[i]? = some v' ∧ VR σ v v'
  | _, _, .nil, i, v, h => by simp at h
  | _, _, .cons a b, i, v, h => by
    cases i with
    | zero => simp at h; subst h; exact ⟨_, by simp, a⟩
    | succ i => simpa using VRs.get b i v (by simpa using h)
theorem VRs.append {σ : Sg} : ∀ {l l' m m' : List Value}, VRs σ l l' → VRs σ m m' → VRs σ (l ++ m) (l' ++ m')
  | _, _, _, _, .nil, h => h
  | _, _, _, _, .cons a b, h => .cons a (VRs.append b h)
theorem VRs.of_get {σ : Sg} : ∀ {l l' : List Value}, l'.length = l.length → (∀ (i : Nat) (v v' : Value), l[i]? = some v → l'[i]? = some v' → VR σ v v') → VRs σ l l'
  | [], [], _, _ => .nil
  | [], _ :: _, h, _ => by simp at h
  | _ :: _, [], h, _ => by simp at h
  | v :: l, v' :: l', h, hv => .cons (hv 0 v v' rfl rfl) (VRs.of_get (by simpa using h) fun i a b ha hb => hv (i + 1) a b (by simpa using ha) (by simpa using hb))
theorem VR.cells {σ : Sg} {v v' : Value} (h : VR σ v v') : VRs σ v.cells.toList v'.cells.toList := by
  cases h with
  | agg h => exact h
  | atom h => cases v <;> first | (simp [atomV] at h; done) | exact .cons (.atom h) .nil
  | ptr h => exact .cons (.ptr h) .nil
  | slice h a b c d => exact .cons (.slice h a b c d) .nil
  | map h => exact .cons (.map h) .nil
  | func a b c => exact .cons (.func a b c) .nil
  | yield h => exact .cons (.yield h) .nil
  | iface h => exact .cons (.iface h) .nil
  | tuple h => exact .cons (.tuple h) .nil
theorem VR.oneCell {σ : Sg} {v v' : Value} (h : VR σ v v') : oneCell v' = oneCell v := by cases h <;> rfl
theorem VRs.all_oneCell {σ : Sg} : ∀ {l l' : List Value}, VRs σ l l' → l'.all Eng.oneCell = l.all Eng.oneCell
  | _, _, .nil => rfl
  | _, _, .cons a b => by simp [VR.oneCell a, VRs.all_oneCell b]
theorem VRs.snoc_inv {σ : Sg} {v : Value} {l l' : List Value} (h : VRs σ (v :: l) l') : ∃ v' m, l' = v' :: m ∧ VR σ v v' ∧ VRs σ l m := by
  cases h with
  | cons a b => exact ⟨_, _, rfl, a, b⟩

/-- The slots of a frame. -/
def TR (σ : Sg) (t : T Value) (n : Nat) (tm : Array Value) : Prop := tm.size = n ∧ ∀ i v, t.get i = some v → ∃ v', tm[i]? = some v' ∧ VR σ v v'
theorem TR.mono {σ τ : Sg} (h : σ.le τ) {t : T Value} {n : Nat} {tm : Array Value} (ht : TR σ t n tm) : TR τ t n tm :=
  ⟨ht.1, fun i v hv => let ⟨v', a, b⟩ := ht.2 i v hv; ⟨v', a, b.mono h⟩⟩
theorem TR.set {σ : Sg} {t : T Value} {n : Nat} {tm : Array Value} (ht : TR σ t n tm) (d : Nat) (hd : d < n) {v v' : Value} (hv : VR σ v v') : TR σ (t.set d v) n (tm.setIfInBounds d v') := by
  refine ⟨by simp [ht.1], fun i u hu => ?_⟩
  rcases T.set_get t d v i u hu with ⟨rfl, rfl⟩ | ⟨hne, h⟩
  · exact ⟨v', by rw [Array.getElem?_setIfInBounds]; simp [ht.1, hd], hv⟩
  · obtain ⟨u', h1, h2⟩ := ht.2 i u h
    exact ⟨u', by rw [Array.getElem?_setIfInBounds_ne (Ne.symm hne)]; exact h1, h2⟩

def mayFz (fz : Nat × Nat) (i : Nat) : Prop := fz.1 ≤ i ∧ (i < fz.2 ∨ 2 ^ 64 ≤ fz.2)

/-- An entry of a map. -/
def ER (σ : Sg) (e e' : MapEntry) : Prop := closedV e.key = true ∧ e'.key = e.key ∧ e'.born = e.born ∧ VR σ e.val e'.val
inductive ERs (σ : Sg) : List MapEntry → List MapEntry → Prop
  | nil : ERs σ [] []
  | cons {e e' : MapEntry} {l l' : List MapEntry} : ER σ e e' → ERs σ l l' → ERs σ (e :: l) (e' :: l')
theorem ER.mono {σ τ : Sg} (h : σ.le τ) {e e' : MapEntry} (hh : ER σ e e') : ER τ e e' := ⟨hh.1, hh.2.1, hh.2.2.1, hh.2.2.2.mono h⟩
theorem ERs.mono {σ τ : Sg} (h : σ.le τ) : ∀ {l l' : List MapEntry}, ERs σ l l' → ERs τ l l'
  | _, _, .nil => .nil
  | _, _, .cons a b => .cons (a.mono h) (ERs.mono h b)

/-- What lies in a block. -/
def OR (σ : Sg) (m : Im) : AObj → Obj → Prop
  | .cells t size z u e fz, o => ∃ c fz', o = .cells c e fz' ∧ c.size = m.N ∧ m.u = u ∧ size + m.δ ≤ m.N ∧ size ≤ 2 ^ 60 ∧
      (∀ i v, i < size → cellF t z i = some v → ∃ v', c[i + m.δ]? = some v' ∧ VR σ v v') ∧
      (fz.2 = 0 → fz' = (0, 0)) ∧ (∀ i, fz'.1 ≤ i + m.δ → i + m.δ < fz'.2 → mayFz fz i) ∧ (z ≠ [] → m.δ = 0) ∧ (2 ^ 64 ≤ fz.2 ∨ fz'.1 ≤ fz'.2)
  | .map es clock, o => ∃ es', o = .map es' clock ∧ ERs σ es es'.toList
  | .loop st pe tm n ps as_ bo _, o => ∃ l : Loop, o = .loop l ∧ l.state = st ∧ l.pending = pe ∧ TR σ tm n l.tmps ∧ l.params = ⟨ps⟩ ∧ l.assign = as_ ∧ l.body = bo
  | .deferred op, o => ∃ ds, o = .deferred ds ∧ (op = true → ds = some [])
theorem OR.mono {σ τ : Sg} (h : σ.le τ) {m : Im} {o : AObj} {o' : Obj} (hh : OR σ m o o') : OR τ m o o' := by
  cases o with
  | cells t size z u e fz =>
    obtain ⟨c, fz', a1, a2, a3, a4, a5, a6, a7, a8⟩ := hh
    exact ⟨c, fz', a1, a2, a3, a4, a5, fun i v hi hv => let ⟨v', x, y⟩ := a6 i v hi hv; ⟨v', x, y.mono h⟩, a7, a8⟩
  | map es cl => obtain ⟨es', a, b⟩ := hh; exact ⟨es', a, b.mono h⟩
  | loop st pe tm n ps as_ bo d => obtain ⟨l, a1, a2, a3, a4, a5⟩ := hh; exact ⟨l, a1, a2, a3, a4.mono h, a5⟩
  | deferred op => exact hh

/-- What the whole memory stands for; 'base': the model's blocks below it are none of the run's own. -/
structure R (P : Program) (base : Nat) (σ : Sg) (A : AS) (W : World) : Prop where
  live : ∀ b o m, A.h.get b = some o → σ b = some m → ∃ o', W.heap[m.c]? = some o' ∧ OR σ m o o'
  inj : ∀ b b' m m', (A.h.get b).isSome → (A.h.get b').isSome → σ b = some m → σ b' = some m' → m.c = m'.c → b = b'
  fresh : ∀ b, A.nx ≤ b → σ b = none
  glob : ∀ g, g < P.globals.size → ∃ m, σ g = some m ∧ m.c = g ∧ m.δ = 0
  high : ∀ b m, σ b = some m → A.lo ≤ b → base ≤ m.c
  low : ∀ b m, σ b = some m → b < A.lo → m.c < base
  base_le : base ≤ W.heap.size
  lonx : A.lo ≤ A.nx
  dom : ∀ b, (A.h.get b).isSome → b < A.nx

def Img (A : AS) (σ : Sg) (c : Nat) : Prop := ∃ b m, (A.h.get b).isSome ∧ σ b = some m ∧ m.c = c ∧ A.lo ≤ b

/-- What lies beside the memory stays. -/
def Rest (W W1 : World) : Prop := W1.os = W.os ∧ W1.output = W.output

/-- From one memory to a later one. -/
structure Ext (A : AS) (σ : Sg) (W : World) (A1 : AS) (σ1 : Sg) (W1 : World) : Prop where
  le : σ.le σ1
  same : ∀ b, b < A.nx → σ1 b = σ b
  nx : A.nx ≤ A1.nx
  lo : A1.lo = A.lo
  size : W.heap.size ≤ W1.heap.size
  img : ∀ c, c < W.heap.size → Img A1 σ1 c → Img A σ c
  frame : ∀ c, c < W.heap.size → ¬ Img A σ c → W1.heap[c]? = W.heap[c]?
  rest : Rest W W1

theorem Ext.refl (A : AS) (σ : Sg) (W : World) : Ext A σ W A σ W :=
  ⟨fun _ _ h => h, fun _ _ => rfl, Nat.le_refl _, rfl, Nat.le_refl _, fun _ _ h => h, fun _ _ _ => rfl, rfl, rfl⟩
theorem Ext.trans {A A1 A2 : AS} {σ σ1 σ2 : Sg} {W W1 W2 : World} (h : Ext A σ W A1 σ1 W1) (k : Ext A1 σ1 W1 A2 σ2 W2) : Ext A σ W A2 σ2 W2 where
  le := fun b m e => k.le b m (h.le b m e)
  same := fun b hb => by rw [k.same b (Nat.lt_of_lt_of_le hb h.nx), h.same b hb]
  nx := Nat.le_trans h.nx k.nx
  lo := by rw [k.lo, h.lo]
  size := Nat.le_trans h.size k.size
  img := fun c hc hi => h.img c hc (k.img c (Nat.lt_of_lt_of_le hc h.size) hi)
  frame := fun c hc hn => by rw [k.frame c (Nat.lt_of_lt_of_le hc h.size) (fun hi => hn (h.img c hc hi)), h.frame c hc hn]
  rest := ⟨k.rest.1.trans h.rest.1, k.rest.2.trans h.rest.2⟩

end Go.Eng
