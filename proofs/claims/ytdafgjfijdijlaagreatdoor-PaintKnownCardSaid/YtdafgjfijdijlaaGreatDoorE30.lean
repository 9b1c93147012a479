/- Part of an abstract machine that runs the program's code in Lean's kernel, and of the proof that what it answers every run of the model answers (Go.Eng; program-independent). No condition. -/
import Derived.Test.YtdafgjfijdijlaaGreatDoorE29
namespace Go.Eng
open Go

/-! Calls whose answer is known, memory and all: a table of states. -/
variable {P : Program} {base : Nat} {σ σ1 : Sg} {A : AS} {W W1 : World}

/-- A block, written out. -/
inductive Blk where
  | cells (l : List Value) (size u : Nat) (e : TypeId) (lo hi : Nat)
  | map (es : List (Value × Value × Nat)) (clock : Nat)
def entO (x : Value × Value × Nat) : MapEntry := ⟨x.1, x.2.1, x.2.2⟩
noncomputable def Blk.obj : Blk → AObj
  | .cells l size u e lo hi => .cells (T.setAll .leaf 0 l) size [] u e (lo, hi)
  | .map es c => .map (es.map entO) c

def beqEs : List MapEntry → List (Value × Value × Nat) → Bool
  | [], [] => true
  | e :: l, x :: m => beqV e.key x.1 && beqV e.val x.2.1 && Nat.beq e.born x.2.2 && beqEs l m
  | _, _ => false
/-- Says the block all that is written? -/
noncomputable def okBlk (o : AObj) (L : Blk) : Bool := match o, L with
  | .cells t size z u e fz, .cells l size' u' e' lo hi => Nat.beq size size' && Nat.beq u u' && Nat.beq e e' && Nat.beq fz.1 lo && Nat.beq fz.2 hi && Nat.ble l.length (2 ^ 60) &&
      (match T.take (cellF t z) l.length 0 with | some m => beqVs m l | none => false)
  | .map es c, .map es' c' => Nat.beq c c' && beqEs es es'
  | _, _ => false

theorem beqEs_eq : ∀ {l : List MapEntry} {m : List (Value × Value × Nat)}, beqEs l m = true → l = m.map entO
  | [], [], _ => rfl
  | e :: l, x :: m, h => by
    simp only [beqEs, Bool.and_eq_true] at h
    obtain ⟨⟨⟨h1, h2⟩, h3⟩, h4⟩ := h
    have h1 := beqV_eq _ _ h1
    have h2 := beqV_eq _ _ h2
    have h3 := Nat.eq_of_beq_eq_true h3
    have h4 := beqEs_eq h4
    obtain ⟨k, v, b⟩ := e
    obtain ⟨x1, x2, x3⟩ := x
    simp only at h1 h2 h3
    rw [h4]
    simp [entO, h1, h2, h3]
  | [], _ :: _, h => by simp [beqEs] at h
  | _ :: _, [], h => by simp [beqEs] at h

theorem setAll_leaf {l : List Value} {i : Nat} {v : Value} (hl : l.length ≤ 2 ^ 60) (h : (T.setAll (.leaf : T Value) 0 l).get i = some v) : l[i]? = some v := by
  rw [T.setAll_at _ _ _ _ (by omega)] at h
  split at h
  · simpa using h
  · simp [T.get_leaf] at h

theorem okBlk_OR {o : AObj} {L : Blk} {m : Im} {x : Obj} (h : okBlk o L = true) (ho : OR σ m o x) : OR σ m L.obj x := by
  cases o with
  | cells t size z u e fz =>
    cases L with
    | map es c => simp [okBlk] at h
    | cells l size' u' e' lo hi =>
      simp only [okBlk, Bool.and_eq_true] at h
      obtain ⟨⟨⟨⟨⟨⟨h1, h2⟩, h3⟩, h4⟩, h5⟩, h6⟩, h7⟩ := h
      obtain rfl := Nat.eq_of_beq_eq_true h1
      obtain rfl := Nat.eq_of_beq_eq_true h2
      obtain rfl : e = e' := Nat.eq_of_beq_eq_true h3
      obtain rfl := Nat.eq_of_beq_eq_true h4
      obtain rfl := Nat.eq_of_beq_eq_true h5
      have h6 := Nat.le_of_ble_eq_true h6
      split at h7 <;> try (simp at h7; done)
      rename_i w hw
      obtain rfl := beqVs_eq _ _ h7
      obtain ⟨_, hw2⟩ := T.take_spec _ _ _ _ hw
      obtain ⟨c, fz', a1, a2, a3, a4, a5, a6, a7, a8, a9, a10⟩ := ho
      refine ⟨c, fz', a1, a2, a3, a4, a5, fun i v hi hv => ?_, a7, a8, fun q => absurd rfl q, a10⟩
      rcases cellF_lt hv with hq | ⟨_, hq⟩
      · have hli := setAll_leaf h6 hq
        refine a6 i v hi ?_
        have := hw2 i (List.getElem?_eq_some_iff.1 hli).1
        rw [Nat.zero_add] at this
        rw [this]; exact hli
      · rw [nth_eq] at hq; simp at hq
  | map es c =>
    cases L with
    | cells l size' u' e' lo hi => simp [okBlk] at h
    | map es' c' =>
      simp only [okBlk, Bool.and_eq_true] at h
      obtain rfl := Nat.eq_of_beq_eq_true h.1
      obtain rfl := beqEs_eq h.2
      exact ho
  | loop => simp [okBlk] at h
  | deferred => simp [okBlk] at h

/-- What a call gives, where only a part of the memory was looked at: the rest is put back. -/
theorem R.keep {A' A2 A1 : AS} (h : R P base σ A W) (hn : A'.nx = A.nx) (hl : A'.lo = A.lo) (hsub : ∀ b, (A'.h.get b).isSome → (A.h.get b).isSome) (h1 : R P base σ1 A2 W1) (he : Ext A' σ W A2 σ1 W1)
    (n1 : A1.nx = A2.nx) (l1 : A1.lo = A2.lo)
    (hget : ∀ b o, A1.h.get b = some o → (∃ o0, A2.h.get b = some o0 ∧ (∀ m x, OR σ1 m o0 x → OR σ1 m o x) ∧ (A.lo ≤ b ∨ (A'.h.get b).isSome)) ∨ (A.h.get b = some o ∧ A'.h.get b = none)) :
    R P base σ1 A1 W1 ∧ Ext A σ W A1 σ1 W1 := by
  have hsame : ∀ b, b < A.nx → σ1 b = σ b := fun b hb => he.same b (by rw [hn]; exact hb)
  have hlo2 : A2.lo = A.lo := by rw [he.lo, hl]
  have hkeep : ∀ b o m, A.h.get b = some o → A'.h.get b = none → σ1 b = some m → σ b = some m ∧ m.c < W.heap.size ∧ ¬ Img A' σ m.c ∧ ∃ o', W.heap[m.c]? = some o' ∧ OR σ m o o' := by
    intro b o m ho hno hm
    rw [hsame b (h.dom b (by rw [ho]; rfl))] at hm
    obtain ⟨o', w1, w2⟩ := h.live b o m ho hm
    refine ⟨hm, (Array.getElem?_eq_some_iff.1 w1).1, ?_, o', w1, w2⟩
    rintro ⟨x, mx, e1, e2, e3, e4⟩
    have hxb := h.inj x b mx m (hsub x e1) (by rw [ho]; rfl) e2 hm e3
    subst hxb
    rw [hno] at e1; simp at e1
  have hpk : ∀ b m, (A2.h.get b).isSome → (A.lo ≤ b ∨ (A'.h.get b).isSome) → σ1 b = some m → ∀ b' o' m', A.h.get b' = some o' → A'.h.get b' = none → σ1 b' = some m' → m.c ≠ m'.c := by
    intro b m l hb e b' o' m' ho' hno' e' hc
    obtain ⟨k1, k2, k3, _⟩ := hkeep b' o' m' ho' hno' e'
    by_cases hbl : A.lo ≤ b
    · exact k3 (he.img m'.c k2 ⟨b, m, l, e, hc, by rw [hlo2]; exact hbl⟩)
    · have hb := hb.resolve_left hbl
      have hs := hsub b hb
      rw [hsame b (h.dom b hs)] at e
      have := h.inj b b' m m' hs (by rw [ho']; rfl) e k1 hc
      subst this
      rw [hno'] at hb; simp at hb
  refine ⟨⟨fun b o m e em => ?_, fun b b' m m' l l' e e' hc => ?_, by rw [n1]; exact h1.fresh, h1.glob, by rw [l1]; exact h1.high, by rw [l1]; exact h1.low, h1.base_le, by rw [n1, l1]; exact h1.lonx, fun b l => ?_⟩,
    ⟨he.le, hsame, by rw [n1, ← hn]; exact he.nx, by rw [l1, hlo2], he.size, ?_, ?_, he.rest⟩⟩
  · rcases hget b o e with ⟨o0, q1, q2, _⟩ | ⟨q1, q2⟩
    · obtain ⟨o', w1, w2⟩ := h1.live b o0 m q1 em
      exact ⟨o', w1, q2 m o' w2⟩
    · obtain ⟨k1, k2, k3, o', k4, k5⟩ := hkeep b o m q1 q2 em
      exact ⟨o', by rw [he.frame _ k2 k3]; exact k4, k5.mono he.le⟩
  · obtain ⟨o, q⟩ := Option.isSome_iff_exists.1 l
    obtain ⟨o', q'⟩ := Option.isSome_iff_exists.1 l'
    rcases hget b o q with ⟨o0, q1, _, q3⟩ | ⟨q1, q2⟩ <;> rcases hget b' o' q' with ⟨o0', q1', _, q3'⟩ | ⟨q1', q2'⟩
    · exact h1.inj b b' m m' (by rw [q1]; rfl) (by rw [q1']; rfl) e e' hc
    · exact absurd hc (hpk b m (by rw [q1]; rfl) q3 e b' o' m' q1' q2' e')
    · exact absurd hc.symm (hpk b' m' (by rw [q1']; rfl) q3' e' b o m q1 q2 e)
    · rw [hsame b (h.dom b (by rw [q1]; rfl))] at e
      rw [hsame b' (h.dom b' (by rw [q1']; rfl))] at e'
      exact h.inj b b' m m' (by rw [q1]; rfl) (by rw [q1']; rfl) e e' hc
  · rw [n1]
    obtain ⟨o, q⟩ := Option.isSome_iff_exists.1 l
    rcases hget b o q with ⟨o0, q1, _⟩ | ⟨q1, _⟩
    · exact h1.dom b (by rw [q1]; rfl)
    · exact Nat.lt_of_lt_of_le (h.dom b (by rw [q1]; rfl)) (by rw [← hn]; exact he.nx)
  · have hII : ∀ c, Img A' σ c → Img A σ c := fun c ⟨x, mx, e1, e2, e3, e4⟩ => ⟨x, mx, hsub x e1, e2, e3, by rw [← hl]; exact e4⟩
    rintro c hc ⟨b, m, e1, e2, e3, e4⟩
    rw [l1, hlo2] at e4
    obtain ⟨o, q⟩ := Option.isSome_iff_exists.1 e1
    rcases hget b o q with ⟨o0, q1, _⟩ | ⟨q1, q2⟩
    · exact hII c (he.img c hc ⟨b, m, by rw [q1]; rfl, e2, e3, by rw [hlo2]; exact e4⟩)
    · obtain ⟨k1, _⟩ := hkeep b o m q1 q2 e2
      exact ⟨b, m, by rw [q1]; rfl, k1, e3, e4⟩
  · intro c hc hni
    exact he.frame c hc fun ⟨x, mx, e1, e2, e3, e4⟩ => hni ⟨x, mx, hsub x e1, e2, e3, by rw [← hl]; exact e4⟩

/-- A call with the part of the memory that it looks at, and what comes of it. -/
structure Ent where
  args : List Value
  nx : Nat
  need : List (Nat × Blk)
  v : Value
  nx1 : Nat
  post : List (Nat × Blk)

noncomputable def blkT : List (Nat × Blk) → T AObj → T AObj
  | [], t => t
  | x :: l, t => blkT l (t.set x.1 x.2.obj)
noncomputable def delT : List (Nat × Blk) → T AObj → T AObj
  | [], t => t
  | x :: l, t => delT l (t.del x.1)
noncomputable def okAll (h : T AObj) : List (Nat × Blk) → Bool
  | [] => true
  | x :: l => (match h.get x.1 with | some o => okBlk o x.2 | none => false) && okAll h l
def hasB (b : Nat) : List (Nat × Blk) → Bool
  | [] => false
  | x :: l => Nat.beq x.1 b || hasB b l
def loAll (lo : Nat) (need : List (Nat × Blk)) : List (Nat × Blk) → Bool
  | [] => true
  | x :: l => (Nat.ble lo x.1 || hasB x.1 need) && loAll lo need l

theorem blkT_get : ∀ {l : List (Nat × Blk)} {t : T AObj} {b : Nat} {o : AObj}, (blkT l t).get b = some o → (∃ L, (b, L) ∈ l ∧ o = L.obj) ∨ t.get b = some o
  | [], _, _, _, h => .inr h
  | x :: l, t, b, o, h => by
    rcases blkT_get (l := l) h with ⟨L, q1, q2⟩ | q
    · exact .inl ⟨L, List.mem_cons_of_mem _ q1, q2⟩
    · rcases T.set_get _ _ _ _ _ q with ⟨rfl, rfl⟩ | ⟨_, q⟩
      · exact .inl ⟨x.2, by simp, rfl⟩
      · exact .inr q
theorem delT_get : ∀ {l : List (Nat × Blk)} {t : T AObj} {b : Nat} {o : AObj}, (delT l t).get b = some o → t.get b = some o ∧ ∀ L, (b, L) ∉ l
  | [], _, _, _, h => ⟨h, fun _ q => by simp at q⟩
  | x :: l, t, b, o, h => by
    obtain ⟨q1, q2⟩ := delT_get (l := l) h
    obtain ⟨q3, q4⟩ := T.del_get _ _ _ _ q1
    refine ⟨q4, fun L q => ?_⟩
    rcases List.mem_cons.1 q with rfl | q
    · exact q3 rfl
    · exact q2 L q
theorem okAll_mem {h : T AObj} : ∀ {l : List (Nat × Blk)}, okAll h l = true → ∀ b L, (b, L) ∈ l → ∃ o, h.get b = some o ∧ okBlk o L = true
  | [], _, _, _, q => by simp at q
  | x :: l, e, b, L, q => by
    simp only [okAll, Bool.and_eq_true] at e
    rcases List.mem_cons.1 q with rfl | q
    · have e1 := e.1
      split at e1 <;> try (simp at e1; done)
      rename_i o ho
      exact ⟨o, ho, e1⟩
    · exact okAll_mem e.2 b L q
theorem hasB_mem {b : Nat} : ∀ {l : List (Nat × Blk)}, hasB b l = true → ∃ L, (b, L) ∈ l
  | [], h => by simp [hasB] at h
  | x :: l, h => by
    simp only [hasB, Bool.or_eq_true] at h
    rcases h with h | h
    · obtain rfl := Nat.eq_of_beq_eq_true h
      exact ⟨x.2, by simp⟩
    · obtain ⟨L, q⟩ := hasB_mem h
      exact ⟨L, List.mem_cons_of_mem _ q⟩
theorem loAll_mem {lo : Nat} {need : List (Nat × Blk)} : ∀ {l : List (Nat × Blk)}, loAll lo need l = true → ∀ b L, (b, L) ∈ l → lo ≤ b ∨ ∃ M, (b, M) ∈ need
  | [], _, _, _, q => by simp at q
  | x :: l, e, b, L, q => by
    simp only [loAll, Bool.and_eq_true, Bool.or_eq_true] at e
    rcases List.mem_cons.1 q with rfl | q
    · rcases e.1 with e1 | e1
      · exact .inl (Nat.le_of_ble_eq_true e1)
      · exact .inr (hasB_mem e1)
    · exact loAll_mem e.2 b L q
theorem blkT_some : ∀ {l : List (Nat × Blk)} {t : T AObj} {b : Nat}, (∀ y ∈ l, y.1 + 2 ≤ 2 ^ 64) → (∃ L, (b, L) ∈ l) ∨ (t.get b).isSome → ((blkT l t).get b).isSome
  | [], _, _, _, h => by simpa [blkT] using h
  | x :: l, t, b, hl, h => by
    have hx := hl x (by simp)
    have hat : (t.set x.1 x.2.obj).get b = if b = x.1 then some x.2.obj else t.get b := T.put_at _ _ _ _ hx
    refine blkT_some (l := l) (fun y hy => hl y (List.mem_cons_of_mem _ hy)) ?_
    rcases h with ⟨L, h⟩ | h
    · rcases List.mem_cons.1 h with rfl | h
      · right; rw [hat]; simp
      · exact .inl ⟨L, h⟩
    · right
      rw [hat]
      split
      · rfl
      · exact h

noncomputable def Ent.start (x : Ent) (lo : Nat) : AS := { h := blkT x.need .leaf, nx := x.nx, lo := lo }
noncomputable def entHit (x : Ent) (lo : Nat) (args : List Value) (A : AS) : Bool := Nat.beq A.nx x.nx && Nat.beq A.lo lo && beqVs x.args args && okAll A.h x.need
noncomputable def Ent.out (x : Ent) (A : AS) : AS := ⟨blkT x.post (delT x.need A.h), x.nx1, A.lo⟩
noncomputable def kmLook (lo : Nat) : List Ent → List Value → AS → Option (Value × AS)
  | [], _, _ => none
  | x :: l, a, A => bif entHit x lo a A then some (x.v, x.out A) else kmLook lo l a A

/-- Is an entry right? -/
noncomputable def entOk (P : Program) (kn : Kn) (N : Nat) (f : FuncId) (lo : Nat) (x : Ent) : Bool :=
  (kn.kn f x.args).isNone && Nat.ble x.nx (2 ^ 60) && loAll lo x.need x.post &&
  (match ev P kn (N + 1) (.call f x.args (x.start lo)) with
  | .val v A1 => beqV v x.v && Nat.beq A1.nx x.nx1 && okAll A1.h x.post
  | _ => false)

theorem ent_sound {kn : Kn} (hkn : KnOK P kn) (hm : P.follows .mixedOrders = true) {f : FuncId} (hf : fnGood P f = true) {N lo : Nat} {x : Ent} (he : entOk P kn N f lo x = true) {args : List Value} {A : AS} (hh : entHit x lo args A = true)
    {args' : List Value} (h : R P base σ A W) (ha : VRs σ args args') :
    Calls P f ⟨args'⟩ W fun en W1 => ∃ σ1 v', en = .returned v' ∧ R P base σ1 (x.out A) W1 ∧ Ext A σ W (x.out A) σ1 W1 ∧ VR σ1 x.v v' := by
  obtain ⟨fn, c, f1, f2, f3⟩ := fnGood_spec hf
  unfold entHit at hh
  simp only [Bool.and_eq_true] at hh
  obtain ⟨⟨⟨h1, h2⟩, h3⟩, h4⟩ := hh
  have h1 := Nat.eq_of_beq_eq_true h1
  have h2 := Nat.eq_of_beq_eq_true h2
  obtain rfl := beqVs_eq _ _ h3
  unfold entOk at he
  simp only [Bool.and_eq_true] at he
  obtain ⟨⟨⟨e1, e0⟩, e2⟩, e3⟩ := he
  have e0 := Nat.le_of_ble_eq_true e0
  have hneed := okAll_mem h4
  have hb : ∀ y ∈ x.need, y.1 + 2 ≤ 2 ^ 64 := fun y hy => by
    obtain ⟨o, q, _⟩ := hneed y.1 y.2 hy
    have := h.dom y.1 (by rw [q]; rfl)
    omega
  have hst : ∀ b o, (x.start lo).h.get b = some o → ∃ o0, A.h.get b = some o0 ∧ ∀ (τ : Sg) m y, OR τ m o0 y → OR τ m o y := fun b o e => by
    rcases blkT_get e with ⟨L, q1, rfl⟩ | q
    · obtain ⟨o0, q2, q3⟩ := hneed b L q1
      exact ⟨o0, q2, fun τ m y hy => okBlk_OR q3 hy⟩
    · simp [T.get_leaf] at q
  have hsub : ∀ b, ((x.start lo).h.get b).isSome → (A.h.get b).isSome := fun b e => by
    obtain ⟨o, q⟩ := Option.isSome_iff_exists.1 e
    obtain ⟨o0, q1, _⟩ := hst b o q
    rw [q1]; rfl
  have hR : R P base σ (x.start lo) W := by
    refine ⟨fun b o m e em => ?_, fun b b' m m' l l' => h.inj b b' m m' (hsub _ l) (hsub _ l'), fun b hb => h.fresh b (by rw [h1]; exact hb), h.glob, fun b m e hl => h.high b m e (by rw [h2]; exact hl), fun b m e hl => h.low b m e (by rw [h2]; exact hl), h.base_le,
      by show lo ≤ x.nx; rw [← h1, ← h2]; exact h.lonx, fun b l => by show b < x.nx; rw [← h1]; exact h.dom b (hsub b l)⟩
    obtain ⟨o0, q1, q2⟩ := hst b o e
    obtain ⟨o', w1, w2⟩ := h.live b o0 m q1 em
    exact ⟨o', w1, q2 σ m o' w2⟩
  split at e3 <;> try (simp at e3; done)
  rename_i v A2 hev
  simp only [Bool.and_eq_true] at e3
  obtain ⟨⟨g1, g2⟩, g3⟩ := e3
  obtain rfl := beqV_eq _ _ g1
  have g2 := Nat.eq_of_beq_eq_true g2
  have hpost := okAll_mem g3
  refine (ev_calls hkn hm f1 f2 f3 (by simpa using e1) hev hR ha).mono fun en W1 ⟨σ1, v', k1, k2, k3, k4⟩ => ?_
  have hlo1 : A2.lo = lo := k3.lo
  obtain ⟨r1, r2⟩ := R.keep (A' := x.start lo) (A2 := A2) (A1 := x.out A) h h1.symm h2.symm hsub k2 k3 g2.symm (by show A.lo = A2.lo; rw [hlo1, h2]) (fun b o e => by
    rcases blkT_get e with ⟨L, q1, rfl⟩ | q
    · left
      obtain ⟨o0, q2, q3⟩ := hpost b L q1
      refine ⟨o0, q2, fun m y hy => okBlk_OR q3 hy, ?_⟩
      rcases loAll_mem e2 b L q1 with q | q
      · exact .inl (by rw [h2]; exact q)
      · exact .inr (blkT_some hb (.inl q))
    · right
      obtain ⟨q1, q2⟩ := delT_get q
      refine ⟨q1, ?_⟩
      cases hq : (x.start lo).h.get b with
      | none => rfl
      | some o1 =>
        rcases blkT_get hq with ⟨L, q3, _⟩ | q3
        · exact absurd q3 (q2 L)
        · simp [T.get_leaf] at q3)
  exact ⟨σ1, v', k1, r1, r2, k4⟩

theorem kmLook_inv {lo : Nat} : ∀ {l : List Ent} {args : List Value} {A A1 : AS} {v : Value}, kmLook lo l args A = some (v, A1) → ∃ x ∈ l, entHit x lo args A = true ∧ v = x.v ∧ A1 = x.out A
  | [], _, _, _, _, h => by simp [kmLook] at h
  | x :: l, a, A, A1, v, h => by
    simp only [kmLook] at h
    cases hb : entHit x lo a A with
    | true =>
      rw [hb] at h
      simp at h
      exact ⟨x, by simp, hb, h.1.symm, h.2.symm⟩
    | false =>
      rw [hb] at h
      obtain ⟨y, q1, q2⟩ := kmLook_inv (l := l) h
      exact ⟨y, List.mem_cons_of_mem _ q1, q2⟩

/-- A table of such calls of one function. -/
theorem km_ok {kn : Kn} (hkn : KnOK P kn) (hm : P.follows .mixedOrders = true) {f : FuncId} (hf : fnGood P f = true) {N lo : Nat} {l : List Ent} (hl : ∀ x ∈ l, entOk P kn N f lo x = true) {args : List Value} {A A1 : AS} {v : Value} (hk : kmLook lo l args A = some (v, A1)) :
    (∃ fn c, P.funcs[f]? = some fn ∧ fn.body = some c ∧ (fn.name == "runtime.NumGoroutine") = false) ∧
    ∀ base σ W args', R P base σ A W → VRs σ args args' → Calls P f ⟨args'⟩ W fun e W1 => ∃ σ1 v', e = .returned v' ∧ R P base σ1 A1 W1 ∧ Ext A σ W A1 σ1 W1 ∧ VR σ1 v v' := by
  obtain ⟨x, hx, hh, rfl, rfl⟩ := kmLook_inv hk
  exact ⟨fnGood_spec hf, fun base σ W args' h ha => ent_sound hkn hm hf (hl x hx) hh h ha⟩
end Go.Eng
