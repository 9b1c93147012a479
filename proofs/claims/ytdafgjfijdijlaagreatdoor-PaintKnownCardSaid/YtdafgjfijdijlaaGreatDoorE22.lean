/- Part of an abstract machine that runs the program's code in Lean's kernel, and of the proof that what it answers every run of the model answers (Go.Eng; program-independent). No condition. -/
import Derived.Test.YtdafgjfijdijlaaGreatDoorE21
namespace Go.Eng
open Go

variable {P : Program} {base : Nat} {ih : Task → Out} {ops : Array Oper} {n n0 : Nat}

/-- What kind a step of the pass is: u its value. -/
inductive SK (P : Program) (ih : Task → Out) (n0 : Nat) (r : RI) (tr : T Value) (D D' : Dr) (u : Value) : Bool → Prop
  | skip : u = undef → D'.A = D.A → D'.gaps = D.gaps → D'.acts = D.acts → D'.mks = D.mks → D'.looks = D.looks → SK P ih n0 r tr D D' u false
  | act {A1 A' : AS} {saved : List (Nat × AObj)} : actAfter D.acts r.bef = true → hide n0 (D.mks.filter (fun i => !tb r.bef i)) D.A = some (A1, saved) → opVal P ih r.o tr A1 = some (u, A') →
      D'.A = unhide saved A' → D'.gaps = D.A :: D.gaps → D'.acts = r.i :: D.acts → D'.mks = D.mks.filter (fun i => !tb r.bef i) → D'.looks = D.looks → SK P ih n0 r tr D D' u true
  | make {A' : AS} {ob : AObj} : makesMem r.o = true → actsOn P r.o = false → actAfter D.acts r.bef = true → aOp P r.o tr ⟨D.A.h, n0 + r.i, D.A.lo⟩ = some (.value u, A') → A'.h.get (n0 + r.i) = some ob →
      D'.A = D.A.put (n0 + r.i) ob → D'.gaps = D.gaps → D'.acts = D.acts → D'.mks = r.i :: D.mks → D'.looks = D.looks → SK P ih n0 r tr D D' u true
  | look {A' : AS} : makesMem r.o = false → actsOn P r.o = false → aOp P r.o tr D.A = some (.value u, A') → D'.A = D.A → D'.gaps = D.gaps → D'.acts = D.acts → D'.mks = D.mks → D'.looks = (r, tr, u) :: D.looks → SK P ih n0 r tr D D' u true

theorem putDr_inv {D D' : Dr} {dst : Option Tmp} {v : Value} {f : T Value → Dr} (h : putDr D n dst v f = some D') : ∃ t, putT D.t n dst v = some t ∧ D' = f t := by
  unfold putDr at h
  split at h <;> simp at h
  rename_i t ht
  exact ⟨t, ht, h.symm⟩

theorem drawStep_inv {r : RI} {D D' : Dr} (h : drawStep P ih ops n n0 r D = some D') :
    subMask r.bef D.done = true ∧ tb D.done r.i = false ∧ ∃ w u, wantedA ops r.o (restrictTo D.t r.looks) = some w ∧ putT D.t n r.o.dst u = some D'.t ∧ D'.done = bit D r ∧ SK P ih n0 r (restrictTo D.t r.looks) D D' u w := by
  unfold drawStep at h
  cases hc : (subMask r.bef D.done && !tb D.done r.i) with
  | false => rw [hc] at h; simp at h
  | true =>
  rw [hc] at h
  simp only [cond_true] at h
  simp only [Bool.and_eq_true, Bool.not_eq_true'] at hc
  refine ⟨hc.1, hc.2, ?_⟩
  generalize restrictTo D.t r.looks = tr at h ⊢
  cases hw : wantedA ops r.o tr with
  | none => rw [hw] at h; simp [drawWant] at h
  | some w =>
  rw [hw] at h
  cases w with
  | false =>
    simp only [drawWant] at h
    obtain ⟨t, ht, rfl⟩ := putDr_inv h
    exact ⟨false, undef, rfl, ht, rfl, .skip rfl rfl rfl rfl rfl rfl⟩
  | true =>
    simp only [drawWant] at h
    cases ha : actsOn P r.o with
    | true =>
      rw [ha] at h
      simp only [cond_true] at h
      unfold drawAct at h
      cases hq : actAfter D.acts r.bef with
      | false => rw [hq] at h; simp at h
      | true =>
      rw [hq] at h
      simp only [cond_true] at h
      split at h <;> try (simp at h; done)
      rename_i A1 saved hhide
      split at h <;> try (simp at h; done)
      rename_i v A' hop
      obtain ⟨t, ht, rfl⟩ := putDr_inv h
      exact ⟨true, v, rfl, ht, rfl, .act hq hhide hop rfl rfl rfl rfl rfl⟩
    | false =>
      rw [ha] at h
      simp only [cond_false] at h
      cases hm : makesMem r.o with
      | true =>
        rw [hm] at h
        simp only [cond_true] at h
        unfold drawMake at h
        cases hq : actAfter D.acts r.bef with
        | false => rw [hq] at h; simp at h
        | true =>
        rw [hq] at h
        simp only [cond_true] at h
        split at h <;> try (simp at h; done)
        rename_i v A' hop
        split at h <;> try (simp at h; done)
        rename_i ob hob
        obtain ⟨t, ht, rfl⟩ := putDr_inv h
        exact ⟨true, v, rfl, ht, rfl, .make hm ha hq hop hob rfl rfl rfl rfl rfl⟩
      | false =>
        rw [hm] at h
        simp only [cond_false] at h
        unfold drawLook at h
        split at h <;> try (simp at h; done)
        rename_i v A' hop
        obtain ⟨t, ht, rfl⟩ := putDr_inv h
        exact ⟨true, v, rfl, ht, rfl, .look hm ha hop rfl rfl rfl rfl rfl⟩

theorem drawAll_append : ∀ (l1 l2 : List RI) (D D' : Dr), drawAll P ih ops n n0 (l1 ++ l2) D = some D' → ∃ Da, drawAll P ih ops n n0 l1 D = some Da ∧ drawAll P ih ops n n0 l2 Da = some D'
  | [], l2, D, D', h => ⟨D, rfl, h⟩
  | r :: l1, l2, D, D', h => by
    simp only [List.cons_append, drawAll] at h ⊢
    split at h <;> try (simp at h; done)
    rename_i D1 h1
    obtain ⟨Da, q1, q2⟩ := drawAll_append l1 l2 D1 D' h
    exact ⟨Da, by simpa only [h1] using q1, q2⟩
theorem drawAll_cons {r : RI} {l : List RI} {D D' : Dr} (h : drawAll P ih ops n n0 (r :: l) D = some D') : ∃ D1, drawStep P ih ops n n0 r D = some D1 ∧ drawAll P ih ops n n0 l D1 = some D' := by
  simp only [drawAll] at h
  split at h <;> try (simp at h; done)
  rename_i D1 h1
  exact ⟨D1, h1, h⟩

theorem bit_spec (D : Dr) (r : RI) (j : Nat) : tb (bit D r) j = (tb D.done j || decide (r.i = j)) := by
  unfold bit; rw [tb_lor, tb_one]
/-- The mask of what is done. -/
theorem done_spec : ∀ (l : List RI) (D D' : Dr), drawAll P ih ops n n0 l D = some D' → ∀ j, tb D'.done j = true ↔ tb D.done j = true ∨ ∃ r ∈ l, r.i = j
  | [], D, D', h, j => by simp [drawAll] at h; subst h; simp
  | r :: l, D, D', h, j => by
    obtain ⟨D1, h1, h2⟩ := drawAll_cons h
    obtain ⟨_, _, w, u, _, _, hd, _⟩ := drawStep_inv h1
    rw [done_spec l D1 D' h2 j, hd, bit_spec]
    simp only [Bool.or_eq_true, decide_eq_true_eq, List.mem_cons, exists_eq_or_imp]
    constructor
    · rintro ((q | q) | q)
      · exact .inl q
      · exact .inr (.inl q)
      · exact .inr (.inr q)
    · rintro (q | (q | q))
      · exact .inl (.inl q)
      · exact .inl (.inr q)
      · exact .inr q

/-- Slots that nobody writes stay. -/
theorem t_keep : ∀ (l : List RI) (D D' : Dr), drawAll P ih ops n n0 l D = some D' → (∀ r ∈ l, ∀ d, r.o.dst = some d → d < 2 ^ 60) → ∀ x, (∀ r ∈ l, r.o.dst ≠ some x) → D'.t.get x = D.t.get x
  | [], D, D', h, _, x, _ => by simp [drawAll] at h; subst h; rfl
  | r :: l, D, D', h, hd, x, hx => by
    obtain ⟨D1, h1, h2⟩ := drawAll_cons h
    obtain ⟨_, _, w, u, _, hp, _, _⟩ := drawStep_inv h1
    rw [t_keep l D1 D' h2 (fun r hr => hd r (by simp [hr])) x (fun r hr => hx r (by simp [hr]))]
    unfold putT at hp
    cases hdst : r.o.dst with
    | none => rw [hdst] at hp; simp at hp; rw [← hp]
    | some d =>
      rw [hdst] at hp
      simp only [putSome] at hp
      split at hp <;> simp at hp
      have hlt := hd r (by simp) d hdst
      rw [← hp, T.set, T.put_at _ _ _ _ (by have : @LT.lt Nat _ d (2 ^ 60) := hlt; omega), if_neg (fun q => hx r (by simp) (by rw [hdst, q]))]
theorem t_put {D : Dr} {dst : Option Tmp} {d : Tmp} {u : Value} {t' : T Value} (hp : putT D.t n dst u = some t') (hd : dst = some d) (hlt : d < 2 ^ 60) : t'.get d = some u ∧ d < n := by
  subst hd
  unfold putT at hp
  simp only [putSome] at hp
  split at hp <;> simp at hp
  rename_i hb
  refine ⟨?_, by simpa [Nat.blt, Nat.succ_le_iff] using hb⟩
  rw [← hp, T.set, T.put_at _ _ _ _ (by have : @LT.lt Nat _ d (2 ^ 60) := hlt; omega), if_pos rfl]

/-! Blocks put aside and put back. -/
theorem hide_spec : ∀ (l : List Nat) (A A1 : AS) (s : List (Nat × AObj)), hide n0 l A = some (A1, s) →
    A1.nx = A.nx ∧ A1.lo = A.lo ∧ (∀ b o, A1.h.get b = some o → A.h.get b = some o ∧ ∀ i ∈ l, b ≠ n0 + i) ∧ (∀ b o, (b, o) ∈ s → A.h.get b = some o ∧ ∃ i ∈ l, b = n0 + i) ∧ (∀ i ∈ l, ∃ o, (n0 + i, o) ∈ s)
  | [], A, A1, s, h => by simp [hide] at h; obtain ⟨rfl, rfl⟩ := h; simp
  | i :: l, A, A1, s, h => by
    simp only [hide] at h
    split at h <;> try (simp at h; done)
    rename_i o ho
    split at h <;> try (simp at h; done)
    rename_i A' s' hs
    simp at h; obtain ⟨rfl, rfl⟩ := h
    obtain ⟨h1, h2, h3, h4, h5⟩ := hide_spec l _ _ _ hs
    refine ⟨h1, h2, fun b o' hb => ?_, fun b o' hb => ?_, fun j hj => ?_⟩
    · obtain ⟨q1, q2⟩ := h3 b o' hb
      obtain ⟨q3, q4⟩ := T.del_get _ _ _ _ q1
      refine ⟨q4, fun j hj => ?_⟩
      rcases List.mem_cons.1 hj with rfl | hj
      · exact q3
      · exact q2 j hj
    · rcases List.mem_cons.1 hb with hb | hb
      · simp at hb; obtain ⟨rfl, rfl⟩ := hb; exact ⟨ho, i, by simp, rfl⟩
      · obtain ⟨q1, j, hj, q2⟩ := h4 b o' hb
        exact ⟨(T.del_get _ _ _ _ q1).2, j, List.mem_cons_of_mem _ hj, q2⟩
    · rcases List.mem_cons.1 hj with rfl | hj
      · exact ⟨o, by simp⟩
      · obtain ⟨o', q⟩ := h5 j hj; exact ⟨o', List.mem_cons_of_mem _ q⟩
theorem unhide_spec : ∀ (s : List (Nat × AObj)) (A : AS), (unhide s A).nx = A.nx ∧ (unhide s A).lo = A.lo ∧ ∀ b o, (unhide s A).h.get b = some o → (b, o) ∈ s ∨ ((∀ o', (b, o') ∉ s) ∧ A.h.get b = some o)
  | [], A => by simp [unhide]
  | x :: s, A => by
    obtain ⟨h1, h2, h3⟩ := unhide_spec s A
    refine ⟨h1, h2, fun b o hb => ?_⟩
    rcases T.set_get _ _ _ _ _ hb with ⟨rfl, rfl⟩ | ⟨hne, hb⟩
    · exact .inl (by simp)
    · rcases h3 b o hb with q | ⟨q1, q2⟩
      · exact .inl (List.mem_cons_of_mem _ q)
      · refine .inr ⟨fun o' ho' => ?_, q2⟩
        rcases List.mem_cons.1 ho' with rfl | ho'
        · exact hne rfl
        · exact q1 o' ho'

/-- Forget some blocks. -/
theorem R.sub {σ : Sg} {A A1 : AS} {W : World} (h : R P base σ A W) (hn : A1.nx = A.nx) (hl : A1.lo = A.lo) (hg : ∀ b o, A1.h.get b = some o → A.h.get b = some o) : R P base σ A1 W ∧ Ext A σ W A1 σ W := by
  have hs : ∀ b, (A1.h.get b).isSome → (A.h.get b).isSome := fun b e => by
    obtain ⟨o, q⟩ := Option.isSome_iff_exists.1 e
    rw [hg _ _ q]; rfl
  refine ⟨⟨fun b o m e => h.live b o m (hg _ _ e), fun b b' m m' l l' => h.inj b b' m m' (hs _ l) (hs _ l'), by rw [hn]; exact h.fresh, h.glob, by rw [hl]; exact h.high, by rw [hl]; exact h.low, h.base_le, by rw [hn, hl]; exact h.lonx, fun b hb => by rw [hn]; exact h.dom b (hs b hb)⟩,
    ⟨fun _ _ h => h, fun _ _ => rfl, by rw [hn]; exact Nat.le_refl _, hl, Nat.le_refl _, ?_, fun _ _ _ => rfl, rfl, rfl⟩⟩
  rintro c hc ⟨b, m, e1, e2, e3, e4⟩
  exact ⟨b, m, hs _ e1, e2, e3, by rw [← hl]; exact e4⟩

/-- A block that lies nowhere yet. -/
theorem R.put_none {σ : Sg} {A : AS} {W : World} {b : Nat} {o : AObj} (h : R P base σ A W) (hb : σ b = none) (hbn : b < A.nx) : R P base σ (A.put b o) W ∧ Ext A σ W (A.put b o) σ W := by
  have hold : ∀ x o', (A.put b o).h.get x = some o' → x = b ∨ A.h.get x = some o' := fun x o' e => by
    rcases T.set_get _ _ _ _ _ e with ⟨q, _⟩ | ⟨_, q⟩
    · exact .inl q
    · exact .inr q
  have hs : ∀ x m, ((A.put b o).h.get x).isSome → σ x = some m → (A.h.get x).isSome := fun x m e em => by
    obtain ⟨o', q⟩ := Option.isSome_iff_exists.1 e
    rcases hold x o' q with rfl | q
    · rw [hb] at em; simp at em
    · rw [q]; rfl
  refine ⟨⟨fun x o' m e em => ?_, fun x x' m m' l l' e e' => h.inj x x' m m' (hs _ _ l e) (hs _ _ l' e') e e', h.fresh, h.glob, h.high, h.low, h.base_le, h.lonx, fun x hx => by
      obtain ⟨o', q⟩ := Option.isSome_iff_exists.1 hx
      rcases hold x o' q with rfl | q
      · exact hbn
      · exact h.dom x (by rw [q]; rfl)⟩,
    ⟨fun _ _ h => h, fun _ _ => rfl, Nat.le_refl _, rfl, Nat.le_refl _, ?_, fun _ _ _ => rfl, rfl, rfl⟩⟩
  · rcases hold x o' e with rfl | e
    · rw [hb] at em; simp at em
    · exact h.live x o' m e em
  · rintro c hc ⟨x, m, e1, e2, e3, e4⟩
    exact ⟨x, m, hs _ _ e1 e2, e2, e3, e4⟩

/-- Blocks put back behind an act that could not see them. -/
theorem R.unhide {σ σ1 : Sg} {A A1 A2 : AS} {W W1 : World} {s : List (Nat × AObj)} (h : R P base σ A W) (hsub : A1.nx = A.nx ∧ A1.lo = A.lo ∧ ∀ b o, A1.h.get b = some o → A.h.get b = some o ∧ ∀ o', (b, o') ∉ s)
    (hsv : ∀ b o, (b, o) ∈ s → A.h.get b = some o) (hlt : ∀ b o, (b, o) ∈ s → b < A.nx) (hlo : ∀ b o, (b, o) ∈ s → A.lo ≤ b) (h1 : R P base σ1 A2 W1) (he : Ext A1 σ W A2 σ1 W1) :
    R P base σ1 (Eng.unhide s A2) W1 ∧ Ext A σ W (Eng.unhide s A2) σ1 W1 := by
  obtain ⟨u1, u2, u3⟩ := unhide_spec s A2
  have hsame : ∀ b, b < A.nx → σ1 b = σ b := fun b hb => he.same b (by rw [hsub.1]; exact hb)
  -- a hidden block that lies somewhere lies there still, and is nobody else's
  have hkeep : ∀ b o m, (b, o) ∈ s → σ1 b = some m → σ b = some m ∧ m.c < W.heap.size ∧ ¬ Img A1 σ m.c ∧ ∃ o', W.heap[m.c]? = some o' ∧ OR σ m o o' := by
    intro b o m hs hm
    rw [hsame b (hlt b o hs)] at hm
    obtain ⟨o', w1, w2⟩ := h.live b o m (hsv b o hs) hm
    refine ⟨hm, (Array.getElem?_eq_some_iff.1 w1).1, ?_, o', w1, w2⟩
    rintro ⟨x, mx, e1, e2, e3, e4⟩
    obtain ⟨ox, q⟩ := Option.isSome_iff_exists.1 e1
    have := hsub.2.2 x ox q
    have hxb := h.inj x b mx m (by rw [this.1]; rfl) (by rw [hsv b o hs]; rfl) e2 hm e3
    subst hxb
    exact this.2 o hs
  have hlive2 : ∀ b m, (A2.h.get b).isSome → σ1 b = some m → ∀ b' o' m', (b', o') ∈ s → σ1 b' = some m' → m.c ≠ m'.c := by
    intro b m l e b' o' m' hs e' hc
    obtain ⟨k1, k2, k3, _⟩ := hkeep b' o' m' hs e'
    by_cases hbl : A2.lo ≤ b
    · exact k3 (he.img m'.c k2 ⟨b, m, l, e, hc, hbl⟩)
    · have g1 := h1.low b m e (by omega)
      have g2 := h1.high b' m' e' (by rw [he.lo, hsub.2.1]; exact hlo b' o' hs)
      omega
  have hget : ∀ b, ((Eng.unhide s A2).h.get b).isSome → (∃ o, (b, o) ∈ s) ∨ (A2.h.get b).isSome := fun b l => by
    obtain ⟨o, q⟩ := Option.isSome_iff_exists.1 l
    rcases u3 b o q with q | ⟨_, q⟩
    · exact .inl ⟨o, q⟩
    · exact .inr (by rw [q]; rfl)
  refine ⟨⟨?_, ?_, by rw [u1]; exact h1.fresh, h1.glob, by rw [u2]; exact h1.high, by rw [u2]; exact h1.low, h1.base_le, by rw [u1, u2]; exact h1.lonx, fun b hb => by
    rw [u1]
    rcases hget b hb with ⟨o, q⟩ | q
    · exact Nat.lt_of_lt_of_le (hlt b o q) (hsub.1 ▸ he.nx)
    · exact h1.dom b q⟩, ⟨fun b m e => he.le b m e, hsame, by rw [u1]; exact hsub.1 ▸ he.nx, by rw [u2, he.lo, hsub.2.1], he.size, ?_, ?_, he.rest⟩⟩
  · intro b o m e em
    rcases u3 b o e with q | ⟨_, q⟩
    · obtain ⟨k1, k2, k3, o', k4, k5⟩ := hkeep b o m q em
      exact ⟨o', by rw [he.frame _ k2 k3]; exact k4, k5.mono he.le⟩
    · exact h1.live b o m q em
  · intro b b' m m' l l' e e' hc
    rcases hget b l with ⟨o, q⟩ | q <;> rcases hget b' l' with ⟨o', q'⟩ | q'
    · obtain ⟨k1, _⟩ := hkeep b o m q e
      obtain ⟨k1', _⟩ := hkeep b' o' m' q' e'
      exact h.inj b b' m m' (by rw [hsv b o q]; rfl) (by rw [hsv b' o' q']; rfl) k1 k1' hc
    · exact absurd hc.symm (hlive2 b' m' q' e' b o m q e)
    · exact absurd hc (hlive2 b m q e b' o' m' q' e')
    · exact h1.inj b b' m m' q q' e e' hc
  · rintro c hc ⟨b, m, l, e, e3, e4⟩
    rcases hget b l with ⟨o, q⟩ | q
    · obtain ⟨k1, _⟩ := hkeep b o m q e
      exact ⟨b, m, by rw [hsv b o q]; rfl, k1, e3, hlo b o q⟩
    · obtain ⟨x, mx, z1, z2, z3, z4⟩ := he.img c hc ⟨b, m, q, e, e3, by rw [← u2]; exact e4⟩
      obtain ⟨ox, qx⟩ := Option.isSome_iff_exists.1 z1
      exact ⟨x, mx, by rw [(hsub.2.2 x ox qx).1]; rfl, z2, z3, by rw [← hsub.2.1]; exact z4⟩
  · intro c hc hn
    refine he.frame c hc ?_
    rintro ⟨x, mx, z1, z2, z3, z4⟩
    obtain ⟨ox, qx⟩ := Option.isSome_iff_exists.1 z1
    exact hn ⟨x, mx, by rw [(hsub.2.2 x ox qx).1]; rfl, z2, z3, by rw [← hsub.2.1]; exact z4⟩

end Go.Eng
