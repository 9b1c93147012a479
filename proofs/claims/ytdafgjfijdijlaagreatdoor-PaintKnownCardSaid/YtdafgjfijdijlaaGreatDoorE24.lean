/- Part of an abstract machine that runs the program's code in Lean's kernel, and of the proof that what it answers every run of the model answers (Go.Eng; program-independent). No condition. -/
import Derived.Test.YtdafgjfijdijlaaGreatDoorE23
import Derived.Orders
namespace Go.Eng
open Go

variable {P : Program} {base : Nat} {ih : Task → Out} {ops : Array Oper} {n n0 : Nat}

theorem Reach.comp {i j k : Nat} (h : Reach ops i j) (g : Reach ops j k) : Reach ops i k := by
  induction h with
  | edge h1 h2 h3 => exact .trans h1 h2 h3 g
  | trans h1 h2 h3 _ ih => exact .trans h1 h2 h3 (ih g)

/-- None of the items to come is done. -/
theorem fresh_spec : ∀ (l : List RI) (D D' : Dr), drawAll P ih ops n n0 l D = some D' → ∀ r ∈ l, tb D.done r.i = false
  | [], D, D', h, r, hr => by simp at hr
  | x :: l, D, D', h, r, hr => by
    obtain ⟨D1, h1, h2⟩ := drawAll_cons h
    obtain ⟨_, hx, w, u, _, _, hd, _⟩ := drawStep_inv h1
    rcases List.mem_cons.1 hr with rfl | hr
    · exact hx
    · have := fresh_spec l D1 D' h2 r hr
      rw [hd, bit_spec] at this
      simp at this; exact this.1
/-- What an item waits for is done behind it. -/
theorem bef_done : ∀ (l : List RI) (D D' : Dr), drawAll P ih ops n n0 l D = some D' → ∀ r ∈ l, ∀ j, tb r.bef j = true → tb D'.done j = true
  | [], D, D', h, r, hr, _, _ => by simp at hr
  | x :: l, D, D', h, r, hr, j, hj => by
    obtain ⟨D1, h1, h2⟩ := drawAll_cons h
    obtain ⟨hs, _, w, u, _, _, hd, _⟩ := drawStep_inv h1
    rcases List.mem_cons.1 hr with rfl | hr
    · rw [done_spec l D1 D' h2 j, hd, bit_spec]
      exact .inl (by simp [subMask_spec hs j hj])
    · exact bef_done l D1 D' h2 r hr j hj

theorem acts_ids : ∀ (l : List RI) (D D' : Dr), drawAll P ih ops n n0 l D = some D' → ∃ pre, D'.acts = pre ++ D.acts ∧ ∀ j ∈ pre, ∃ r ∈ l, r.i = j
  | [], D, D', h => by simp [drawAll] at h; subst h; exact ⟨[], rfl, by simp⟩
  | r :: l, D, D', h => by
    obtain ⟨D1, h1, h2⟩ := drawAll_cons h
    obtain ⟨_, _, w, u, _, _, _, hk⟩ := drawStep_inv h1
    obtain ⟨pre, e1, e2⟩ := acts_ids l D1 D' h2
    have keep : D1.acts = D.acts → ∃ pre, D'.acts = pre ++ D.acts ∧ ∀ j ∈ pre, ∃ x ∈ r :: l, x.i = j := fun a =>
      ⟨pre, by rw [e1, a], fun j hj => by obtain ⟨x, q1, q2⟩ := e2 j hj; exact ⟨x, by simp [q1], q2⟩⟩
    cases hk with
    | skip _ _ _ a => exact keep a
    | look _ _ _ _ _ a => exact keep a
    | make _ _ _ _ _ _ _ a => exact keep a
    | act _ _ _ _ _ a =>
      refine ⟨pre ++ [r.i], by rw [e1, a]; simp, fun j hj => ?_⟩
      rcases List.mem_append.1 hj with hj | hj
      · obtain ⟨x, q1, q2⟩ := e2 j hj; exact ⟨x, by simp [q1], q2⟩
      · simp at hj; exact ⟨r, by simp, hj.symm⟩
theorem mks_ids : ∀ (l : List RI) (D D' : Dr), drawAll P ih ops n n0 l D = some D' → ∀ j ∈ D'.mks, j ∈ D.mks ∨ ∃ r ∈ l, r.i = j
  | [], D, D', h, j, hj => by simp [drawAll] at h; subst h; exact .inl hj
  | r :: l, D, D', h, j, hj => by
    obtain ⟨D1, h1, h2⟩ := drawAll_cons h
    obtain ⟨_, _, w, u, _, _, _, hk⟩ := drawStep_inv h1
    rcases mks_ids l D1 D' h2 j hj with q | ⟨x, q1, q2⟩
    · cases hk with
      | skip _ _ _ _ m => rw [m] at q; exact .inl q
      | look _ _ _ _ _ _ m => rw [m] at q; exact .inl q
      | act _ _ _ _ _ _ m => rw [m] at q; exact .inl (List.mem_filter.1 q).1
      | make _ _ _ _ _ _ _ _ m =>
        rw [m] at q
        rcases List.mem_cons.1 q with rfl | q
        · exact .inr ⟨r, by simp, rfl⟩
        · exact .inl q
    · exact .inr ⟨x, by simp [q1], q2⟩
/-- Each act waits for those ahead of it. -/
def Chain (ops : Array Oper) (acts : List Nat) : Prop := ∀ j l, acts = j :: l → ∀ x ∈ l, Reach ops j x
theorem after_reach {acts : List Nat} {i bef : Nat} (hc : Chain ops acts) (ha : actAfter acts bef = true) (hb : ∀ j, tb bef j = true → Reach ops i j) : ∀ x ∈ acts, Reach ops i x := by
  intro x hx
  cases acts with
  | nil => simp at hx
  | cons j l =>
    simp only [actAfter] at ha
    rcases List.mem_cons.1 hx with rfl | hx
    · exact hb _ ha
    · exact (hb _ ha).comp (hc j l rfl x hx)
theorem chain_spec : ∀ (l : List RI) (D D' : Dr), drawAll P ih ops n n0 l D = some D' → (∀ r ∈ l, ∀ j, tb r.bef j = true → Reach ops r.i j) → Chain ops D.acts → Chain ops D'.acts
  | [], D, D', h, _, hc => by simp [drawAll] at h; subst h; exact hc
  | r :: l, D, D', h, hb, hc => by
    obtain ⟨D1, h1, h2⟩ := drawAll_cons h
    obtain ⟨_, _, w, u, _, _, _, hk⟩ := drawStep_inv h1
    refine chain_spec l D1 D' h2 (fun x hx => hb x (by simp [hx])) ?_
    cases hk with
    | skip _ _ _ a => rw [a]; exact hc
    | look _ _ _ _ _ a => rw [a]; exact hc
    | make _ _ _ _ _ _ _ a => rw [a]; exact hc
    | act ha _ _ _ _ a =>
      rw [a]
      intro j l' he x hx
      simp at he; obtain ⟨rfl, rfl⟩ := he
      exact after_reach hc ha (hb r (by simp)) x hx

/-! What the model's run and the pass have in common. -/
structure Pass (P : Program) (ih : Task → Out) (ops : Array Oper) (n n0 : Nat) (Wr B : T Nat) (rs : List RI) (D0 Df : Dr) : Prop where
  run : drawAll P ih ops n n0 rs D0 = some Df
  ok : ∀ r ∈ rs, RIOk ops Wr B r
  bok : BOk ops B
  wr : ∀ r ∈ rs, ∀ d, r.o.dst = some d → d < 2 ^ 60 ∧ Wr.get d = some r.i
  all : ∀ i, i < ops.size → ∃ r ∈ rs, r.i = i
  edge : ∀ r ∈ rs, ∀ e ∈ r.o.after, Region.binds .any e = true → tb r.bef e.on = true
  d0 : D0.done = 0
  g0 : D0.gaps = []
  a0 : D0.acts = []
  m0 : D0.mks = []
  looks : ∀ x ∈ Df.looks, sameAt P x.2.1 B x.1 x.2.2 (Df.A :: Df.gaps) Df.acts = true

structure Inv (P : Program) (base : Nat) (ops : Array Oper) (n n0 : Nat) (rs : List RI) (D0 Df : Dr) (A : AS) (σ0 : Sg) (W0 : World) (S : Nat → Prop) (σ : Sg) (W : World) (tm : Array Value) : Prop where
  reach : ∀ i j, S i → Reach ops i j → S j
  gap : ∃ k G, (gapsOf Df)[k]? = some G ∧ R P base σ G W ∧ n0 + ops.size ≤ G.nx ∧ Ext A σ0 W0 G σ W ∧ ∀ q j : Nat, (actsOf Df)[q]? = some j → (S j ↔ q < k)
  none : ∀ i, i < ops.size → ¬ S i → σ (n0 + i) = none
  size : tm.size = n
  done : ∀ (x : Nat) v, (∀ r ∈ rs, r.o.dst = some x → S r.i) → Df.t.get x = some v → ∃ v', tm[x]? = some v' ∧ VR σ v v'
  todo : ∀ (x : Nat) v, (∀ r ∈ rs, r.o.dst = some x → ¬ S r.i) → D0.t.get x = some v → ∃ v', tm[x]? = some v' ∧ VR σ v v'

variable {Wr B : T Nat} {rs : List RI} {D0 Df : Dr} {A : AS} {σ0 : Sg} {W0 : World} {S : Nat → Prop} {σ : Sg} {W : World} {tm : Array Value}

theorem Pass.reach (hp : Pass P ih ops n n0 Wr B rs D0 Df) {r : RI} (hr : r ∈ rs) {j : Nat} (h : tb r.bef j = true) : Reach ops r.i j := by
  rw [(hp.ok r hr).bef] at h; exact hp.bok _ _ h
theorem Pass.lt (hp : Pass P ih ops n n0 Wr B rs D0 Df) {r : RI} (hr : r ∈ rs) : r.i < ops.size := (Array.getElem?_eq_some_iff.1 (hp.ok r hr).op).1

theorem ready_reach {i : Nat} (hS : ∀ i j, S i → Reach ops i j → S j) (hrd : ∀ o e, ops[i]? = some o → e ∈ o.after → Region.binds .any e = true → S e.on) : ∀ j, Reach ops i j → S j := by
  intro j h
  cases h with
  | edge h1 h2 h3 => exact hrd _ _ h1 h2 h3
  | trans h1 h2 h3 h4 => exact hS _ _ (hrd _ _ h1 h2 h3) h4

/-- An item where it stands in the pass. -/
structure Here (P : Program) (ih : Task → Out) (ops : Array Oper) (n n0 : Nat) (rs : List RI) (D0 Df : Dr) (r : RI) (l1 l2 : List RI) (Da D1 : Dr) : Prop where
  eq : rs = l1 ++ r :: l2
  fst : drawAll P ih ops n n0 l1 D0 = some Da
  stp : drawStep P ih ops n n0 r Da = some D1
  snd : drawAll P ih ops n n0 l2 D1 = some Df
  ne1 : ∀ x ∈ l1, x.i ≠ r.i
  ne2 : ∀ x ∈ l2, x.i ≠ r.i
theorem Pass.here (hp : Pass P ih ops n n0 Wr B rs D0 Df) {i : Nat} (hi : i < ops.size) : ∃ r l1 l2 Da D1, r ∈ rs ∧ r.i = i ∧ Here P ih ops n n0 rs D0 Df r l1 l2 Da D1 := by
  obtain ⟨r, hr, he⟩ := hp.all i hi
  obtain ⟨l1, l2, e⟩ := List.append_of_mem hr
  have h := hp.run
  rw [e] at h
  obtain ⟨Da, h1, h2⟩ := drawAll_append _ _ _ _ h
  obtain ⟨D1, h3, h4⟩ := drawAll_cons h2
  obtain ⟨_, hf, w, u, _, _, hd, _⟩ := drawStep_inv h3
  refine ⟨r, l1, l2, Da, D1, hr, he, e, h1, h3, h4, fun x hx hc => ?_, fun x hx hc => ?_⟩
  · have := (done_spec l1 D0 Da h1 r.i).2 (.inr ⟨x, hx, hc⟩)
    rw [hf] at this; simp at this
  · have := fresh_spec l2 D1 Df h4 x hx
    rw [hd, bit_spec, hc] at this; simp at this

/-- The slots that it looks at. -/
theorem Inv.slots (hp : Pass P ih ops n n0 Wr B rs D0 Df) (hv : Inv P base ops n n0 rs D0 Df A σ0 W0 S σ W tm) {r : RI} {l1 l2 : List RI} {Da D1 : Dr} (hr : r ∈ rs) (hh : Here P ih ops n n0 rs D0 Df r l1 l2 Da D1) (hS : ¬ S r.i) (hrd : ∀ j, Reach ops r.i j → S j) :
    TR σ (restrictTo Da.t r.looks) n tm := by
  refine ⟨hv.size, fun x v hx => ?_⟩
  obtain ⟨hxl, hxv⟩ := restrict_spec _ _ _ _ hx
  obtain ⟨hsub, _, w, u, _, _, hd, _⟩ := drawStep_inv hh.stp
  have hd60 : ∀ r ∈ rs, ∀ d, r.o.dst = some d → d < 2 ^ 60 := fun r hr d h => (hp.wr r hr d h).1
  have in1 : ∀ x ∈ l1, x ∈ rs := fun x hx => by rw [hh.eq]; simp [hx]
  have in2 : ∀ x ∈ l2, x ∈ rs := fun x hx => by rw [hh.eq]; simp [hx]
  have htail : drawAll P ih ops n n0 (r :: l2) Da = some Df := by unfold drawAll; rw [hh.stp]; exact hh.snd
  have in3 : ∀ x ∈ r :: l2, x ∈ rs := fun x hx => by rw [hh.eq]; simp only [List.mem_append]; exact .inr hx
  by_cases hex : ∃ r' ∈ rs, r'.o.dst = some x
  · obtain ⟨r', hr', hdst⟩ := hex
    have hid : ∀ r3 ∈ rs, r3.o.dst = some x → r3.i = r'.i := fun r3 h3 q => by
      have q1 := (hp.wr r3 h3 x q).2
      have q2 := (hp.wr r' hr' x hdst).2
      rw [q1] at q2; simpa using q2
    rcases lookOk_spec _ (hp.ok r hr).ok x hxl _ (hp.wr r' hr' x hdst).2 with q | q | q
    · have hSr : S r'.i := hrd _ (hp.reach hr q)
      have hdn := subMask_spec hsub _ q
      refine hv.done x v (fun r3 h3 e3 => by rw [hid r3 h3 e3]; exact hSr) ?_
      rw [t_keep _ Da Df htail (fun y hy => hd60 y (in3 y hy)) x (fun y hy hc => ?_)]
      · exact hxv
      · have := fresh_spec _ _ _ htail y hy
        rw [hid y (in3 y hy) hc, hdn] at this; simp at this
    · refine hv.todo x v (fun r3 h3 e3 => by rw [hid r3 h3 e3, q]; exact hS) ?_
      rw [← t_keep l1 D0 Da hh.fst (fun y hy => hd60 y (in1 y hy)) x (fun y hy hc => ?_)]
      · exact hxv
      · exact hh.ne1 y hy (by rw [hid y (in1 y hy) hc, q])
    · have hre : Reach ops r'.i r.i := hp.bok _ _ q
      refine hv.todo x v (fun r3 h3 e3 => by rw [hid r3 h3 e3]; exact fun hc => hS (hv.reach _ _ hc hre)) ?_
      rw [← t_keep l1 D0 Da hh.fst (fun y hy => hd60 y (in1 y hy)) x (fun y hy hc => ?_)]
      · exact hxv
      · have := bef_done l1 D0 Da hh.fst y hy r.i (by rw [(hp.ok y (in1 y hy)).bef, hid y (in1 y hy) hc]; exact q)
        rw [fresh_spec _ _ _ htail r (by simp)] at this; simp at this
  · refine hv.done x v (fun r3 h3 e3 => absurd ⟨r3, h3, e3⟩ hex) ?_
    rw [t_keep _ Da Df htail (fun y hy => hd60 y (in3 y hy)) x (fun y hy hc => hex ⟨y, in3 y hy, hc⟩)]
    exact hxv

/-- The slots behind it. -/
theorem Inv.slots' (hp : Pass P ih ops n n0 Wr B rs D0 Df) (hv : Inv P base ops n n0 rs D0 Df A σ0 W0 S σ W tm) {r : RI} {l1 l2 : List RI} {Da D1 : Dr} (hr : r ∈ rs) (hh : Here P ih ops n n0 rs D0 Df r l1 l2 Da D1) {σ1 : Sg} (hle : σ.le σ1) {u v' : Value} (hu : VR σ1 u v')
    (hput : putT Da.t n r.o.dst u = some D1.t) :
    (putA tm r.o.dst v').size = n ∧ (∀ (x : Nat) v, (∀ y ∈ rs, y.o.dst = some x → S y.i ∨ y.i = r.i) → Df.t.get x = some v → ∃ v2, (putA tm r.o.dst v')[x]? = some v2 ∧ VR σ1 v v2) ∧
      (∀ (x : Nat) v, (∀ y ∈ rs, y.o.dst = some x → ¬ (S y.i ∨ y.i = r.i)) → D0.t.get x = some v → ∃ v2, (putA tm r.o.dst v')[x]? = some v2 ∧ VR σ1 v v2) := by
  have hd60 : ∀ r ∈ rs, ∀ d, r.o.dst = some d → d < 2 ^ 60 := fun r hr d h => (hp.wr r hr d h).1
  have in2 : ∀ x ∈ l2, x ∈ rs := fun x hx => by rw [hh.eq]; simp [hx]
  have hother : ∀ x, r.o.dst ≠ some x → (putA tm r.o.dst v')[x]? = tm[x]? := fun x hx => by
    unfold putA
    cases hd : r.o.dst with
    | none => rfl
    | some d => simp only; exact Array.getElem?_setIfInBounds_ne (fun e => hx (by rw [hd, e]))
  refine ⟨?_, fun x v hx hv1 => ?_, fun x v hx hv1 => ?_⟩
  · unfold putA
    cases hd : r.o.dst with
    | none => exact hv.size
    | some d => simp [hv.size]
  · by_cases hdx : r.o.dst = some x
    · obtain ⟨p1, p2⟩ := t_put hput hdx (hd60 r hr x hdx)
      rw [t_keep l2 D1 Df hh.snd (fun y hy => hd60 y (in2 y hy)) x (fun y hy hc => hh.ne2 y hy (by
        have q1 := (hp.wr y (in2 y hy) x hc).2
        have q2 := (hp.wr r hr x hdx).2
        rw [q1] at q2; simpa using q2)), p1] at hv1
      simp at hv1; subst hv1
      exact ⟨v', by
        rw [hdx]; unfold putA
        rw [Array.getElem?_setIfInBounds]; simp [hv.size, show @LT.lt Nat _ x n from p2], hu⟩
    · obtain ⟨v2, q1, q2⟩ := hv.done x v (fun y hy hy2 => by
        rcases hx y hy hy2 with q | q
        · exact q
        · have h1 := (hp.ok y hy).op
          rw [q, (hp.ok r hr).op] at h1
          simp at h1; rw [← h1] at hy2; exact absurd hy2 hdx) hv1
      exact ⟨v2, by rw [hother x hdx]; exact q1, q2.mono hle⟩
  · have hdx : r.o.dst ≠ some x := fun e => hx r hr e (.inr rfl)
    obtain ⟨v2, q1, q2⟩ := hv.todo x v (fun y hy hy2 hc => hx y hy hy2 (.inl hc)) hv1
    exact ⟨v2, by rw [hother x hdx]; exact q1, q2.mono hle⟩

end Go.Eng
