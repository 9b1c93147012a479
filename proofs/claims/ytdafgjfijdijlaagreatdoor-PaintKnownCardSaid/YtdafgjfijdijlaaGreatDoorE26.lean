/- Part of an abstract machine that runs the program's code in Lean's kernel, and of the proof that what it answers every run of the model answers (Go.Eng; program-independent). No condition. -/
import Derived.Test.YtdafgjfijdijlaaGreatDoorE25
namespace Go.Eng
open Go

variable {P : Program} {base : Nat} {ih : Task → Out} {ops : Array Oper} {n n0 : Nat}
variable {Wr B : T Nat} {rs : List RI} {D0 Df : Dr} {A : AS} {σ0 : Sg} {W0 : World} {S : Nat → Prop} {σ : Sg} {W : World} {tm : Array Value}

/-- What is not listed yet. -/
def left (N : Nat) (listed : Array Bool) : List Nat := (List.range N).filter fun j => !listed.getD j true

theorem listed_set {N : Nat} {listed : Array Bool} (hs : listed.size = N) {i : Nat} (hi : i < N) (j : Nat) : (listed.setIfInBounds i true).getD j false = true ↔ (listed.getD j false = true ∨ j = i) := by
  simp only [Array.getD_eq_getD_getElem?, Array.getElem?_setIfInBounds]
  by_cases h : i = j
  · subst h; simp [hs, hi]
  · rw [if_neg h]
    constructor
    · exact .inl
    · rintro (q | q)
      · exact q
      · exact absurd q.symm h
theorem getD_tf {N : Nat} {listed : Array Bool} (hs : listed.size = N) {i : Nat} (hi : i < N) : listed.getD i true = listed.getD i false := by
  simp only [Array.getD_eq_getD_getElem?]
  rw [Array.getElem?_eq_getElem (by omega)]; rfl

theorem filter_lt {p q : Nat → Bool} {i : Nat} : ∀ (l : List Nat), i ∈ l → p i = true → q i = false → (∀ j, q j = true → p j = true) → (l.filter q).length < (l.filter p).length
  | [], hi, _, _, _ => by simp at hi
  | x :: l, hi, h1, h2, h3 => by
    have hle : ∀ l : List Nat, (l.filter q).length ≤ (l.filter p).length := by
      intro l
      induction l with
      | nil => simp
      | cons y l ih =>
        simp only [List.filter_cons]
        cases hq : q y with
        | true => rw [h3 y hq]; simp [ih]
        | false =>
          cases p y
          · simpa using ih
          · simp; omega
    rcases List.mem_cons.1 hi with rfl | hi
    · simp only [List.filter_cons, h1, h2]
      have := hle l
      simp; omega
    · have := filter_lt l hi h1 h2 h3
      simp only [List.filter_cons]
      cases hq : q x with
      | true => rw [h3 x hq]; simpa using this
      | false =>
        cases p x
        · simpa using this
        · simp; omega

/-- Where something is left, something may come. -/
theorem Pass.next (hp : Pass P ih ops n n0 Wr B rs D0 Df) (hS : ∃ i, i < ops.size ∧ ¬ S i) : ∃ i, i < ops.size ∧ ¬ S i ∧ ∀ o e, ops[i]? = some o → e ∈ o.after → Region.binds .any e = true → S e.on := by
  have first : ∀ l : List RI, (∃ r ∈ l, ¬ S r.i) → ∃ l1 r l2, l = l1 ++ r :: l2 ∧ ¬ S r.i ∧ ∀ x ∈ l1, S x.i := by
    intro l
    induction l with
    | nil => rintro ⟨r, hr, _⟩; simp at hr
    | cons x l ih =>
      rintro ⟨r, hr, h⟩
      by_cases hx : S x.i
      · rcases List.mem_cons.1 hr with rfl | hr
        · exact absurd hx h
        · obtain ⟨l1, r', l2, e1, e2, e3⟩ := ih ⟨r, hr, h⟩
          exact ⟨x :: l1, r', l2, by rw [e1]; rfl, e2, fun y hy => by
            rcases List.mem_cons.1 hy with rfl | hy
            · exact hx
            · exact e3 y hy⟩
      · exact ⟨[], x, l, rfl, hx, by simp⟩
  obtain ⟨i, hi, hn⟩ := hS
  obtain ⟨r0, hr0, rfl⟩ := hp.all i hi
  obtain ⟨l1, r, l2, e1, e2, e3⟩ := first rs ⟨r0, hr0, hn⟩
  have hr : r ∈ rs := by rw [e1]; simp
  have h := hp.run
  rw [e1] at h
  obtain ⟨Da, h1, h2⟩ := drawAll_append _ _ _ _ h
  obtain ⟨D1, h3, _⟩ := drawAll_cons h2
  obtain ⟨hsub, _⟩ := drawStep_inv h3
  refine ⟨r.i, hp.lt hr, e2, fun o e ho he hb => ?_⟩
  have hoo : o = r.o := by have := (hp.ok r hr).op; rw [ho] at this; simpa using this
  subst hoo
  have := subMask_spec hsub _ (hp.edge r hr e he hb)
  rcases (done_spec l1 D0 Da h1 e.on).1 this with q | ⟨x, q1, q2⟩
  · rw [hp.d0, tb_zero] at q; simp at q
  · rw [← q2]; exact e3 x q1

/-- At the end. -/
theorem Inv.fin (hp : Pass P ih ops n n0 Wr B rs D0 Df) (hv : Inv P base ops n n0 rs D0 Df A σ0 W0 S σ W tm) (hall : ∀ i, i < ops.size → S i) : R P base σ Df.A W ∧ Ext A σ0 W0 Df.A σ W ∧ TR σ Df.t n tm := by
  obtain ⟨kk, G, hG, hR, hnx, hE, hacts⟩ := hv.gap
  have hlen : Df.gaps.length = Df.acts.length := gap_len rs D0 Df hp.run (by rw [hp.g0, hp.a0]; rfl)
  have hkk : kk = Df.gaps.length := by
    have h1 := (List.getElem?_eq_some_iff.1 hG).1
    simp only [gapsOf, List.length_reverse, List.length_cons] at h1
    rcases Nat.lt_or_ge kk Df.gaps.length with hlt | hge
    · obtain ⟨j, hj, hq⟩ := getElem?_acts (Df := Df) (pre := []) (acts := Df.acts) rfl (q := kk) (by omega)
      obtain ⟨pre, ea, ei⟩ := acts_ids rs D0 Df hp.run
      rw [hp.a0, List.append_nil] at ea
      rw [ea] at hj
      obtain ⟨x, q1, q2⟩ := ei j hj
      exact absurd ((hacts kk j hq).1 (by rw [← q2]; exact hall _ (hp.lt q1))) (Nat.lt_irrefl _)
    · omega
  have hGA : G = Df.A := by
    have := gapsOf_at (D := Df) (G := Df.A) (pre := []) (Df := Df) rfl
    rw [← hkk, hG] at this
    simpa using this
  subst hGA
  exact ⟨hR, hE, hv.size, fun x v hx => hv.done x v (fun r hr _ => hall _ (hp.lt hr)) hx⟩

theorem run_lin (hC : CallOK P base ih) (hY : YieldOK P base ih) (hp : Pass P ih ops n n0 Wr B rs D0 Df) (hn0 : A.nx = n0) (hlo : A.lo ≤ A.nx) (b : Frame) (ds : List Deferred) (k : List Item) (cs : List Frame) :
    ∀ (fuel t : Nat) (listed : Array Bool) (σ : Sg) (W : World) (tm : Array Value), listed.size = ops.size → (left ops.size listed).length ≤ fuel → Inv P base ops n n0 rs D0 Df A σ0 W0 (fun j => listed.getD j false = true) σ W tm →
    ∃ σ1 W1 tm1, R P base σ1 Df.A W1 ∧ Ext A σ0 W0 Df.A σ1 W1 ∧ TR σ1 Df.t n tm1 ∧
      Steps P (lone (atR b tm ds (.inRegion ops (Region.linearise.go .any ops fuel t listed []) :: k)) cs W) (lone (atR b tm1 ds (.inRegion ops [] :: k)) cs W1) := by
  intro fuel
  induction fuel with
  | zero =>
    intro t listed σ W tm hs hl hv
    have hall : ∀ i, i < ops.size → listed.getD i false = true := fun i hi => by
      cases hc : listed.getD i false with
      | true => rfl
      | false =>
        have : i ∈ left ops.size listed := by
          unfold left; rw [List.mem_filter]
          exact ⟨by simpa using hi, by rw [getD_tf hs hi, hc]; rfl⟩
        have := List.length_pos_of_mem this
        omega
    obtain ⟨h1, h2, h3⟩ := hv.fin hp hall
    exact ⟨σ, W, tm, h1, h2, h3, by simpa [Region.linearise.go] using Steps.refl _ _⟩
  | succ fuel IH =>
    intro t listed σ W tm hs hl hv
    have hmem : ∀ i, i ∈ Region.ready .any ops listed ↔ i < ops.size ∧ listed.getD i false = false ∧ ∀ o e, ops[i]? = some o → e ∈ o.after → Region.binds .any e = true → listed.getD e.on false = true := by
      intro i
      unfold Region.ready
      rw [List.mem_filter]
      simp only [List.mem_range, Bool.and_eq_true, Bool.not_eq_true']
      constructor
      · rintro ⟨hi, h1, h2⟩
        rw [getD_tf hs hi] at h1
        refine ⟨hi, h1, fun o e ho he hb => ?_⟩
        rw [ho] at h2
        simp only [Option.map_some, Option.getD_some] at h2
        rw [Array.all_eq_true_iff_forall_mem] at h2
        have := h2 e he
        rw [hb] at this; simpa using this
      · rintro ⟨hi, h1, h2⟩
        refine ⟨hi, by rw [getD_tf hs hi]; exact h1, ?_⟩
        rw [Array.getElem?_eq_getElem hi]
        simp only [Option.map_some, Option.getD_some]
        rw [Array.all_eq_true_iff_forall_mem]
        intro e he
        cases hb : Region.binds .any e with
        | false => rfl
        | true => rw [h2 _ e (Array.getElem?_eq_getElem hi) he hb]; rfl
    simp only [Region.linearise.go]
    change ∃ σ1 W1 tm1, R P base σ1 Df.A W1 ∧ Ext A σ0 W0 Df.A σ1 W1 ∧ TR σ1 Df.t n tm1 ∧
      Steps P (lone (atR b tm ds (.inRegion ops (match (Region.ready .any ops listed)[t % (Region.ready .any ops listed).length]? with
      | some i => Region.linearise.go .any ops fuel (t / (Region.ready .any ops listed).length) (listed.setIfInBounds i true) [i]
      | none => [].reverse) :: k)) cs W) _
    cases hi : (Region.ready .any ops listed)[t % (Region.ready .any ops listed).length]? with
    | none =>
      have hnil : Region.ready .any ops listed = [] := by
        cases hr : Region.ready .any ops listed with
        | nil => rfl
        | cons x xs =>
          rw [hr] at hi
          have hlt : t % (x :: xs).length < (x :: xs).length := Nat.mod_lt _ (by simp)
          simp at hi
          simp at hlt
          omega
      have hall : ∀ i, i < ops.size → listed.getD i false = true := fun i hi => by
        cases hc : listed.getD i false with
        | true => rfl
        | false =>
          obtain ⟨j, q1, q2, q3⟩ := hp.next (S := fun j => listed.getD j false = true) ⟨i, hi, by simp [hc]⟩
          have := (hmem j).2 ⟨q1, by simpa using q2, q3⟩
          rw [hnil] at this; simp at this
      obtain ⟨h1, h2, h3⟩ := hv.fin hp hall
      exact ⟨σ, W, tm, h1, h2, h3, Steps.refl _ _⟩
    | some i =>
      obtain ⟨hlt, hnot, hrd⟩ := (hmem i).1 (List.mem_of_getElem? hi)
      simp only []
      rw [linearise_go_acc, List.reverse_singleton, List.singleton_append]
      obtain ⟨σ1, W1, tm1, h1, h2⟩ := hv.step hC hY hp hn0 hlo hlt (by simp [hnot]) hrd b ds k cs (Region.linearise.go .any ops fuel (t / (Region.ready .any ops listed).length) (listed.setIfInBounds i true) [])
      have hS : (fun j => (listed.setIfInBounds i true).getD j false = true) = fun j => listed.getD j false = true ∨ j = i := by
        funext j; exact propext (listed_set hs hlt j)
      obtain ⟨σ2, W2, tm2, k1, k2, k3, k4⟩ := IH (t / (Region.ready .any ops listed).length) (listed.setIfInBounds i true) σ1 W1 tm1 (by simpa using hs) (by
        have : (left ops.size (listed.setIfInBounds i true)).length < (left ops.size listed).length := by
          unfold left
          refine filter_lt _ (by simpa using hlt) (by rw [getD_tf hs hlt, hnot]; rfl) ?_ (fun j hj => ?_)
          · rw [getD_tf (by simpa using hs) hlt, (listed_set hs hlt i).2 (.inr rfl)]; rfl
          · simp only [Array.getD_eq_getD_getElem?, Array.getElem?_setIfInBounds] at hj ⊢
            by_cases h : i = j
            · subst h; simp [hs, hlt] at hj
            · rw [if_neg h] at hj; exact hj
        omega) (by rw [hS]; exact h1)
      exact ⟨σ2, W2, tm2, k1, k2, k3, h2.trans k4⟩

end Go.Eng
