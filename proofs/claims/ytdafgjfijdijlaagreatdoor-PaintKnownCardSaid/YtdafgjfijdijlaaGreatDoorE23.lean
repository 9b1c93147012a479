/- Part of an abstract machine that runs the program's code in Lean's kernel, and of the proof that what it answers every run of the model answers (Go.Eng; program-independent). No condition. -/
import Derived.Test.YtdafgjfijdijlaaGreatDoorE22
namespace Go.Eng
open Go

variable {P : Program} {base : Nat} {ih : Task → Out} {ops : Array Oper} {n n0 : Nat}

mutual
theorem beqV_eq : ∀ (v w : Value), beqV v w = true → v = w
  | .bool a, w, h => by cases w <;> simp [beqV] at h; rw [h]
  | .int j a, w, h => by cases w <;> simp [beqV] at h; rw [h.1, h.2]
  | .string a, w, h => by cases w <;> simp [beqV] at h; rw [h]
  | .pointer a, w, h => by cases w <;> simp [beqV] at h; rw [h]
  | .slice a l c, w, h => by
    cases w <;> simp [beqV] at h
    obtain ⟨⟨h1, h2⟩, h3⟩ := h
    rw [h1, h2, h3]
  | .map a, w, h => by cases w <;> simp [beqV] at h; rw [h]
  | .nilFunc, w, h => by cases w <;> simp [beqV] at h; rfl
  | .nilIface, w, h => by cases w <;> simp [beqV] at h; rfl
  | .func f ⟨a⟩ ⟨b⟩, w, h => by
    cases w <;> try (simp [beqV] at h; done)
    rename_i g c d
    obtain ⟨c⟩ := c
    obtain ⟨d⟩ := d
    simp only [beqV, Bool.and_eq_true, decide_eq_true_eq] at h
    rw [h.1.1, beqVs_eq a c h.1.2, beqVs_eq b d h.2]
  | .iface s v, w, h => by
    cases w <;> try (simp [beqV] at h; done)
    rename_i t u
    simp only [beqV, Bool.and_eq_true] at h
    rw [Nat.eq_of_beq_eq_true h.1, beqV_eq v u h.2]
  | .agg ⟨l⟩, w, h => by
    cases w <;> try (simp [beqV] at h; done)
    rename_i m
    obtain ⟨m⟩ := m
    simp only [beqV] at h
    rw [beqVs_eq l m h]
  | .tuple ⟨l⟩, w, h => by
    cases w <;> try (simp [beqV] at h; done)
    rename_i m
    obtain ⟨m⟩ := m
    simp only [beqV] at h
    rw [beqVs_eq l m h]
  | .float _ _, w, h => by cases w <;> simp [beqV] at h
  | .complex _ _ _, w, h => by cases w <;> simp [beqV] at h
  | .chan _, w, h => by cases w <;> simp [beqV] at h
theorem beqVs_eq : ∀ (l m : List Value), beqVs l m = true → l = m
  | [], [], _ => rfl
  | [], _ :: _, h => by simp [beqVs] at h
  | _ :: _, [], h => by simp [beqVs] at h
  | v :: l, w :: m, h => by
    simp only [beqVs, Bool.and_eq_true] at h
    rw [beqV_eq v w h.1, beqVs_eq l m h.2]
end

/-- The states at the gaps, the first first. -/
def gapsOf (D : Dr) : List AS := (D.A :: D.gaps).reverse
def actsOf (D : Dr) : List Nat := D.acts.reverse

theorem gap_len : ∀ (l : List RI) (D D' : Dr), drawAll P ih ops n n0 l D = some D' → D.gaps.length = D.acts.length → D'.gaps.length = D'.acts.length
  | [], D, D', h, e => by simp [drawAll] at h; subst h; exact e
  | r :: l, D, D', h, e => by
    obtain ⟨D1, h1, h2⟩ := drawAll_cons h
    obtain ⟨_, _, w, u, _, _, _, hk⟩ := drawStep_inv h1
    refine gap_len l D1 D' h2 ?_
    cases hk with
    | skip _ _ g a => rw [g, a, e]
    | act _ _ _ _ g a => rw [g, a]; simp [e]
    | make _ _ _ _ _ _ g a => rw [g, a, e]
    | look _ _ _ _ g a => rw [g, a, e]

theorem drawAll_one {r : RI} {D D1 : Dr} (h1 : drawStep P ih ops n n0 r D = some D1) : drawAll P ih ops n n0 [r] D = some D1 := by
  unfold drawAll; rw [h1]; rfl

/-- The gap that is now open, at its end. -/
theorem gap_R : ∀ (l : List RI) (D Df : Dr), drawAll P ih ops n n0 l D = some Df → D.gaps.length = D.acts.length →
    ∃ G pre preA, Df.A :: Df.gaps = pre ++ G :: D.gaps ∧ Df.acts = preA ++ D.acts ∧ preA.length = pre.length ∧
      ∀ σ W, R P base σ D.A W → (∀ r ∈ l, makesMem r.o = true → actAfter D.acts r.bef = true → σ (n0 + r.i) = none ∧ n0 + r.i < D.A.nx) → R P base σ G W ∧ Ext D.A σ W G σ W ∧ G.nx = D.A.nx
  | [], D, Df, h, _ => by simp [drawAll] at h; subst h; exact ⟨D.A, [], [], rfl, rfl, rfl, fun σ W h _ => ⟨h, Ext.refl _ _ _, rfl⟩⟩
  | r :: l, D, Df, h, hlen => by
    obtain ⟨D1, h1, h2⟩ := drawAll_cons h
    obtain ⟨_, _, w, u, _, _, _, hk⟩ := drawStep_inv h1
    have hlen1 : D1.gaps.length = D1.acts.length := gap_len [r] D D1 (drawAll_one h1) hlen
    obtain ⟨G, pre, preA, e1, e2, e3, e4⟩ := gap_R l D1 Df h2 hlen1
    cases hk with
    | skip _ hA g a =>
      rw [g] at e1; rw [a] at e2 e4; rw [hA] at e4
      exact ⟨G, pre, preA, e1, e2, e3, fun σ W hR hm => e4 σ W hR fun r' hr' => hm r' (by simp [hr'])⟩
    | look _ _ _ hA g a =>
      rw [g] at e1; rw [a] at e2 e4; rw [hA] at e4
      exact ⟨G, pre, preA, e1, e2, e3, fun σ W hR hm => e4 σ W hR fun r' hr' => hm r' (by simp [hr'])⟩
    | act _ _ _ _ g a =>
      rw [g] at e1; rw [a] at e2
      exact ⟨D.A, pre ++ [G], preA ++ [r.i], by simp [e1], by simp [e2], by simp [e3], fun σ W hR _ => ⟨hR, Ext.refl _ _ _, rfl⟩⟩
    | make hmk _ haft _ _ hA g a =>
      rw [g] at e1; rw [a] at e2 e4
      refine ⟨G, pre, preA, e1, e2, e3, fun σ W hR hm => ?_⟩
      obtain ⟨q1, q2⟩ := hR.put_none (o := _) (hm r (by simp) hmk haft).1 (hm r (by simp) hmk haft).2
      rw [hA] at e4
      obtain ⟨k1, k2, k3⟩ := e4 σ W q1 fun r' hr' => hm r' (by simp [hr'])
      exact ⟨k1, q2.trans k2, k3⟩

theorem gapsOf_at {Df D : Dr} {G : AS} {pre : List AS} (h : Df.A :: Df.gaps = pre ++ G :: D.gaps) : (gapsOf Df)[D.gaps.length]? = some G := by
  unfold gapsOf
  rw [h]
  simp
theorem actsOf_at {Df : Dr} {i : Nat} {pre acts : List Nat} (h : Df.acts = pre ++ i :: acts) : (actsOf Df)[acts.length]? = some i := by
  unfold actsOf
  rw [h]
  simp

/-- A maker's block is what it was, as long as no act waited for it. -/
theorem mk_keep {B : T Nat} {i : Nat} {ob : AObj} : ∀ (l : List RI) (D Df : Dr), drawAll P ih ops n n0 l D = some Df → D.gaps.length = D.acts.length → (∀ r ∈ l, r.i ≠ i ∧ r.bef = getN B r.i) → i ∈ D.mks →
    (∀ o, D.A.h.get (n0 + i) = some o → o = ob) → ∀ k G, D.acts.length ≤ k → (gapsOf Df)[k]? = some G →
    (∃ q j, q < k ∧ (actsOf Df)[q]? = some j ∧ tb (getN B j) i = true) ∨ ∀ o, G.h.get (n0 + i) = some o → o = ob
  | [], D, Df, h, hlen, _, _, hob, k, G, hk, hG => by
    simp [drawAll] at h; subst h
    refine .inr ?_
    have hlt := (List.getElem?_eq_some_iff.1 hG).1
    simp [gapsOf] at hlt
    have hk' : k = D.gaps.length := by omega
    subst hk'
    rw [gapsOf_at (pre := []) (by rfl)] at hG
    simp at hG; subst hG; exact hob
  | r :: l, D, Df, h, hlen, hr, hi, hob, k, G, hk, hG => by
    obtain ⟨D1, h1, h2⟩ := drawAll_cons h
    obtain ⟨_, _, w, u, _, _, _, hkd⟩ := drawStep_inv h1
    have hlen1 : D1.gaps.length = D1.acts.length := gap_len [r] D D1 (drawAll_one h1) hlen
    have hr' : ∀ x ∈ l, x.i ≠ i ∧ x.bef = getN B x.i := fun x hx => hr x (by simp [hx])
    cases hkd with
    | skip _ hA g a m => exact mk_keep l D1 Df h2 hlen1 hr' (by rw [m]; exact hi) (by rw [hA]; exact hob) k G (by rw [a]; exact hk) hG
    | look _ _ _ hA g a m => exact mk_keep l D1 Df h2 hlen1 hr' (by rw [m]; exact hi) (by rw [hA]; exact hob) k G (by rw [a]; exact hk) hG
    | make _ _ _ _ _ hA g a m =>
      refine mk_keep l D1 Df h2 hlen1 hr' (by rw [m]; simp [hi]) (fun o ho => ?_) k G (by rw [a]; exact hk) hG
      rw [hA] at ho
      rcases T.set_get _ _ _ _ _ ho with ⟨q, _⟩ | ⟨_, q⟩
      · exact absurd (by omega) (hr r (by simp)).1
      · exact hob o q
    | act haft hhide hop hA g a m =>
      obtain ⟨G', pre, preA, e1, e2, e3, _⟩ := gap_R (base := 0) l D1 Df h2 hlen1
      rw [g] at e1; rw [a] at e2
      rcases Nat.lt_or_ge D.acts.length k with hlt | hge
      · cases ht : tb r.bef i with
        | true =>
          refine .inl ⟨D.acts.length, r.i, hlt, actsOf_at e2, ?_⟩
          rw [← (hr r (by simp)).2]; exact ht
        | false =>
          have hin : i ∈ D.mks.filter (fun i => !tb r.bef i) := by simp [hi, ht]
          refine mk_keep l D1 Df h2 hlen1 hr' (by rw [m]; exact hin) (fun o ho => ?_) k G (by rw [a]; simp; omega) hG
          rw [hA] at ho
          obtain ⟨_, _, _, s4, s5⟩ := hide_spec _ _ _ _ hhide
          obtain ⟨_, _, u3⟩ := unhide_spec _ _
          rcases u3 _ _ ho with q | ⟨q, _⟩
          · exact hob o (s4 _ _ q).1
          · obtain ⟨o', ho'⟩ := s5 i hin; exact absurd ho' (q o')
      · have hkk : k = D.gaps.length := by omega
        subst hkk
        rw [gapsOf_at (D := D) (G := D.A) (pre := pre ++ [G']) (by rw [e1]; simp)] at hG
        simp at hG; subst hG
        exact .inr hob

/-- What sameAt says, gap by gap. -/
theorem sameAt_spec {B : T Nat} {r : RI} {tr : T Value} {v : Value} : ∀ (gaps : List AS) (acts : List Nat), gaps.length = acts.length + 1 → sameAt P tr B r v gaps acts = true →
    ∀ (k : Nat) (G : AS), gaps.reverse[k]? = some G → (∃ q j : Nat, q < k ∧ acts.reverse[q]? = some j ∧ tb (getN B j) r.i = true) ∨ (∃ q j : Nat, k ≤ q ∧ acts.reverse[q]? = some j ∧ tb r.bef j = true) ∨ sameHere P tr r.o v G = true
  | [], acts, hl, _, k, G, hG => by simp at hG
  | A :: gaps, acts, hl, h, k, G, hG => by
    simp only [sameAt, Bool.and_eq_true, Bool.or_eq_true] at h
    have hlast : k < gaps.length ∨ k = gaps.length := by
      have := (List.getElem?_eq_some_iff.1 hG).1
      simp at this; omega
    rcases hlast with hlt | rfl
    · -- an earlier gap
      have hG' : gaps.reverse[k]? = some G := by
        simp only [List.reverse_cons] at hG
        rwa [List.getElem?_append_left (by simpa using hlt)] at hG
      cases acts with
      | nil => simp at hl; subst hl; simp at hlt
      | cons j acts' =>
        simp only [List.length_cons] at hl
        have h2 := h.2
        simp only at h2
        have h2 := Bool.or_eq_true_iff.1 h2
        rcases h2 with h2 | h2
        · refine .inr (.inl ⟨acts'.length, j, by omega, ?_, h2⟩)
          simp
        · rcases sameAt_spec gaps acts' (by omega) h2 k G hG' with ⟨q, j', q1, q2, q3⟩ | ⟨q, j', q1, q2, q3⟩ | q
          · exact .inl ⟨q, j', q1, by
              simp only [List.reverse_cons]
              rw [List.getElem?_append_left (by have := (List.getElem?_eq_some_iff.1 q2).1; exact this)]; exact q2, q3⟩
          · exact .inr (.inl ⟨q, j', q1, by
              simp only [List.reverse_cons]
              rw [List.getElem?_append_left (by have := (List.getElem?_eq_some_iff.1 q2).1; exact this)]; exact q2, q3⟩)
          · exact .inr (.inr q)
    · have hGA : G = A := by
        simp only [List.reverse_cons] at hG
        rw [List.getElem?_append_right (by simp)] at hG
        simp at hG; exact hG.symm
      subst hGA
      rcases h.1 with h1 | h1
      · obtain ⟨j, hj, hjt⟩ := List.any_eq_true.1 h1
        obtain ⟨q, hq⟩ := List.getElem?_of_mem (List.mem_reverse.2 hj)
        exact .inl ⟨q, j, by have := (List.getElem?_eq_some_iff.1 hq).1; simp at this; simp only [List.length_cons] at hl; omega, hq, hjt⟩
      · exact .inr (.inr h1)

/-- Looks are kept. -/
theorem looks_keep : ∀ (l : List RI) (D Df : Dr), drawAll P ih ops n n0 l D = some Df → ∀ x ∈ D.looks, x ∈ Df.looks
  | [], D, Df, h, x, hx => by simp [drawAll] at h; subst h; exact hx
  | r :: l, D, Df, h, x, hx => by
    obtain ⟨D1, h1, h2⟩ := drawAll_cons h
    obtain ⟨_, _, w, u, _, _, _, hk⟩ := drawStep_inv h1
    refine looks_keep l D1 Df h2 x ?_
    cases hk with
    | skip _ _ _ _ _ lk => rw [lk]; exact hx
    | act _ _ _ _ _ _ _ lk => rw [lk]; exact hx
    | make _ _ _ _ _ _ _ _ _ lk => rw [lk]; exact hx
    | look _ _ _ _ _ _ _ lk => rw [lk]; exact List.mem_cons_of_mem _ hx

/-- A block of a maker is found where it lies. -/
theorem R.map_new {σ : Sg} {A : AS} {W W1 : World} {b : Nat} {m : Im} {o' : Obj} (h : R P base σ A W) (hb : σ b = none) (hlt : b < A.nx) (hlo : A.lo ≤ b) (hW : W1.heap = W.heap.push o') (hm : m.c = W.heap.size)
    (ho : ∀ o, A.h.get b = some o → OR σ m o o') : R P base (σ.add b m) A W1 := by
  have hle : σ.le (σ.add b m) := Sg.le_add hb
  have hin : ∀ x o1 m', A.h.get x = some o1 → σ x = some m' → m'.c < W.heap.size := fun x o1 m' e1 e2 => by
    obtain ⟨o2, e3, _⟩ := h.live x o1 m' e1 e2
    exact (Array.getElem?_eq_some_iff.1 e3).1
  have hin' : ∀ x m', (A.h.get x).isSome → σ x = some m' → m'.c < W.heap.size := fun x m' e1 e2 => by
    obtain ⟨o1, q⟩ := Option.isSome_iff_exists.1 e1; exact hin x o1 m' q e2
  refine ⟨fun x o m' e1 e2 => ?_, fun x x' m1 m2 l1 l2 e1 e2 hc => ?_, fun x hx => ?_, fun g hg => ?_, fun x m' e hl => ?_, fun x m' e hl => ?_, ?_, h.lonx, h.dom⟩
  · by_cases hx : x = b
    · subst hx
      rw [Sg.add_at] at e2; obtain rfl := Option.some.inj e2
      exact ⟨o', by rw [hW, hm]; simp, (ho o e1).mono hle⟩
    · rw [Sg.add_ne _ _ _ hx] at e2
      obtain ⟨o2, e3, e4⟩ := h.live x o m' e1 e2
      exact ⟨o2, by rw [hW, Array.getElem?_push, if_neg (by have := (Array.getElem?_eq_some_iff.1 e3).1; omega)]; exact e3, e4.mono hle⟩
  · by_cases hx : x = b <;> by_cases hx' : x' = b
    · rw [hx, hx']
    · subst hx
      rw [Sg.add_at] at e1; obtain rfl := Option.some.inj e1
      rw [Sg.add_ne _ _ _ hx'] at e2
      have := hin' x' m2 l2 e2; omega
    · subst hx'
      rw [Sg.add_at] at e2; obtain rfl := Option.some.inj e2
      rw [Sg.add_ne _ _ _ hx] at e1
      have := hin' x m1 l1 e1; omega
    · rw [Sg.add_ne _ _ _ hx] at e1; rw [Sg.add_ne _ _ _ hx'] at e2
      exact h.inj _ _ _ _ l1 l2 e1 e2 hc
  · rw [Sg.add_ne _ _ _ (by omega)]; exact h.fresh x hx
  · obtain ⟨m', e1, e2, e3⟩ := h.glob g hg
    exact ⟨m', hle _ _ e1, e2, e3⟩
  · by_cases hx : x = b
    · rw [hx, Sg.add_at] at e; obtain rfl := Option.some.inj e; rw [hm]; exact h.base_le
    · rw [Sg.add_ne _ _ _ hx] at e; exact h.high x m' e hl
  · rw [Sg.add_ne _ _ _ (by omega)] at e; exact h.low x m' e hl
  · rw [hW, Array.size_push]; exact Nat.le_succ_of_le h.base_le

end Go.Eng
