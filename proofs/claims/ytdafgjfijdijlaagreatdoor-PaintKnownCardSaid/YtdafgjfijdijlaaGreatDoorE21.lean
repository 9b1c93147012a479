/- Part of an abstract machine that runs the program's code in Lean's kernel, and of the proof that what it answers every run of the model answers (Go.Eng; program-independent). No condition. -/
import Derived.Test.YtdafgjfijdijlaaGreatDoorE20
namespace Go.Eng
open Go

variable {P : Program} {base : Nat} {σ : Sg} {A : AS} {W : World} {t : T Value} {n : Nat} {a : Act}

/-! What comes ahead of what. -/
theorem tb_eq (m i : Nat) : tb m i = m.testBit i := by
  unfold tb Nat.testBit
  show Nat.beq ((m >>> i) &&& 1) 1 = (1 &&& (m >>> i) != 0)
  rw [Nat.and_comm 1]
  have : (m >>> i) &&& 1 = 0 ∨ (m >>> i) &&& 1 = 1 := by
    rw [Nat.and_one_is_mod]; omega
  rcases this with h | h <;> rw [h] <;> rfl
theorem tb_zero (i : Nat) : tb 0 i = false := by rw [tb_eq]; simp
theorem tb_lor (m k i : Nat) : tb (Nat.lor m k) i = (tb m i || tb k i) := by
  rw [tb_eq, tb_eq, tb_eq]; exact Nat.testBit_or m k i
theorem tb_one (j i : Nat) : tb (Nat.shiftLeft 1 j) i = decide (j = i) := by
  rw [tb_eq]
  show (1 <<< j).testBit i = _
  rw [Nat.one_shiftLeft, Nat.testBit_two_pow]
theorem subMask_spec {m d : Nat} (h : subMask m d = true) (i : Nat) (hi : tb m i = true) : tb d i = true := by
  unfold subMask at h
  have h := Nat.eq_of_beq_eq_true h
  rw [tb_eq] at hi ⊢
  have : (m &&& d).testBit i = true := by rw [show m &&& d = m from h]; exact hi
  rw [Nat.testBit_and] at this
  simp at this; exact this.2

inductive Reach (ops : Array Oper) : Nat → Nat → Prop
  | edge {i : Nat} {o : Oper} {e : Edge} : ops[i]? = some o → e ∈ o.after → Region.binds .any e = true → Reach ops i e.on
  | trans {i : Nat} {o : Oper} {e : Edge} {j : Nat} : ops[i]? = some o → e ∈ o.after → Region.binds .any e = true → Reach ops e.on j → Reach ops i j

theorem getN_some {B : T Nat} {i j : Nat} (h : tb (getN B i) j = true) : ∃ m, B.get i = some m ∧ tb m j = true := by
  unfold getN at h
  split at h
  · rename_i m hm; exact ⟨m, hm, h⟩
  · rw [tb_zero] at h; simp at h

theorem befOf_spec {B : T Nat} : ∀ (l : List Edge) (m j : Nat), tb (befOf B l m) j = true → tb m j = true ∨ ∃ e ∈ l, Region.binds .any e = true ∧ (e.on = j ∨ tb (getN B e.on) j = true)
  | [], m, j, h => .inl h
  | e :: l, m, j, h => by
    simp only [befOf] at h
    cases hb : Region.binds .any e with
    | true =>
      rw [hb] at h
      simp only [cond_true] at h
      rcases befOf_spec l _ j h with q | ⟨e', q1, q2, q3⟩
      · rw [tb_lor, tb_lor, tb_one] at q
        simp only [Bool.or_eq_true, decide_eq_true_eq] at q
        rcases q with (q | q) | q
        · exact .inl q
        · exact .inr ⟨e, by simp, hb, .inl q⟩
        · exact .inr ⟨e, by simp, hb, .inr q⟩
      · exact .inr ⟨e', by simp [q1], q2, q3⟩
    | false =>
      rw [hb] at h
      simp only [cond_false] at h
      rcases befOf_spec l _ j h with q | ⟨e', q1, q2, q3⟩
      · exact .inl q
      · exact .inr ⟨e', by simp [q1], q2, q3⟩
theorem befOf_mono {B : T Nat} : ∀ (l : List Edge) (m j : Nat), tb m j = true → tb (befOf B l m) j = true
  | [], m, j, h => h
  | e :: l, m, j, h => by
    simp only [befOf]
    cases hb : Region.binds .any e with
    | true => simp only [cond_true]; exact befOf_mono l _ j (by rw [tb_lor, tb_lor, h]; simp)
    | false => simp only [cond_false]; exact befOf_mono l _ j h
theorem befOf_edge {B : T Nat} : ∀ (l : List Edge) (m : Nat) (e : Edge), e ∈ l → Region.binds .any e = true → tb (befOf B l m) e.on = true
  | [], m, e, h, _ => by simp at h
  | x :: l, m, e, h, hb => by
    simp only [befOf]
    rcases List.mem_cons.1 h with rfl | h
    · rw [hb]; simp only [cond_true]
      exact befOf_mono l _ _ (by rw [tb_lor, tb_lor, tb_one]; simp)
    · cases hx : Region.binds .any x with
      | true => simp only [cond_true]; exact befOf_edge l _ e h hb
      | false => simp only [cond_false]; exact befOf_edge l _ e h hb

/-- What a mask says is so. -/
def BOk (ops : Array Oper) (B : T Nat) : Prop := ∀ i j, tb (getN B i) j = true → Reach ops i j
theorem befs_ok {ops : Array Oper} : ∀ (l : List Oper) (i : Nat) (B : T Nat), (∀ k, l[k]? = ops[i + k]?) → BOk ops B → BOk ops (befs l i B)
  | [], i, B, _, h => h
  | o :: l, i, B, hl, h => by
    have ho : ops[i]? = some o := by simpa using (hl 0).symm
    simp only [befs]
    refine befs_ok l (i + 1) _ (fun k => by have := hl (k + 1); simpa [Nat.add_assoc, Nat.add_comm 1 k] using this) fun k j hk => ?_
    obtain ⟨m, hm, hj⟩ := getN_some hk
    rcases T.set_get _ _ _ _ _ hm with ⟨rfl, rfl⟩ | ⟨_, hm⟩
    · rcases befOf_spec _ _ _ hj with q | ⟨e, q1, q2, q3⟩
      · rw [tb_zero] at q; simp at q
      · have q1 : e ∈ o.after := by simpa using q1
        rcases q3 with rfl | q3
        · exact .edge ho q1 q2
        · exact .trans ho q1 q2 (h _ _ q3)
    · exact h k j (by unfold getN; rw [hm]; exact hj)
/-- And each edge that binds is in the mask. -/
theorem befs_edge : ∀ (l : List Oper) (i : Nat) (B : T Nat), i + l.length ≤ 2 ^ 60 → ∀ k o, l[k]? = some o → ∀ e ∈ o.after, Region.binds .any e = true → tb (getN (befs l i B) (i + k)) e.on = true
  | [], i, B, _, k, o, hk, e, he, hb => by simp at hk
  | x :: l, i, B, hlen, k, o, hk, e, he, hb => by
    simp only [List.length_cons] at hlen
    simp only [befs]
    cases k with
    | succ k =>
      have := befs_edge l (i + 1) (B.set i (befOf B x.after.toList 0)) (by omega) k o (by simpa using hk) e he hb
      rwa [show i + (k + 1) = i + 1 + k by omega]
    | zero =>
      simp at hk; subst hk
      have keep : ∀ (l : List Oper) (i' : Nat) (B' : T Nat) (m : Nat), i < i' → i' + l.length ≤ 2 ^ 60 → B'.get i = some m → (befs l i' B').get i = some m := by
        intro l
        induction l with
        | nil => intro i' B' m _ _ h; exact h
        | cons y l ih =>
          intro i' B' m h1 h2 h3
          simp only [List.length_cons] at h2
          simp only [befs]
          exact ih (i' + 1) _ m (by omega) (by omega) (by rw [T.set, T.put_at _ _ _ _ (by omega), if_neg (by omega)]; exact h3)
      have h0 : (B.set i (befOf B x.after.toList 0)).get i = some (befOf B x.after.toList 0) := by rw [T.set, T.put_at _ _ _ _ (by omega), if_pos rfl]
      have := keep l (i + 1) _ _ (by omega) (by omega) h0
      show tb (getN (befs l (i + 1) (B.set i (befOf B x.after.toList 0))) i) e.on = true
      unfold getN
      rw [this]
      exact befOf_edge _ _ _ (by simpa using he) hb

/-- Who writes a slot. -/
theorem writers_spec : ∀ (l : List Oper) (i : Nat) (W W' : T Nat), writers l i W = some W' →
    (∀ d w, W.get d = some w → W'.get d = some w) ∧ (∀ k o d, l[k]? = some o → o.dst = some d → d < 2 ^ 60 ∧ W'.get d = some (i + k))
  | [], i, W, W', h => by simp [writers] at h; subst h; exact ⟨fun _ _ h => h, by simp⟩
  | o :: l, i, W, W', h => by
    simp only [writers] at h
    cases hd : o.dst with
    | none =>
      simp only [hd] at h
      obtain ⟨h1, h2⟩ := writers_spec l (i + 1) W W' h
      refine ⟨h1, fun k o' d hk hd' => ?_⟩
      cases k with
      | zero => simp at hk; subst hk; rw [hd] at hd'; simp at hd'
      | succ k => have := h2 k o' d (by simpa using hk) hd'; exact ⟨this.1, by rw [this.2]; congr 1; omega⟩
    | some d0 =>
      simp only [hd] at h
      cases hb : Nat.blt d0 (2 ^ 60) with
      | false => rw [hb] at h; simp at h
      | true =>
        rw [hb] at h
        simp only [cond_true] at h
        have hlt : @LT.lt Nat _ d0 (2 ^ 60) := by simpa [Nat.blt, Nat.succ_le_iff] using hb
        have hlt2 : @LE.le Nat _ (d0 + 2) (2 ^ 64) := by omega
        split at h <;> try (simp at h; done)
        rename_i hnone
        obtain ⟨h1, h2⟩ := writers_spec l (i + 1) _ W' h
        have hset : ∀ x, (W.set d0 i).get x = if x = d0 then some i else W.get x := fun x => T.put_at _ _ _ _ hlt2
        refine ⟨fun x w hx => h1 x w ?_, fun k o' d hk hd' => ?_⟩
        · rw [hset]
          by_cases q : x = d0
          · subst q; rw [hnone] at hx; simp at hx
          · rw [if_neg q]; exact hx
        · cases k with
          | zero =>
            simp at hk; subst hk
            rw [hd] at hd'; simp at hd'; subst hd'
            exact ⟨hlt, h1 _ _ (by rw [hset, if_pos rfl]; simp)⟩
          | succ k => have := h2 k o' d (by simpa using hk) hd'; exact ⟨this.1, by rw [this.2]; congr 1; omega⟩

/-- What is known of each item of the pass. -/
structure RIOk (ops : Array Oper) (W B : T Nat) (r : RI) : Prop where
  op : ops[r.i]? = some r.o
  bef : r.bef = getN B r.i
  looks : r.looks = r.o.looksAt ops
  ok : lookOk W B r.bef r.i r.looks = true
theorem infos_spec {ops : Array Oper} {W B : T Nat} : ∀ (l : List Oper) (i : Nat) (rs : List RI), (∀ k, l[k]? = ops[i + k]?) → infos ops W B l i = some rs → ∀ r ∈ rs, RIOk ops W B r
  | [], i, rs, _, h => by simp [infos] at h; subst h; simp
  | o :: l, i, rs, hl, h => by
    simp only [infos] at h
    cases hok : lookOk W B (getN B i) i (o.looksAt ops) with
    | false => rw [hok] at h; simp at h
    | true =>
      rw [hok] at h
      simp only [cond_true] at h
      split at h <;> try (simp at h; done)
      rename_i r hr
      simp at h; subst h
      intro x hx
      rcases List.mem_cons.1 hx with rfl | hx
      · exact ⟨by simpa using (hl 0).symm, rfl, rfl, hok⟩
      · exact infos_spec l (i + 1) r (fun k => by have := hl (k + 1); simpa [Nat.add_assoc, Nat.add_comm 1 k] using this) hr x hx
theorem lookOk_spec {W B : T Nat} {bef i : Nat} : ∀ (l : List Tmp), lookOk W B bef i l = true → ∀ x ∈ l, ∀ j, W.get x = some j → tb bef j = true ∨ j = i ∨ tb (getN B j) i = true
  | [], _, x, hx, _, _ => by simp at hx
  | y :: l, h, x, hx, j, hj => by
    simp only [lookOk, Bool.and_eq_true] at h
    rcases List.mem_cons.1 hx with rfl | hx
    · have := h.1
      rw [hj] at this
      simp only [Bool.or_eq_true] at this
      rcases this with (q | q) | q
      · exact .inl q
      · exact .inr (.inl (Nat.eq_of_beq_eq_true q))
      · exact .inr (.inr q)
    · exact lookOk_spec l h.2 x hx j hj

/-! The pass's order takes nothing that was not there. -/
theorem takeReady_mem {act : Oper → Bool} : ∀ (l : List RI) (d : Nat), (∀ r ∈ (takeReady act l d).1, r ∈ l) ∧ (∀ r ∈ (takeReady act l d).2.1, r ∈ l)
  | [], d => by simp [takeReady]
  | x :: l, d => by
    simp only [takeReady]
    cases hc : (!act x.o && subMask x.bef d) with
    | true =>
      simp only [cond_true]
      have ih := takeReady_mem (act := act) l (Nat.lor d (Nat.shiftLeft 1 x.i))
      exact ⟨fun r hr => by rcases List.mem_cons.1 hr with rfl | hr; simp; exact List.mem_cons_of_mem _ (ih.1 r hr), fun r hr => List.mem_cons_of_mem _ (ih.2 r hr)⟩
    | false =>
      simp only [cond_false]
      have ih := takeReady_mem (act := act) l d
      exact ⟨fun r hr => List.mem_cons_of_mem _ (ih.1 r hr), fun r hr => by rcases List.mem_cons.1 hr with rfl | hr; simp; exact List.mem_cons_of_mem _ (ih.2 r hr)⟩
theorem takeAct_mem {act : Oper → Bool} : ∀ (l : List RI) (d : Nat) (x : RI) (m : List RI), takeAct act l d = some (x, m) → x ∈ l ∧ ∀ r ∈ m, r ∈ l
  | [], d, x, m, h => by simp [takeAct] at h
  | y :: l, d, x, m, h => by
    simp only [takeAct] at h
    cases hc : (act y.o && subMask y.bef d) with
    | true =>
      rw [hc] at h
      simp at h; obtain ⟨rfl, rfl⟩ := h
      exact ⟨by simp, fun r hr => List.mem_cons_of_mem _ hr⟩
    | false =>
      rw [hc] at h
      simp only [cond_false] at h
      split at h <;> try (simp at h; done)
      rename_i x' m' hx
      simp at h; obtain ⟨rfl, rfl⟩ := h
      obtain ⟨h1, h2⟩ := takeAct_mem l d _ _ hx
      exact ⟨List.mem_cons_of_mem _ h1, fun r hr => by rcases List.mem_cons.1 hr with rfl | hr; simp; exact List.mem_cons_of_mem _ (h2 r hr)⟩
theorem greedy_mem {act : Oper → Bool} : ∀ (f : Nat) (l : List RI) (d : Nat), ∀ r ∈ greedy act f l d, r ∈ l
  | 0, l, d, r, hr => by simpa [greedy] using hr
  | f + 1, l, d, r, hr => by
    have htr := takeReady_mem (act := act) l d
    simp only [greedy] at hr
    split at hr
    · rename_i rest d' hq
      rw [hq] at htr
      split at hr
      · rename_i x m hx
        obtain ⟨h1, h2⟩ := takeAct_mem _ _ _ _ hx
        rcases List.mem_cons.1 hr with rfl | hr
        · exact htr.2 _ h1
        · exact htr.2 _ (h2 _ (greedy_mem f m _ r hr))
      · exact htr.2 _ hr
    · rename_i a rest d' hne hq
      rw [hq] at htr
      rcases List.mem_append.1 hr with hr | hr
      · exact htr.1 _ hr
      · exact htr.2 _ (greedy_mem f rest _ r hr)

theorem restrict_spec (t : T Value) : ∀ (l : List Tmp) (x : Tmp) (v : Value), (restrictTo t l).get x = some v → x ∈ l ∧ t.get x = some v
  | [], x, v, h => by simp [restrictTo, T.get_leaf] at h
  | y :: l, x, v, h => by
    simp only [restrictTo] at h
    split at h
    · rename_i u hu
      rcases T.set_get _ _ _ _ _ h with ⟨rfl, rfl⟩ | ⟨_, h⟩
      · exact ⟨by simp, hu⟩
      · have := restrict_spec t l x v h
        exact ⟨List.mem_cons_of_mem _ this.1, this.2⟩
    · have := restrict_spec t l x v h
      exact ⟨List.mem_cons_of_mem _ this.1, this.2⟩

end Go.Eng
