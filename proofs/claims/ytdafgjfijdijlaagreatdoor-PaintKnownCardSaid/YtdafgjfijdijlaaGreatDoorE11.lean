/- Part of an abstract machine that runs the program's code in Lean's kernel, and of the proof that what it answers every run of the model answers (Go.Eng; program-independent). No condition. -/
import Derived.Test.YtdafgjfijdijlaaGreatDoorE10
namespace Go.Eng
open Go

variable {P : Program} {base : Nat} {σ : Sg} {A : AS} {W : World} {t : T Value} {n : Nat} {a : Act}

/-! Numbers, fast. -/
theorem kEq_eq {a b : IntKind} (h : kEq a b = true) : a = b := by cases a <;> cases b <;> first | rfl | (simp [kEq, kNo] at h)
theorem wrap_def (k : IntKind) (n : Int) : k.wrap n = if k.signed = true ∧ n % (2 ^ k.bits : Int) ≥ (2 ^ (k.bits - 1) : Int) then n % (2 ^ k.bits : Int) - (2 ^ k.bits : Int) else n % (2 ^ k.bits : Int) := by
  unfold IntKind.wrap; simp only [Bool.and_eq_true, decide_eq_true_eq]
theorem wrap_lo {k : IntKind} {n : Int} (h1 : n % (2 ^ k.bits : Int) = n) (h2 : ¬ (k.signed = true ∧ n ≥ (2 ^ (k.bits - 1) : Int))) : k.wrap n = n := by rw [wrap_def, h1, if_neg h2]
theorem wrap_ng {k : IntKind} {n : Int} (hs : k.signed = true) (h1 : n % (2 ^ k.bits : Int) = n + (2 ^ k.bits : Int)) (h2 : n + (2 ^ k.bits : Int) ≥ (2 ^ (k.bits - 1) : Int)) : k.wrap n = n := by
  rw [wrap_def, h1, if_pos ⟨hs, h2⟩]; omega
theorem fastWrap_eq (k : IntKind) (n : Int) : fastWrap k n = k.wrap n := by
  cases n with
  | ofNat m =>
    simp only [fastWrap]
    cases hq : Nat.blt m (kTop k) with
    | false => simp
    | true =>
      have : m < kTop k := by simpa [Nat.blt, Nat.succ_le_iff] using hq
      simp only [cond_true]
      refine (wrap_lo ?_ ?_).symm
      · cases k <;> simp only [kTop] at this <;> simp only [IntKind.bits, Int.ofNat_eq_natCast] <;> omega
      · rintro ⟨a, b⟩
        revert a b
        cases k <;> simp only [kTop] at this <;> simp only [IntKind.bits, IntKind.signed, Int.ofNat_eq_natCast] <;> intro a b <;> first | omega | simp at a
  | negSucc m =>
    simp only [fastWrap]
    cases hq : (Nat.blt (kNo k) 4 && Nat.blt m (kTop k)) with
    | false => simp
    | true =>
      simp only [Bool.and_eq_true] at hq
      have h1 : kNo k < 4 := by simpa [Nat.blt, Nat.succ_le_iff] using hq.1
      have h2 : m < kTop k := by simpa [Nat.blt, Nat.succ_le_iff] using hq.2
      simp only [cond_true]
      have hn := Int.negSucc_eq m
      generalize Int.negSucc m = n at hn
      refine (wrap_ng ?_ ?_ ?_).symm
      · cases k <;> simp only [kNo] at h1 <;> first | rfl | omega
      · cases k <;> simp only [kNo] at h1 <;> (try omega) <;> simp only [kTop] at h2 <;> simp only [IntKind.bits] <;> omega
      · cases k <;> simp only [kNo] at h1 <;> (try omega) <;> simp only [kTop] at h2 <;> simp only [IntKind.bits] <;> omega
theorem addI_eq (a b : Int) : addI a b = a + b := by cases a <;> cases b <;> rfl
theorem mulI_eq (a b : Int) : mulI a b = a * b := by cases a <;> cases b <;> rfl
theorem subI_eq (a b : Int) : subI a b = a - b := by
  cases a with
  | negSucc m => cases b <;> rfl
  | ofNat m =>
    cases b with
    | negSucc k => rfl
    | ofNat k =>
      simp only [subI]
      cases hq : Nat.ble k m with
      | true =>
        have := Nat.le_of_ble_eq_true hq
        simp only [cond_true, Nat.sub_eq, Int.ofNat_eq_natCast]
        omega
      | false =>
        have : ¬ k ≤ m := fun h => by rw [Nat.ble_eq_true_of_le h] at hq; simp at hq
        simp only [cond_false, Nat.sub_eq, Int.ofNat_eq_natCast]
        omega
theorem eqI_eq (a b : Int) : eqI a b = (a == b) := by
  have h : ∀ x y : Nat, Nat.beq x y = decide (x = y) := fun x y => by
    by_cases e : x = y
    · subst e; simp
    · have : Nat.beq x y = false := by cases q : Nat.beq x y with | false => rfl | true => exact absurd (Nat.eq_of_beq_eq_true q) e
      simp [this, e]
  cases a <;> cases b <;> simp only [eqI, h] <;> (rw [Bool.eq_iff_iff]; simp) <;> omega
theorem ltI_eq (a b : Int) : ltI a b = decide (a < b) := by
  have h : ∀ x y : Nat, Nat.blt x y = decide (x < y) := fun x y => by
    by_cases e : x < y
    · simp [e, Nat.blt, Nat.ble_eq_true_of_le (Nat.succ_le_of_lt e)]
    · have : Nat.blt x y = false := by cases q : Nat.blt x y with | false => rfl | true => exact absurd (by simpa [Nat.blt, Nat.succ_le_iff] using q) e
      simp [this, e]
  cases a <;> cases b <;> simp only [ltI, h] <;> simp <;> omega

theorem fastShr_sound {u v r : Value} (h : fastShr u v = some r) (ty : TypeId) (x y : Operand) (W : World) :
    closedV r = true ∧ ((do eqGuard .shr ty x y u v; binOp .shr ty u v) : Sem Value).run P W = .ok r W := by
  unfold fastShr at h
  split at h <;> try (simp at h; done)
  rename_i k a k' m
  cases hm : Nat.ble m 7 with
  | false => rw [hm] at h; simp at h
  | true =>
  rw [hm] at h
  simp at h
  subst h
  have hm := Nat.le_of_ble_eq_true hm
  refine ⟨rfl, ?_⟩
  have hg : eqGuard .shr ty x y (.int k (Int.ofNat a)) (.int k' (Int.ofNat m)) = pure () := rfl
  have hb : min (Int.ofNat m).toNat k.bits = m := by
    have : 8 ≤ k.bits := by cases k <;> decide
    simp; omega
  have hd : (Int.ofNat a).fdiv (2 ^ m) = ((a / 2 ^ m : Nat) : Int) := by
    rw [Int.fdiv_eq_ediv_of_nonneg _ (by exact Int.le_of_lt (Int.pow_pos (by decide)))]
    simp
  have hs : Op.shift .shr k (Int.ofNat a) k' (Int.ofNat m) = pure (.int k ((a / 2 ^ m : Nat) : Int)) := by
    unfold Op.shift
    rw [if_neg (by simp), hb]
    simp only [hd]
  simp only [hg, binOp, hs]
  rfl

theorem fastBin0_sound {op : BinOp} {u v r : Value} (h : fastBin0 op u v = some r) (ty : TypeId) (x y : Operand) (W : World) :
    closedV r = true ∧ ((do eqGuard op ty x y u v; binOp op ty u v) : Sem Value).run P W = .ok r W := by
  unfold fastBin0 at h
  split at h <;> try (simp at h; done)
  rename_i k i
  split at h <;> try (simp at h; done)
  rename_i k' j
  cases hk : kEq k k' with
  | false => rw [hk] at h; simp at h
  | true =>
  rw [hk] at h
  obtain rfl := kEq_eq hk
  simp only [cond_true, fastWrap_eq, addI_eq, subI_eq, mulI_eq, eqI_eq, ltI_eq] at h
  have hg : ∀ op, eqGuard op ty x y (.int k i) (.int k j) = pure () := by intro op; cases op <;> rfl
  cases op <;> simp at h <;> subst h <;> refine ⟨rfl, ?_⟩ <;> simp [hg, binOp, Op.intArith, Op.intCmp, bne]
  · by_cases q : j < i <;> simp [q] <;> omega
  · by_cases q : i < j <;> simp [q] <;> omega

theorem fastBin_sound {op : BinOp} {u v r : Value} (h : fastBin op u v = some r) (ty : TypeId) (x y : Operand) (W : World) :
    closedV r = true ∧ ((do eqGuard op ty x y u v; binOp op ty u v) : Sem Value).run P W = .ok r W := by
  unfold fastBin at h
  split at h
  · exact fastShr_sound h ty x y W
  · exact fastBin0_sound h ty x y W

/-! Comparisons of places. -/
theorem run_frozen_no {c o : Nat} {cs : Array Value} {e : TypeId} (h : W.heap[c]? = some (.cells cs e (0, 0))) (s : Option Nat) : W.frozen? ⟨c, o, s⟩ = false := by simp [World.frozen?, h]
theorem run_noView {c o : Nat} {cs : Array Value} {e : TypeId} {fz : Nat × Nat} (h : W.heap[c]? = some (.cells cs e fz)) : (noView ⟨c, o, none⟩).run P W = .ok () W := by
  simp [noView, viewAt, shape, Sem.run, World.shape?, h]
theorem run_sameAddr_ne {c c' o o' : Nat} {cs cs' : Array Value} {e e' : TypeId} (h : W.heap[c]? = some (.cells cs e (0, 0))) (h' : W.heap[c']? = some (.cells cs' e' (0, 0))) (hne : c ≠ c') :
    (sameAddr ⟨c, o, none⟩ ⟨c', o', none⟩).run P W = .ok false W := by
  have f1 : ∀ o s, W.frozen? ⟨c, o, s⟩ = false := fun o s => run_frozen_no h s
  have f2 : ∀ o s, W.frozen? ⟨c', o, s⟩ = false := fun o s => run_frozen_no h' s
  have hb : (c == c') = false := by simpa using hne
  simp [sameAddr, hb, frozen, Sem.run, f1, run_noView h, run_noView h', mayBeOne, stringish, shape, World.shape?, h, h', f2]
theorem run_sameAddr_eq {c o o' : Nat} : (sameAddr ⟨c, o, none⟩ ⟨c, o', none⟩).run P W = .ok (decide (o = o')) W := by
  simp [sameAddr]
  by_cases h : o = o' <;> simp [h]

theorem eqPtr_sound {ty : TypeId} {x y x' y' : Value} {b : Bool} (h : R P base σ A W) (hx : VR σ x x') (hy : VR σ y y') (e : aEqPtr P ty A x y = some b) (d : Nat) :
    (∃ p q, x' = .pointer p ∧ y' = .pointer q) ∧ (Op.equalIn (d + 1) ty x' y').run P W = .ok b W := by
  unfold aEqPtr at e
  split at e <;> try (simp at e; done)
  rename_i bb o bb' o' el hu
  split at e <;> try (simp at e; done)
  rename_i k hk
  cases hx with
  | atom q => simp [atomV] at q
  | @ptr _ _ m hm =>
  cases hy with
  | atom q => simp [atomV] at q
  | @ptr _ _ m' hm' =>
  refine ⟨⟨_, _, rfl, rfl⟩, ?_⟩
  have hrun : (Op.equalIn (d + 1) ty (.pointer (some ⟨m.c, o + m.δ, none⟩)) (.pointer (some ⟨m'.c, o' + m'.δ, none⟩))).run P W = (sameAddr ⟨m.c, o + m.δ, none⟩ ⟨m'.c, o' + m'.δ, none⟩).run P W := by
    simp [Op.equalIn, run_underlying ty hu, run_sizeOf el hk]
  rw [hrun]
  cases hq : Nat.beq bb bb' with
  | true =>
    rw [hq] at e
    simp only [cond_true, Option.some.injEq] at e
    obtain rfl := Nat.eq_of_beq_eq_true hq
    rw [hm] at hm'; obtain rfl := Option.some.inj hm'
    rw [run_sameAddr_eq]
    subst e
    congr 1
    by_cases ho : o = o'
    · subst ho; simp
    · have : Nat.beq o o' = false := by cases q : Nat.beq o o' with | false => rfl | true => exact absurd (Nat.eq_of_beq_eq_true q) ho
      rw [this]; simp; omega
  | false =>
    rw [hq] at e
    simp only [cond_false] at e
    split at e <;> try (simp at e; done)
    rename_i g1 g2
    simp at e; subst e
    obtain ⟨_, w1, c1, fz1, rfl, _, _, _, _, _, z1, _⟩ := h.live _ _ _ g1 hm
    obtain ⟨_, w2, c2, fz2, rfl, _, _, _, _, _, z2, _⟩ := h.live _ _ _ g2 hm'
    obtain rfl := z1 rfl
    obtain rfl := z2 rfl
    refine run_sameAddr_ne w1 w2 fun hc => ?_
    have := h.inj _ _ _ _ (by rw [g1]; rfl) (by rw [g2]; rfl) hm hm' hc
    subst this; simp at hq

theorem equal_no {ty : TypeId} {x y : Value} {W : World} (h : ∀ d, (Op.equalIn (d + 1) ty x y).run P W = .ok false W) : (Op.equal ty x y).run P W = .ok false W := h 9999
theorem equal_at {ty : TypeId} {x y : Value} {W : World} {b : Bool} (h : ∀ d, (Op.equalIn (d + 2) ty x y).run P W = .ok b W) : (Op.equal ty x y).run P W = .ok b W := h 9998

theorem equalIn_iface {d : Nat} {ty s : TypeId} {u u' : Value} {ms : Array (String × TypeId)} {inf : TypeInfo} (hu : P.underlying ty = some (.interface ms)) (hinf : P.info? s = some inf) (hcm : inf.comparable = true) (W : World) :
    (Op.equalIn (d + 1) ty (.iface s u) (.iface s u')).run P W = (Op.equalIn d s u u').run P W := by
  simp [Op.equalIn, run_underlying ty hu, run_typeInfo s hinf, hcm]

theorem eqNil_sound {ty : TypeId} {x y x' y' : Value} {b : Bool} (h : R P base σ A W) (hx : VR σ x x') (hy : VR σ y y') (e : aEqNil P ty A x y = some b) :
    (∀ op z w, (eqGuard op ty z w x' y').run P W = .ok () W) ∧ (binOp .eql ty x' y').run P W = .ok (.bool b) W ∧ (binOp .neq ty x' y').run P W = .ok (.bool (!b)) W := by
  unfold aEqNil at e
  split at e <;> try (simp at e; done)
  rename_i d hu
  split at e
  · rename_i b' hb'
    simp at e; subst e
    unfold eqNilT at hb'
    split at hb' <;> (try (simp at hb'; done)) <;> simp at hb' <;> subst hb'
    all_goals
      cases hx <;> first | (rename_i q; simp [atomV] at q; done) | skip
      all_goals
        cases hy <;> first | (rename_i q; simp [atomV] at q; done) | skip
        all_goals
          refine ⟨fun op z w => ?_, ?_, ?_⟩
          · cases op <;> rfl
          · simp only [binOp, Sem.run_bind]
            rw [equal_no]
            · rfl
            · intro d; rw [Op.equalIn]; simp only [Sem.run_bind, run_underlying ty hu, Result.andThen_ok]; rfl
          · simp only [binOp, Sem.run_bind]
            rw [equal_no]
            · rfl
            · intro d; rw [Op.equalIn]; simp only [Sem.run_bind, run_underlying ty hu, Result.andThen_ok]; rfl
  · split at e
    · rename_i ms s v s' v' hnone
      cases hx with
      | atom q => simp [atomV] at q
      | @iface _ _ u hv =>
      cases hy with
      | atom q => simp [atomV] at q
      | @iface _ _ u' hv' =>
      have hg : ∀ op z w, (eqGuard op ty z w (.iface s u) (.iface s' u')).run P W = .ok () W := fun op z w => by cases op <;> rfl
      cases hq : Nat.beq s s' with
      | false =>
        rw [hq] at e; simp at e; subst e
        have hne : ¬ s = s' := by rintro rfl; simp at hq
        refine ⟨hg, ?_, ?_⟩
        · simp only [binOp, Sem.run_bind]
          rw [equal_no]
          · rfl
          · intro d; rw [Op.equalIn]; simp only [Sem.run_bind, run_underlying ty hu, Result.andThen_ok]; rw [if_pos hne]; rfl
        · simp only [binOp, Sem.run_bind]
          rw [equal_no]
          · rfl
          · intro d; rw [Op.equalIn]; simp only [Sem.run_bind, run_underlying ty hu, Result.andThen_ok]; rw [if_pos hne]; rfl
      | true =>
        rw [hq] at e
        simp only [cond_true] at e
        obtain rfl := Nat.eq_of_beq_eq_true hq
        split at e <;> try (simp at e; done)
        rename_i inf hinf
        cases hcm : inf.comparable with
        | false => rw [hcm] at e; simp at e
        | true =>
        rw [hcm] at e
        simp only [cond_true] at e
        have q2 := fun d => (eqPtr_sound h hv hv' e d).2
        have q3 : (Op.equal ty (.iface s u) (.iface s u')).run P W = .ok b W := equal_at fun d => by
          rw [equalIn_iface hu hinf hcm]
          exact q2 d
        refine ⟨hg, ?_, ?_⟩ <;> simp [binOp, q3]
    · obtain ⟨⟨p, q, rfl, rfl⟩, q2⟩ := eqPtr_sound h hx hy e 9999
      have q2 : (Op.equal ty (.pointer p) (.pointer q)).run P W = .ok b W := q2
      refine ⟨fun op z w => by cases op <;> rfl, ?_, ?_⟩ <;> simp [binOp, q2]

theorem bin_sound {o : Oper} {op : BinOp} {ty yty : TypeId} {x y : Operand} {r : ANext} {A1 : AS} (ho : o.op = .binOp op ty x y yty) (h : R P base σ A W) (ht : TR σ t n a.tmps) (he : xBin P o op ty x y t A = some (r, A1)) :
    OpSim P base σ A W ((execOp a.eval o).run P W) r A1 := by
  unfold xBin binV at he
  split at he <;> try (simp at he; done)
  rename_i u v hu hv
  have hu' := eval_sound h ht hu
  have hv' := eval_sound h ht hv
  split at he
  · rename_i w hw
    simp at he; obtain ⟨rfl, rfl⟩ := he
    have hcc : closedV u = true ∧ closedV v = true := by
      unfold fastBin at hw
      split at hw
      · unfold fastShr at hw
        split at hw <;> first | exact ⟨rfl, rfl⟩ | simp at hw
      · unfold fastBin0 at hw
        split at hw <;> try (simp at hw; done)
        split at hw <;> first | exact ⟨rfl, rfl⟩ | simp at hw
    have hcu := hcc.1
    have hcv := hcc.2
    have eu := hu'.eq_of_closed hcu
    have ev := hv'.eq_of_closed hcv
    obtain ⟨c1, c2⟩ := fastBin_sound (P := P) hw ty x y W
    refine sim_value (v' := w) h ?_ (closed_VR σ w c1)
    simp only [execOp, ho, eu, ev, Sem.run_bind] at c2 ⊢
    rw [c2]; simp
  · unfold binSlow at he
    split at he
    · split at he
      · rename_i b hb
        simp at he; obtain ⟨rfl, rfl⟩ := he
        obtain ⟨g1, g2, g3⟩ := eqNil_sound h hu' hv' hb
        exact sim_value (v' := .bool b) h (by simp [execOp, ho, g1, g2]) (.atom rfl)
      · exact pure_sound (by rw [ho]; simp) h ht he
    · split at he
      · rename_i b hb
        simp at he; obtain ⟨rfl, rfl⟩ := he
        obtain ⟨g1, g2, g3⟩ := eqNil_sound h hu' hv' hb
        exact sim_value (v' := .bool (!b)) h (by simp [execOp, ho, g1, g3]) (.atom rfl)
      · exact pure_sound (by rw [ho]; simp) h ht he
    · exact pure_sound (by rw [ho]; simp) h ht he

end Go.Eng
