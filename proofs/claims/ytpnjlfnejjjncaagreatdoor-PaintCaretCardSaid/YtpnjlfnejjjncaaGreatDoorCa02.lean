/- Part of an abstract machine that runs the program's code in Lean's kernel, and of the proof that what it answers every run of the model answers (Go.Eng; program-independent). No condition. -/
import Derived.Test.YtpnjlfnejjjncaaGreatDoorCa01
import Derived.Laws.BytesString
import Derived.Laws.Cover4
import Derived.Control
set_option linter.unusedVariables false
set_option linter.unusedSimpArgs false
set_option linter.unusedSectionVars false
namespace Go.Eng
open Go
variable [Env]

variable {P : Program} {base : Nat} {σ : Sg} {A : AS} {W : World} {t : T Value} {n : Nat} {a : Act}

/-! Numbers, fast. -/
theorem kEq_eq {a b : IntKind} (h : kEq a b = true) : a = b := by cases a <;> cases b <;> first | rfl | (simp [kEq, kNo] at h)
theorem wrap_def (k : IntKind) (n : Int) : k.wrap n = if k.signed = true ∧ n % (2 ^ k.bits : Int) ≥ (2 ^ (k.bits - 1) : Int) then n % (2 ^ k.bits : Int) - (2 ^ k.bits : Int) else n % (2 ^ k.bits : Int) := by
  unfold IntKind.wrap; simp only [Bool.and_eq_true, decide_eq_true_eq]
theorem wrap_lo {k : IntKind} {n : Int} (h1 : n % (2 ^ k.bits : Int) = n) (h2 : ¬ (k.signed = true ∧ n ≥ (2 ^ (k.bits - 1) : Int))) : k.wrap n = n := by rw [wrap_def, h1, if_neg h2]
theorem wrap_ng {k : IntKind} {n : Int} (hs : k.signed = true) (h1 : n % (2 ^ k.bits : Int) = n + (2 ^ k.bits : Int)) (h2 : n + (2 ^ k.bits : Int) ≥ (2 ^ (k.bits - 1) : Int)) : k.wrap n = n := by
  rw [wrap_def, h1, if_pos ⟨hs, h2⟩]; omega
theorem fastWrap_eq (k : IntKind) (n : Int) : fastWrap k n = k.wrap n := by
  cases n with
  | ofNat m =>
    simp only [fastWrap]
    cases hq : Nat.blt m (kTop k) with
    | false => simp
    | true =>
      have : m < kTop k := by simpa [Nat.blt, Nat.succ_le_iff] using hq
      simp only [cond_true]
      refine (wrap_lo ?_ ?_).symm
      · cases k <;> simp only [kTop] at this <;> simp only [IntKind.bits, Int.ofNat_eq_natCast] <;> omega
      · rintro ⟨a, b⟩
        revert a b
        cases k <;> simp only [kTop] at this <;> simp only [IntKind.bits, IntKind.signed, Int.ofNat_eq_natCast] <;> intro a b <;> first | omega | simp at a
  | negSucc m =>
    simp only [fastWrap]
    cases hq : (Nat.blt (kNo k) 4 && Nat.blt m (kTop k)) with
    | false => simp
    | true =>
      simp only [Bool.and_eq_true] at hq
      have h1 : kNo k < 4 := by simpa [Nat.blt, Nat.succ_le_iff] using hq.1
      have h2 : m < kTop k := by simpa [Nat.blt, Nat.succ_le_iff] using hq.2
      simp only [cond_true]
      have hn := Int.negSucc_eq m
      generalize Int.negSucc m = n at hn
      refine (wrap_ng ?_ ?_ ?_).symm
      · cases k <;> simp only [kNo] at h1 <;> first | rfl | omega
      · cases k <;> simp only [kNo] at h1 <;> (try omega) <;> simp only [kTop] at h2 <;> simp only [IntKind.bits] <;> omega
      · cases k <;> simp only [kNo] at h1 <;> (try omega) <;> simp only [kTop] at h2 <;> simp only [IntKind.bits] <;> omega
theorem addI_eq (a b : Int) : addI a b = a + b := by cases a <;> cases b <;> rfl
theorem mulI_eq (a b : Int) : mulI a b = a * b := by cases a <;> cases b <;> rfl
theorem subI_eq (a b : Int) : subI a b = a - b := by
  cases a with
  | negSucc m => cases b <;> rfl
  | ofNat m =>
    cases b with
    | negSucc k => rfl
    | ofNat k =>
      simp only [subI]
      cases hq : Nat.ble k m with
      | true =>
        have := Nat.le_of_ble_eq_true hq
        simp only [cond_true, Nat.sub_eq, Int.ofNat_eq_natCast]
        omega
      | false =>
        have : ¬ k ≤ m := fun h => by rw [Nat.ble_eq_true_of_le h] at hq; simp at hq
        simp only [cond_false, Nat.sub_eq, Int.ofNat_eq_natCast]
        omega
theorem eqI_eq (a b : Int) : eqI a b = (a == b) := by
  have h : ∀ x y : Nat, Nat.beq x y = decide (x = y) := fun x y => by
    by_cases e : x = y
    · subst e; simp
    · have : Nat.beq x y = false := by cases q : Nat.beq x y with | false => rfl | true => exact absurd (Nat.eq_of_beq_eq_true q) e
      simp [this, e]
  cases a <;> cases b <;> simp only [eqI, h] <;> (rw [Bool.eq_iff_iff]; simp) <;> omega
theorem ltI_eq (a b : Int) : ltI a b = decide (a < b) := by
  have h : ∀ x y : Nat, Nat.blt x y = decide (x < y) := fun x y => by
    by_cases e : x < y
    · simp [e, Nat.blt, Nat.ble_eq_true_of_le (Nat.succ_le_of_lt e)]
    · have : Nat.blt x y = false := by cases q : Nat.blt x y with | false => rfl | true => exact absurd (by simpa [Nat.blt, Nat.succ_le_iff] using q) e
      simp [this, e]
  cases a <;> cases b <;> simp only [ltI, h] <;> simp <;> omega

theorem fastShr_sound {u v r : Value} (h : fastShr u v = some r) (ty : TypeId) (x y : Operand) (W : World) :
    closedV r = true ∧ ((do eqGuard .shr ty x y u v; binOp .shr ty u v) : Sem Value).run P W = .ok r W := by
  unfold fastShr at h
  split at h <;> try (simp at h; done)
  rename_i k a k' m
  cases hm : Nat.ble m 7 with
  | false => rw [hm] at h; simp at h
  | true =>
  rw [hm] at h
  simp at h
  subst h
  have hm := Nat.le_of_ble_eq_true hm
  refine ⟨rfl, ?_⟩
  have hg : eqGuard .shr ty x y (.int k (Int.ofNat a)) (.int k' (Int.ofNat m)) = pure () := rfl
  have hb : min (Int.ofNat m).toNat k.bits = m := by
    have : 8 ≤ k.bits := by cases k <;> decide
    simp; omega
  have hd : (Int.ofNat a).fdiv (2 ^ m) = ((a / 2 ^ m : Nat) : Int) := by
    rw [Int.fdiv_eq_ediv_of_nonneg _ (by exact Int.le_of_lt (Int.pow_pos (by decide)))]
    simp
  have hs : Op.shift .shr k (Int.ofNat a) k' (Int.ofNat m) = pure (.int k ((a / 2 ^ m : Nat) : Int)) := by
    unfold Op.shift
    rw [if_neg (by simp), hb]
    simp only [hd]
  simp only [hg, binOp, hs]
  rfl

theorem fastBin0_sound {op : BinOp} {u v r : Value} (h : fastBin0 op u v = some r) (ty : TypeId) (x y : Operand) (W : World) :
    closedV r = true ∧ ((do eqGuard op ty x y u v; binOp op ty u v) : Sem Value).run P W = .ok r W := by
  unfold fastBin0 at h
  split at h <;> try (simp at h; done)
  rename_i k i
  split at h <;> try (simp at h; done)
  rename_i k' j
  cases hk : kEq k k' with
  | false => rw [hk] at h; simp at h
  | true =>
  rw [hk] at h
  obtain rfl := kEq_eq hk
  simp only [cond_true, fastWrap_eq, addI_eq, subI_eq, mulI_eq, eqI_eq, ltI_eq] at h
  have hg : ∀ op, eqGuard op ty x y (.int k i) (.int k j) = pure () := by intro op; cases op <;> rfl
  cases op <;> simp at h <;> subst h <;> refine ⟨rfl, ?_⟩ <;> simp [hg, binOp, Op.intArith, Op.intCmp, bne]
  · by_cases q : j < i <;> simp [q] <;> omega
  · by_cases q : i < j <;> simp [q] <;> omega

theorem fastBin_sound {op : BinOp} {u v r : Value} (h : fastBin op u v = some r) (ty : TypeId) (x y : Operand) (W : World) :
    closedV r = true ∧ ((do eqGuard op ty x y u v; binOp op ty u v) : Sem Value).run P W = .ok r W := by
  unfold fastBin at h
  split at h
  · exact fastShr_sound h ty x y W
  · exact fastBin0_sound h ty x y W

/-! Comparisons of places. -/
theorem run_frozen_no {c o : Nat} {cs : Array Value} {e : TypeId} (h : W.heap[c]? = some (.cells cs e (0, 0))) (s : Option Nat) : W.frozen? ⟨c, o, s⟩ = false := by simp [World.frozen?, h]
theorem run_noView {c o : Nat} {cs : Array Value} {e : TypeId} {fz : Nat × Nat} (h : W.heap[c]? = some (.cells cs e fz)) : (noView ⟨c, o, none⟩).run P W = .ok () W := by
  simp [noView, viewAt, shape, Sem.run, World.shape?, h]
theorem run_sameAddr_ne {c c' o o' : Nat} {cs cs' : Array Value} {e e' : TypeId} (h : W.heap[c]? = some (.cells cs e (0, 0))) (h' : W.heap[c']? = some (.cells cs' e' (0, 0))) (hne : c ≠ c') :
    (sameAddr ⟨c, o, none⟩ ⟨c', o', none⟩).run P W = .ok false W := by
  have f1 : ∀ o s, W.frozen? ⟨c, o, s⟩ = false := fun o s => run_frozen_no h s
  have f2 : ∀ o s, W.frozen? ⟨c', o, s⟩ = false := fun o s => run_frozen_no h' s
  have hb : (c == c') = false := by simpa using hne
  simp [sameAddr, hb, frozen, Sem.run, f1, run_noView h, run_noView h', mayBeOne, stringish, shape, World.shape?, h, h', f2]
theorem run_sameAddr_eq {c o o' : Nat} : (sameAddr ⟨c, o, none⟩ ⟨c, o', none⟩).run P W = .ok (decide (o = o')) W := by
  simp [sameAddr]
  by_cases h : o = o' <;> simp [h]

theorem eqPtr_sound {ty : TypeId} {x y x' y' : Value} {b : Bool} (h : R P base σ A W) (hx : VR σ x x') (hy : VR σ y y') (e : aEqPtr P ty A x y = some b) (d : Nat) :
    (∃ p q, x' = .pointer p ∧ y' = .pointer q) ∧ (Op.equalIn (d + 1) ty x' y').run P W = .ok b W := by
  unfold aEqPtr at e
  split at e <;> try (simp at e; done)
  rename_i bb o bb' o' el hu
  split at e <;> try (simp at e; done)
  rename_i k hk
  cases hx with
  | atom q => simp [atomV] at q
  | @ptr _ _ m hm =>
  cases hy with
  | atom q => simp [atomV] at q
  | @ptr _ _ m' hm' =>
  refine ⟨⟨_, _, rfl, rfl⟩, ?_⟩
  have hrun : (Op.equalIn (d + 1) ty (.pointer (some ⟨m.c, o + m.δ, none⟩)) (.pointer (some ⟨m'.c, o' + m'.δ, none⟩))).run P W = (sameAddr ⟨m.c, o + m.δ, none⟩ ⟨m'.c, o' + m'.δ, none⟩).run P W := by
    simp [Op.equalIn, run_underlying ty hu, run_sizeOf el hk]
  rw [hrun]
  cases hq : Nat.beq bb bb' with
  | true =>
    rw [hq] at e
    simp only [cond_true, Option.some.injEq] at e
    obtain rfl := Nat.eq_of_beq_eq_true hq
    rw [hm] at hm'; obtain rfl := Option.some.inj hm'
    rw [run_sameAddr_eq]
    subst e
    congr 1
    by_cases ho : o = o'
    · subst ho; simp
    · have : Nat.beq o o' = false := by cases q : Nat.beq o o' with | false => rfl | true => exact absurd (Nat.eq_of_beq_eq_true q) ho
      rw [this]; simp; omega
  | false =>
    rw [hq] at e
    simp only [cond_false] at e
    split at e <;> try (simp at e; done)
    rename_i g1 g2
    simp at e; subst e
    obtain ⟨_, w1, c1, fz1, rfl, _, _, _, _, _, z1, _⟩ := h.live _ _ _ g1 hm
    obtain ⟨_, w2, c2, fz2, rfl, _, _, _, _, _, z2, _⟩ := h.live _ _ _ g2 hm'
    obtain rfl := z1 rfl
    obtain rfl := z2 rfl
    refine run_sameAddr_ne w1 w2 fun hc => ?_
    have := h.inj _ _ _ _ (by rw [g1]; rfl) (by rw [g2]; rfl) hm hm' hc
    subst this; simp at hq

theorem equal_no {ty : TypeId} {x y : Value} {W : World} (h : ∀ d, (Op.equalIn (d + 1) ty x y).run P W = .ok false W) : (Op.equal ty x y).run P W = .ok false W := h 9999
theorem equal_at {ty : TypeId} {x y : Value} {W : World} {b : Bool} (h : ∀ d, (Op.equalIn (d + 2) ty x y).run P W = .ok b W) : (Op.equal ty x y).run P W = .ok b W := h 9998

theorem equalIn_iface {d : Nat} {ty s : TypeId} {u u' : Value} {ms : Array (String × TypeId)} {inf : TypeInfo} (hu : P.underlying ty = some (.interface ms)) (hinf : P.info? s = some inf) (hcm : inf.comparable = true) (W : World) :
    (Op.equalIn (d + 1) ty (.iface s u) (.iface s u')).run P W = (Op.equalIn d s u u').run P W := by
  simp [Op.equalIn, run_underlying ty hu, run_typeInfo s hinf, hcm]

set_option maxHeartbeats 2000000 in
theorem eqNil_sound {ty : TypeId} {x y x' y' : Value} {b : Bool} (h : R P base σ A W) (hx : VR σ x x') (hy : VR σ y y') (e : aEqNil P ty A x y = some b) :
    (∀ op z w, (eqGuard op ty z w x' y').run P W = .ok () W) ∧ (binOp .eql ty x' y').run P W = .ok (.bool b) W ∧ (binOp .neq ty x' y').run P W = .ok (.bool (!b)) W := by
  unfold aEqNil at e
  split at e <;> try (simp at e; done)
  rename_i d hu
  split at e
  · rename_i b' hb'
    simp at e; subst e
    unfold eqNilT at hb'
    split at hb' <;> (try (simp at hb'; done)) <;> simp at hb' <;> subst hb'
    all_goals
      cases hx <;> first | (rename_i q; simp [atomV] at q; done) | skip
      all_goals
        cases hy <;> first | (rename_i q; simp [atomV] at q; done) | skip
        all_goals
          refine ⟨fun op z w => ?_, ?_, ?_⟩
          · cases op <;> rfl
          · simp only [binOp, Sem.run_bind]
            rw [equal_no]
            · rfl
            · intro d; rw [Op.equalIn]; simp only [Sem.run_bind, run_underlying ty hu, Result.andThen_ok]; rfl
          · simp only [binOp, Sem.run_bind]
            rw [equal_no]
            · rfl
            · intro d; rw [Op.equalIn]; simp only [Sem.run_bind, run_underlying ty hu, Result.andThen_ok]; rfl
  · split at e
    · rename_i ms s v s' v' hnone
      cases hx with
      | atom q => simp [atomV] at q
      | @iface _ _ u hv =>
      cases hy with
      | atom q => simp [atomV] at q
      | @iface _ _ u' hv' =>
      have hg : ∀ op z w, (eqGuard op ty z w (.iface s u) (.iface s' u')).run P W = .ok () W := fun op z w => by cases op <;> rfl
      cases hq : Nat.beq s s' with
      | false =>
        rw [hq] at e; simp at e; subst e
        have hne : ¬ s = s' := by rintro rfl; simp at hq
        refine ⟨hg, ?_, ?_⟩
        · simp only [binOp, Sem.run_bind]
          rw [equal_no]
          · rfl
          · intro d; rw [Op.equalIn]; simp only [Sem.run_bind, run_underlying ty hu, Result.andThen_ok]; rw [if_pos hne]; rfl
        · simp only [binOp, Sem.run_bind]
          rw [equal_no]
          · rfl
          · intro d; rw [Op.equalIn]; simp only [Sem.run_bind, run_underlying ty hu, Result.andThen_ok]; rw [if_pos hne]; rfl
      | true =>
        rw [hq] at e
        simp only [cond_true] at e
        obtain rfl := Nat.eq_of_beq_eq_true hq
        split at e <;> try (simp at e; done)
        rename_i inf hinf
        cases hcm : inf.comparable with
        | false => rw [hcm] at e; simp at e
        | true =>
        rw [hcm] at e
        simp only [cond_true] at e
        have q2 := fun d => (eqPtr_sound h hv hv' e d).2
        have q3 : (Op.equal ty (.iface s u) (.iface s u')).run P W = .ok b W := equal_at fun d => by
          rw [equalIn_iface hu hinf hcm]
          exact q2 d
        refine ⟨hg, ?_, ?_⟩ <;> simp [binOp, q3]
    · obtain ⟨⟨p, q, rfl, rfl⟩, q2⟩ := eqPtr_sound h hx hy e 9999
      have q2 : (Op.equal ty (.pointer p) (.pointer q)).run P W = .ok b W := q2
      refine ⟨fun op z w => by cases op <;> rfl, ?_, ?_⟩ <;> simp [binOp, q2]

theorem bin_sound {o : Oper} {op : BinOp} {ty yty : TypeId} {x y : Operand} {r : ANext} {A1 : AS} (ho : o.op = .binOp op ty x y yty) (h : R P base σ A W) (ht : TR σ t n a.tmps) (he : xBin P o op ty x y t A = some (r, A1)) :
    OpSim P base σ A W ((execOp a.eval o).run P W) r A1 := by
  unfold xBin binV at he
  split at he <;> try (simp at he; done)
  rename_i u v hu hv
  have hu' := eval_sound h ht hu
  have hv' := eval_sound h ht hv
  split at he
  · rename_i w hw
    simp at he; obtain ⟨rfl, rfl⟩ := he
    have hcc : closedV u = true ∧ closedV v = true := by
      unfold fastBin at hw
      split at hw
      · unfold fastShr at hw
        split at hw <;> first | exact ⟨rfl, rfl⟩ | simp at hw
      · unfold fastBin0 at hw
        split at hw <;> try (simp at hw; done)
        split at hw <;> first | exact ⟨rfl, rfl⟩ | simp at hw
    have hcu := hcc.1
    have hcv := hcc.2
    have eu := hu'.eq_of_closed hcu
    have ev := hv'.eq_of_closed hcv
    obtain ⟨c1, c2⟩ := fastBin_sound (P := P) hw ty x y W
    refine sim_value (v' := w) h ?_ (closed_VR σ w c1)
    simp only [execOp, ho, eu, ev, Sem.run_bind] at c2 ⊢
    rw [c2]; simp
  · unfold binSlow at he
    split at he
    · split at he
      · rename_i b hb
        simp at he; obtain ⟨rfl, rfl⟩ := he
        obtain ⟨g1, g2, g3⟩ := eqNil_sound h hu' hv' hb
        exact sim_value (v' := .bool b) h (by simp [execOp, ho, g1, g2]) (.atom rfl)
      · exact pure_sound (by rw [ho]; simp) h ht he
    · split at he
      · rename_i b hb
        simp at he; obtain ⟨rfl, rfl⟩ := he
        obtain ⟨g1, g2, g3⟩ := eqNil_sound h hu' hv' hb
        exact sim_value (v' := .bool (!b)) h (by simp [execOp, ho, g1, g3]) (.atom rfl)
      · exact pure_sound (by rw [ho]; simp) h ht he
    · exact pure_sound (by rw [ho]; simp) h ht he

end Go.Eng

namespace Go.Eng
open Go
variable [Env]

variable {P : Program} {base : Nat} {σ : Sg} {A : AS} {W : World} {t : T Value} {n : Nat} {a : Act}

/-! Cells that a slice or a string gives. -/
theorem aLen_sound {x x' : Value} {k : Nat} (hx : VR σ x x') (h : aLen x = some k) (W : World) : (Builtin.lenOf x').run P W = .ok k W := by
  unfold aLen at h
  split at h <;> simp at h <;> subst h
  · cases hx with
    | atom q => rfl
    | slice => rfl
  · cases hx with
    | atom q => rfl
theorem cells_sound {x x' : Value} {k size : Nat} {l : List Value} (h : R P base σ A W) (hx : VR σ x x') (hlen : ∀ len, aLen x = some len → k ≤ len) (e : aCells size k x A = some l) :
    ∃ l', (Builtin.firstCells size k x').run P W = .ok ⟨l'⟩ W ∧ VRs σ l l' := by
  unfold aCells at e
  split at e <;> try (simp at e; done)
  · cases hq : Nat.beq k 0 with
    | false => rw [hq] at e; simp at e
    | true =>
    rw [hq] at e
    simp at e; subst e
    cases hx with
    | atom q => exact ⟨[], rfl, .nil⟩
  · rename_i b off len cap
    split at e <;> try (simp at e; done)
    rename_i tr sz z u el fz hg
    cases hq : Nat.ble (off + k * size) sz with
    | false => rw [hq] at e; simp at e
    | true =>
    rw [hq] at e
    simp only [cond_true] at e
    have hq := Nat.le_of_ble_eq_true hq
    have hk : k ≤ len := hlen len rfl
    cases hx with
    | atom q => simp [atomV] at q
    | @slice _ _ o' _ _ cap' m hb d1 d2 d3 d4 =>
    obtain ⟨l', e1, e2, e3⟩ := h.cells hg hb hq e
    refine ⟨l', ?_, e1⟩
    have hload := run_loadCellsFrom_at (P := P) m.c o' l' 0 #[] W (fun j v hv => by
      have := e3 j v hv
      have hpos : 0 < l'.length := by
        have := (List.getElem?_eq_some_iff.1 hv).1; omega
      have hk0 : 0 < k := by
        rcases Nat.eq_zero_or_pos k with q | q
        · rw [q, Nat.zero_mul] at e2; omega
        · exact q
      have : o' = off + m.δ := by rcases d4 with d4 | d4 <;> omega
      subst this
      simpa using e3 j v hv)
    rw [e2] at hload
    simpa [Builtin.firstCells, loadCells] using hload
  · rename_i s
    cases hq : (Nat.beq size 1 && Nat.ble k s.size) with
    | false => rw [hq] at e; simp at e
    | true =>
    rw [hq] at e
    simp at e; subst e
    have : x' = .string s := hx.eq_of_closed rfl
    subst this
    refine ⟨((s.data.toList.take k).map fun b => Value.int .u8 b.toNat), ?_, ?_⟩
    · simp only [Builtin.firstCells, Sem.run_pure]
      congr 1
      apply Array.toList_inj.1
      have : (s.extract 0 k).data.toList = s.data.toList.take k := by
        rw [ByteArray.data_extract]; simp
      simp [this]
    · rw [← List.map_take]
      apply closed_VRs
      generalize s.data.toList.take k = bs
      induction bs with
      | nil => rfl
      | cons b bs ih => simp [closedVs, closedV, ih]

theorem aCells_length {x : Value} {k size : Nat} {l : List Value} (e : aCells size k x A = some l) : l.length = k * size := by
  unfold aCells at e
  split at e <;> try (simp at e; done)
  · cases hq : Nat.beq k 0 with
    | false => rw [hq] at e; simp at e
    | true =>
      rw [hq] at e
      simp at e; subst e
      have := Nat.eq_of_beq_eq_true hq
      subst this; simp
  · split at e <;> try (simp at e; done)
    rename_i b off len cap q0 tr sz z u el fz hg
    cases hq : Nat.ble (off + k * size) sz with
    | false => rw [hq] at e; simp at e
    | true => rw [hq] at e; exact (T.take_spec _ _ _ _ e).1
  · rename_i s
    cases hq : (Nat.beq size 1 && Nat.ble k s.size) with
    | false => rw [hq] at e; simp at e
    | true =>
    rw [hq] at e
    simp only [Bool.and_eq_true] at hq
    have h1 := Nat.eq_of_beq_eq_true hq.1
    have h2 := Nat.le_of_ble_eq_true hq.2
    simp at e; subst e
    have : s.data.toList.length = s.size := rfl
    simp at this ⊢
    subst h1; omega

theorem bytesOf_spec : ∀ {l : List Value} {ns : List Int}, bytesOf l = some ns → l = ns.map (Value.int .u8)
  | [], ns, h => by simp [bytesOf] at h; subst h; rfl
  | .int .u8 k :: l, ns, h => by
    simp only [bytesOf] at h
    split at h <;> try (simp at h; done)
    rename_i r hr
    simp at h; subst h
    simp [bytesOf_spec hr]
  | .int .i8 _ :: _, ns, h | .int .i16 _ :: _, ns, h | .int .i32 _ :: _, ns, h | .int .i64 _ :: _, ns, h | .int .u16 _ :: _, ns, h | .int .u32 _ :: _, ns, h | .int .u64 _ :: _, ns, h => by simp [bytesOf] at h
  | .bool _ :: _, ns, h | .float _ _ :: _, ns, h | .complex _ _ _ :: _, ns, h | .string _ :: _, ns, h | .pointer _ :: _, ns, h | .slice _ _ _ :: _, ns, h | .map _ :: _, ns, h | .chan _ :: _, ns, h
  | .func _ _ _ :: _, ns, h | .nilFunc :: _, ns, h | .iface _ _ :: _, ns, h | .nilIface :: _, ns, h | .agg _ :: _, ns, h | .tuple _ :: _, ns, h => by simp [bytesOf] at h
theorem closed_bytes : ∀ ns : List Int, closedVs (ns.map (Value.int .u8)) = true
  | [] => rfl
  | k :: ns => by simp [closedVs, closedV, closed_bytes ns]
theorem runesOf_spec : ∀ {l : List Value} {ns : List Int}, runesOf l = some ns → l = ns.map (Value.int .i32)
  | [], ns, h => by simp [runesOf] at h; subst h; rfl
  | .int .i32 k :: l, ns, h => by
    simp only [runesOf] at h
    split at h <;> try (simp at h; done)
    rename_i r hr
    simp at h; subst h
    simp [runesOf_spec hr]
  | .int .i8 _ :: _, ns, h | .int .i16 _ :: _, ns, h | .int .u8 _ :: _, ns, h | .int .i64 _ :: _, ns, h | .int .u16 _ :: _, ns, h | .int .u32 _ :: _, ns, h | .int .u64 _ :: _, ns, h => by simp [runesOf] at h
  | .bool _ :: _, ns, h | .float _ _ :: _, ns, h | .complex _ _ _ :: _, ns, h | .string _ :: _, ns, h | .pointer _ :: _, ns, h | .slice _ _ _ :: _, ns, h | .map _ :: _, ns, h | .chan _ :: _, ns, h
  | .func _ _ _ :: _, ns, h | .nilFunc :: _, ns, h | .iface _ _ :: _, ns, h | .nilIface :: _, ns, h | .agg _ :: _, ns, h | .tuple _ :: _, ns, h => by simp [runesOf] at h
theorem closed_runes : ∀ ns : List Int, closedVs (ns.map (Value.int .i32)) = true
  | [] => rfl
  | k :: ns => by simp [closedVs, closedV, closed_runes ns]
theorem foldl_runes : ∀ (ns : List Int) (s : ByteArray), ns.foldl (fun r n => r ++ Utf8.encode n) s = ⟨⟨s.data.toList ++ ns.flatMap fun n => (Utf8.encode n).data.toList⟩⟩
  | [], s => by simp
  | k :: ns, s => by
    rw [List.foldl_cons, foldl_runes ns]
    simp
theorem runesBytes_eq (ns : List Int) : runesBytes ns = strOfRunes ns := by
  unfold runesBytes strOfRunes
  rw [foldl_runes]
  simp
theorem foldl_str : ∀ (ns : List Int) (s : ByteArray), ns.foldl (fun r n => r.push (UInt8.ofNat n.toNat)) s = ⟨⟨s.data.toList ++ ns.map fun n => UInt8.ofNat n.toNat⟩⟩
  | [], s => by simp
  | k :: ns, s => by
    rw [List.foldl_cons, foldl_str ns]
    simp [ByteArray.push]

theorem convInt_sound {src dst : TypeId} {k : IntKind} {i : Int} {r : ANext} {A1 : AS} (h : R P base σ A W) (e : convInt P src dst i A = some (r, A1)) :
    OpSim P base σ A W ((do pure (.value (← convert src dst (.int k i))) : Sem Next).run P W) r A1 := by
  unfold convInt at e
  split at e <;> try (simp at e; done)
  rename_i d k' hs hd
  simp at e; obtain ⟨rfl, rfl⟩ := e
  refine sim_value (v' := .int k' (fastWrap k' i)) h ?_ (.atom rfl)
  rw [fastWrap_eq]
  simp only [convert, Sem.run_bind, run_underlying src hs, run_underlying dst hd, Result.andThen_ok]
  cases d <;> rfl

/-- What a size of a block says of the model's. -/
theorem liesAt_mono {p : Program} : ∀ (d : Nat) {e : TypeId} {count count' off : Nat} {u : TypeId} {n : Nat}, count ≤ count' → liesAt p d e count off u n = true → liesAt p d e count' off u n = true := by
  have hrow : ∀ (fits : TypeId → Bool) (d : Nat) {e : TypeId} {count count' off n : Nat}, count ≤ count' → rowAt p fits d e count off n = true → rowAt p fits d e count' off n = true := by
    intro fits d
    cases d with
    | zero => intro e c c' off n _ h; simp [rowAt] at h
    | succ d =>
      intro e c c' off n hc h
      simp only [rowAt] at h ⊢
      split at h
      · simp at h
      · rename_i hs
        rw [if_neg hs]
        simp only [Bool.or_eq_true, Bool.and_eq_true, decide_eq_true_eq] at h ⊢
        rcases h with ⟨⟨a, b⟩, cc⟩ | ⟨a, b⟩
        · exact .inl ⟨⟨a, by omega⟩, cc⟩
        · exact .inr ⟨by omega, b⟩
  intro d
  induction d with
  | zero => intro e c c' off u n _ h; simp [liesAt] at h
  | succ d ih =>
    intro e c c' off u n hc h
    simp only [liesAt, Bool.or_eq_true] at h ⊢
    rcases h with h | h
    · exact .inl (hrow _ _ hc h)
    · refine .inr ?_
      split at h
      · exact ih hc h
      · simp at h

theorem frozen_upd {c off k : Nat} {cs : Array Value} {e : TypeId} {fz : Nat × Nat} (h : W.heap[c]? = some (.cells cs e fz)) (hk : k ≠ 0) :
    (W.freeze ⟨c, off, none⟩ k).heap = W.heap.setIfInBounds c (.cells cs e (if fz.1 == fz.2 then (off, off + k) else (min fz.1 off, max fz.2 (off + k)))) := by
  obtain ⟨hlt, hat⟩ := Array.getElem?_eq_some_iff.1 h
  simp only [World.freeze, hk, if_false]
  apply Array.ext_getElem?
  intro i
  rw [Array.getElem?_modify, Array.getElem?_setIfInBounds]
  by_cases hi : c = i
  · subst hi; simp [hlt, hat]
  · simp [hi]

/-- Bytes read out of a block. -/
theorem run_loadBytes (c : Nat) : ∀ (ns : List Int) (o : Nat) (acc : ByteArray) (W : World), (∀ j (v : Int), ns[j]? = some v → W.cell? ⟨c, o + j, none⟩ = some (.int .u8 v)) →
    (loadBytes ⟨c, o, none⟩ acc ns.length).run P W = .ok ⟨⟨acc.data.toList ++ ns.map fun n => UInt8.ofNat n.toNat⟩⟩ W
  | [], o, acc, W, _ => by simp [loadBytes]
  | k :: ns, o, acc, W, h => by
    have h0 : W.cell? ⟨c, o, none⟩ = some (.int .u8 k) := by simpa using h 0 k rfl
    have ih := run_loadBytes c ns (o + 1) (acc.push k.toNat.toUInt8) W (fun j v hv => by
      have := h (j + 1) v (by simpa using hv)
      rwa [show o + (j + 1) = o + 1 + j from by omega] at this)
    simp only [List.length_cons, loadBytes, Sem.run_bind, load, Sem.run, h0, Result.andThen_ok, add_eq]
    rw [ih]
    simp [ByteArray.push]


theorem strBytes_run {src dst el : TypeId} {str : ByteArray} (hs : P.underlying src = some .string) (hd : P.underlying dst = some (.slice el)) (he : P.underlying el = some (.int .u8)) (h60 : str.size ≤ 2 ^ 60) (σ : Sg) (W : World) :
    ∃ cap o' W1, (convert src dst (.string str)).run P W = .ok (.slice (some ⟨W.heap.size, 0, none⟩) str.size cap) W1 ∧ W1.heap = W.heap.push o' ∧
      OR σ ⟨W.heap.size, 0, cap, 1⟩ (.cells (T.setAll .leaf 0 (str.data.toList.map fun b => .int .u8 b.toNat)) str.size [] 1 el (str.size, 2 ^ 64)) o' ∧ str.size ≤ cap ∧ Rest W W1 := by
  generalize hcap : (Question.appendCap str.size 0 el).cut (W.tape W.drawn (.appendCap str.size 0 el)) = cap
  have hle : str.size ≤ cap := by rw [← hcap]; simp [Question.cut]
  generalize harr : (str.data.map fun b => Value.int .u8 b.toNat) ++ Array.replicate (cap - str.size) (.int .u8 0) = arr
  have hsz : arr.size = cap := by
    rw [← harr]; simp; have : str.data.size = str.size := rfl; omega
  refine ⟨cap, .cells arr el (cap, cap + 1), { W with heap := W.heap.push (.cells arr el (cap, cap + 1)), drawn := W.drawn + 1 }, ?_, rfl,
    ⟨arr, _, rfl, hsz, rfl, by simpa using hle, h60, fun i v hi hv => by
      have hl : VRs σ (str.data.toList.map fun b => Value.int .u8 b.toNat) (str.data.toList.map fun b => Value.int .u8 b.toNat) := closed_VRs σ _ (by
        generalize str.data.toList = bs
        induction bs with
        | nil => rfl
        | cons b bs ih => simp [closedVs, closedV, ih])
      have hlen : str.data.toList.length = str.size := rfl
      obtain ⟨v', q1, q2⟩ := hl.setAll_cell (by simpa [hlen] using h60) i v (by simpa [hlen] using hi) hv
      refine ⟨v', ?_, q2⟩
      rw [← harr, Nat.add_zero, Array.getElem?_append_left (by simp; exact hi)]
      simpa using q1, fun q => by simp at q, fun i i1 i2 => ⟨by simp at i1; omega, .inr (Nat.le_refl _)⟩, fun q => by simp at q, .inl (Nat.le_refl _)⟩, hle, rfl, rfl, rfl⟩
  have hlast : (W.heap.push (.cells arr el))[W.heap.size]? = some (.cells arr el (0, 0)) := by simp
  have hfr := frozen_upd (W := { W with heap := W.heap.push (.cells arr el), drawn := W.drawn + 1 }) (c := W.heap.size) (off := cap) (k := 1) hlast (by decide)
  have hWf : ({ W with heap := W.heap.push (.cells arr el), drawn := W.drawn + 1 } : World).freeze ⟨W.heap.size, cap, none⟩ 1 = { W with heap := W.heap.push (.cells arr el (cap, cap + 1)), drawn := W.drawn + 1 } := by
    have : ∀ (w1 w2 : World), w1.heap = w2.heap → w1.tape = w2.tape → w1.drawn = w2.drawn → w1.os = w2.os → w1.output = w2.output → w1 = w2 := by
      rintro ⟨⟩ ⟨⟩ h1 h2 h3 h4 h5; simp_all
    apply this
    · rw [hfr]
      apply Array.ext_getElem?
      intro i
      simp only [Array.getElem?_setIfInBounds, Array.getElem?_push, Array.size_push]
      by_cases hi : W.heap.size = i
      · subst hi; simp
      · simp [hi, Ne.symm hi]
    all_goals simp [World.freeze]
  simp only [convert, Sem.run_bind, run_underlying src hs, run_underlying dst hd, run_underlying el he, Result.andThen_ok, Conv.stringToBytes, choose, Sem.run, Question.forced, Bool.false_eq_true, if_false, hcap, harr, run_newRow, markStringish, shape, World.shape?, hlast, hsz, freeze, hWf]
  rfl

theorem aConvert_sound {o : Oper} {src dst : TypeId} {x : Operand} {v : Value} {r : ANext} {A1 : AS} (ho : o.op = .convert src dst x) (h : R P base σ A W) (hv : VR σ v (a.eval x)) (e : aConvert P src dst v A = some (r, A1)) :
    OpSim P base σ A W ((execOp a.eval o).run P W) r A1 := by
  unfold aConvert at e
  split at e <;> try (simp at e; done)
  · -- bytes to a string
    rename_i el ad len c hs hd
    have hsl : ∃ a' c', a.eval x = .slice (some a') len c' := by
      generalize a.eval x = w at hv
      cases hv with
      | atom q => simp [atomV] at q
      | slice => exact ⟨_, _, rfl⟩
    split at e <;> try (simp at e; done)
    case h_2 =>
      rename_i l he hl
      split at e <;> try (simp at e; done)
      rename_i ns hns
      simp at e; obtain ⟨rfl, rfl⟩ := e
      obtain ⟨l', e1, e2⟩ := cells_sound h hv (fun q hq => by simp [aLen] at hq; omega) hl
      obtain rfl := runesOf_spec hns
      have hl' : l' = ns.map (Value.int .i32) := e2.eq_of_closed (closed_runes ns)
      subst hl'
      obtain ⟨a', c', hw⟩ := hsl
      rw [hw] at e1
      have hload : (loadCells a' len).run P W = .ok (ns.map (Value.int .i32)).toArray W := by simpa [Builtin.firstCells] using e1
      refine sim_value (v' := .string (strOfRunes ns)) h ?_ (.atom rfl)
      simp only [execOp, ho, hw, Sem.run_bind]
      rw [run_convert_runes_string W src dst el (some a') len c' hs he hd, run_runesToString W a' len c' ns hload, runesBytes_eq]
      simp
    rename_i l he hl
    split at e <;> try (simp at e; done)
    rename_i ns hns
    simp at e; obtain ⟨rfl, rfl⟩ := e
    obtain ⟨l', e1, e2⟩ := cells_sound h hv (fun q hq => by simp [aLen] at hq; omega) hl
    obtain rfl := bytesOf_spec hns
    have hl' : l' = ns.map (Value.int .u8) := e2.eq_of_closed (closed_bytes ns)
    subst hl'
    obtain ⟨a', c', hw⟩ := hsl
    rw [hw] at e1
    have hload : (loadCells a' len).run P W = .ok (ns.map (Value.int .u8)).toArray W := by simpa [Builtin.firstCells] using e1
    refine sim_value (v' := .string (strOf ns)) h ?_ (.atom rfl)
    simp only [execOp, ho, hw, Sem.run_bind]
    rw [run_convert_bytes_string W src dst el (some a') len c' hs he hd, run_bytesToString W a' len c' ns hload, foldl_str]
    simp [strOf, ByteArray.empty, ByteArray.emptyWithCapacity]
    rfl
  · -- a slice of bytes as it is
    rename_i q0 el b off len c hs hd
    split at e <;> try (simp at e; done)
    rename_i tr size z u ty fz he hg
    cases hc : (Nat.beq src dst && Nat.ble A.lo b) with
    | false => rw [hc] at e; simp at e
    | true =>
    rw [hc] at e
    simp only [cond_true, Option.some.injEq, Prod.mk.injEq] at e
    obtain ⟨rfl, rfl⟩ := e
    simp only [Bool.and_eq_true] at hc
    have hsd := Nat.eq_of_beq_eq_true hc.1
    have hlo := Nat.le_of_ble_eq_true hc.2
    subst hsd
    obtain rfl : q0 = el := by rw [hs] at hd; simpa using hd
    generalize hw : a.eval x = w at hv
    cases hv with
    | atom q => simp [atomV] at q
    | @slice _ _ o' _ _ cap' m hb d1 d2 d3 d4 =>
    obtain ⟨_, w1, cs, fz', rfl, hN, hu, hle, h60, hcell, hz0, hfz, hδ⟩ := h.live _ _ _ hg hb
    have hclt := (Array.getElem?_eq_some_iff.1 w1).1
    have hfr := frozen_upd (W := W) (c := m.c) (off := cs.size) (k := 1) w1 (by decide)
    have hup := h.upd (b := b) (m := m) (W1 := W.freeze ⟨m.c, cs.size, none⟩ 1) (o1 := .cells tr size z u ty (bif Nat.beq fz.2 0 then size else 0, 2 ^ 64))
      (by rw [hg]; rfl) hb hlo (by rw [hfr]; simp) (fun y hy => by rw [hfr, Array.getElem?_setIfInBounds_ne (Ne.symm hy)]) (by rw [hfr, Array.getElem?_setIfInBounds]; simp [hclt]; rfl)
      ⟨cs, _, rfl, hN, hu, hle, h60, hcell, (fun q => by simp at q), fun i i1 i2 => by
        refine ⟨?_, .inr (Nat.le_refl _)⟩
        cases hz : Nat.beq fz.2 0 with
        | true =>
          obtain rfl := hz0 (Nat.eq_of_beq_eq_true hz)
          simp at i1 i2 ⊢
          omega
        | false => exact Nat.zero_le _, hδ.1, .inl (Nat.le_refl _)⟩
    refine ⟨σ, _, .slice (some ⟨m.c, o', none⟩) len cap', .inl ?_, hup.1, hup.2, .slice hb d1 d2 d3 d4⟩
    simp [execOp, ho, hw, convert, run_underlying src hs, run_underlying _ he, markStringish, shape, Sem.run, World.shape?, w1, freeze]
  · -- a string to bytes
    rename_i el str hs hd
    split at e <;> try (simp at e; done)
    rename_i he
    obtain ⟨h60, rfl, rfl⟩ := newC_inv e
    have hw : a.eval x = .string str := hv.eq_of_closed rfl
    obtain ⟨cap, o', W1, q1, q2, q3, hle, q4⟩ := strBytes_run hs hd he h60 σ W
    have hnew := h.new (hr := q4) (o' := o') (W1 := W1) q2 rfl q3
    refine ⟨_, _, .slice (some ⟨W.heap.size, 0, none⟩) str.size cap, .inl ?_, hnew.1, hnew.2, .slice (Sg.add_at _ _ _) (Nat.le_refl _) hle (.inr (by simp)) (.inl rfl)⟩
    simp only [execOp, ho, hw, Sem.run_bind, q1, Result.andThen_ok]
    rfl
  · -- a pointer forgets its type
    rename_i ty b off hs hd
    split at e <;> try (simp at e; done)
    rename_i tr size z u el fz k hg hk
    cases hc : Nat.blt off size with
    | false => rw [hc] at e; simp at e
    | true =>
    rw [hc] at e
    simp at e; obtain ⟨rfl, rfl⟩ := e
    have hlt : off < size := by simpa [Nat.blt, Nat.succ_le_iff] using hc
    generalize hw : a.eval x = w at hv
    cases hv with
    | atom q => simp [atomV] at q
    | @ptr _ _ m hb =>
    obtain ⟨_, w1, cs, fz', rfl, hN, hu, hle, _⟩ := h.live _ _ _ hg hb
    refine sim_value (v' := .pointer (some ⟨m.c, off + m.δ, none⟩)) h ?_ (.ptr hb)
    have hno : ¬ (cs.size ≤ off + m.δ) := by omega
    simp [execOp, ho, hw, convert, run_underlying src hs, run_underlying dst hd, Conv.unsafePointer, Conv.seenAt, viewAt, shape, Sem.run, World.shape?, w1, cellsIn, run_sizeOf ty hk, hno]
  · -- and gets one again
    rename_i ty b off hs hd
    split at e <;> try (simp at e; done)
    rename_i tr size z0 z u el fz k hg hk
    cases hc : liesAt P P.depth el (size / P.cellsOf el) off ty 1 with
    | false => rw [hc] at e; simp at e
    | true =>
    rw [hc] at e
    simp at e; obtain ⟨rfl, rfl⟩ := e
    generalize hw : a.eval x = w at hv
    cases hv with
    | atom q => simp [atomV] at q
    | @ptr _ _ m hb =>
    obtain ⟨_, w1, cs, fz', rfl, hN, hu, hle, h60, hcell, hz0, hfz, hδ⟩ := h.live _ _ _ hg hb
    have hδ := hδ.1 (by simp)
    refine sim_value (v' := .pointer (some ⟨m.c, off + m.δ, none⟩)) h ?_ (.ptr hb)
    have hlies : liesAt P P.depth el (cs.size / P.cellsOf el) (off + m.δ) ty 1 = true := by
      rw [hδ, Nat.add_zero]
      exact liesAt_mono _ (Nat.div_le_div_right (by omega)) hc
    simp [execOp, ho, hw, convert, run_underlying src hs, run_underlying dst hd, Conv.unsafePointer, Conv.seenAt, viewAt, shape, program, Sem.run, World.shape?, w1, run_sizeOf ty hk, variablesAt, hlies]

theorem convert_sound {o : Oper} {src dst : TypeId} {x : Operand} {r : ANext} {A1 : AS} (ho : o.op = .convert src dst x) (h : R P base σ A W) (ht : TR σ t n a.tmps) (e : xConvert P o src dst x t A = some (r, A1)) :
    OpSim P base σ A W ((execOp a.eval o).run P W) r A1 := by
  have slow : ∀ v, aEval P x t = some v → convSlow P o src dst v t A = some (r, A1) → OpSim P base σ A W ((execOp a.eval o).run P W) r A1 := by
    intro v hv e
    unfold convSlow at e
    cases hc : closedV v with
    | false => rw [hc] at e; exact aConvert_sound ho h (eval_sound h ht hv) e
    | true =>
      rw [hc] at e
      simp only [cond_true] at e
      split at e
      · rename_i q hq
        simp at e; subst e
        exact pure_sound (by rw [ho]; simp) h ht hq
      · exact aConvert_sound ho h (eval_sound h ht hv) e
  unfold xConvert at e
  cases hst : strToRow P src dst with
  | true =>
    rw [hst] at e
    simp only [cond_true] at e
    unfold newStr at e
    split at e <;> try (simp at e; done)
    rename_i s hs
    exact aConvert_sound ho h (eval_sound h ht hs) e
  | false =>
  rw [hst] at e
  simp only [cond_false] at e
  unfold convV at e
  split at e
  · rename_i k i hi
    split at e
    · rename_i q hq
      simp at e; subst e
      have : a.eval x = .int k i := (eval_sound h ht hi).eq_of_closed rfl
      have := convInt_sound (k := k) h hq
      simpa only [execOp, ho, ‹a.eval x = .int k i›] using this
    · exact slow _ hi e
  · rename_i v _ hv
    exact slow _ hv e
  · simp at e

end Go.Eng

namespace Go.Eng
open Go
variable [Env]

variable {P : Program} {base : Nat} {σ : Sg} {A : AS} {W : World} {t : T Value} {n : Nat} {a : Act}

theorem nextcap_le (need cap : Nat) (h : cap < need) : Builtin.nextslicecap need cap ≤ 2 * need + 768 := by
  unfold Builtin.nextslicecap
  split
  · omega
  · split
    · omega
    · have key : ∀ (r c : Nat), c ≤ 2 * need + 768 → Builtin.growBy need r c ≤ 2 * need + 768 := by
        intro r
        induction r with
        | zero => intro c hc; simpa [Builtin.growBy] using hc
        | succ r ih =>
          intro c hc
          simp only [Builtin.growBy]
          split
          · exact hc
          · exact ih _ (by omega)
      exact key 4 cap (by omega)

theorem growOk_spec {inf : TypeInfo} {z : List Value} {need : Nat} (h : growOk inf z need = true) :
    z.length = inf.size ∧ need * inf.size ≤ 2 ^ 60 ∧ need ≤ 2 ^ 40 ∧ ∀ cap, cap < need → ¬ (Builtin.nextslicecap need cap * inf.bytes > 2 ^ 48) := by
  simp only [growOk, Bool.and_eq_true] at h
  obtain ⟨⟨⟨⟨h1, h2⟩, h3⟩, h4⟩, h5⟩ := h
  have h2 := Nat.le_of_ble_eq_true h2
  have h3 := Nat.le_of_ble_eq_true h3
  have h4 := Nat.le_of_ble_eq_true h4
  refine ⟨Nat.eq_of_beq_eq_true h1, Nat.le_of_ble_eq_true h5, h4, fun cap hc hgt => ?_⟩
  have hle := nextcap_le need cap hc
  have : Builtin.nextslicecap need cap * inf.bytes ≤ (2 * need + 768) * inf.bytes := Nat.mul_le_mul_right _ hle
  rw [Nat.add_mul, Nat.mul_assoc] at this
  have : 768 * inf.bytes ≤ 768 * 2 ^ 30 := Nat.mul_le_mul_left _ h2
  omega

theorem run_zero_length {z : List Value} {zv : Value} (hz : zv.cells.toList = z) : zv.cells.size = z.length := by rw [← hz]; simp

/-- The new row of an append. -/
theorem appendRow {inf : TypeInfo} {need newCap : Nat} {all' : List Value} {zv : Value} (hsz : zv.cells.size = inf.size) (hall : all'.length = need * inf.size) (hle : need ≤ newCap) :
    (all'.toArray ++ Builtin.zeroCells zv.cells (newCap - need)).size = newCap * inf.size := by
  simp only [Array.size_append, Builtin.zeroCells, Array.size_map, Array.size_range, hsz, List.size_toArray, hall]
  rw [← Nat.add_mul]; congr 1; omega

/-- Append's run where there is no room. -/
theorem run_append_new {sType xType : TypeId} {elem : TypeId} {xd : TypeDesc} {inf : TypeInfo} {z : List Value} {s x : Value} {bs : Option Addr} {sLen sCap k : Nat} {old new : Array Value} {ty : TypeId} {more : List TypeId}
    (hs : P.underlying sType = some (.slice elem)) (hx : P.underlying xType = some xd) (hxd : notInt xd = true) (hinf : P.info? elem = some inf) (hz : zeroP P elem = some z) (hg : growOk inf z (sLen + k) = true)
    (hsv : s = .slice bs sLen sCap) (hk : (Builtin.lenOf x).run P W = .ok k W) (hlt : sCap < sLen + k)
    (ho : ∀ W' : World, W'.heap = W.heap → (Builtin.firstCells inf.size sLen s).run P W' = .ok old W') (hn : ∀ W' : World, W'.heap = W.heap → (Builtin.firstCells inf.size k x).run P W' = .ok new W') :
    ∃ (newCap : Nat) (zv : Value), sLen + k ≤ newCap ∧ zv.cells.toList = z ∧ (Builtin.append_ ⟨sType :: xType :: more⟩ ty ⟨[s, x]⟩).run P W =
      .ok (.slice (some ⟨W.heap.size, 0, none⟩) (sLen + k) newCap) { W with heap := W.heap.push (.cells (old ++ new ++ Builtin.zeroCells zv.cells (newCap - (sLen + k))) elem), drawn := W.drawn + 1 } := by
  obtain ⟨hzl, h60, h40, hcap⟩ := growOk_spec hg
  have hszP : sizeP P elem = some inf.size := by simp [sizeP, hinf]
  obtain ⟨zv, hr, hcl, hzz⟩ := run_zeroValue elem hz { W with drawn := W.drawn + 1 }
  refine ⟨(Question.appendCap (sLen + k) sCap elem).cut (W.tape W.drawn (.appendCap (sLen + k) sCap elem)), zv, by simp [Question.cut], hzz, ?_⟩
  generalize hq : (Question.appendCap (sLen + k) sCap elem).cut (W.tape W.drawn (.appendCap (sLen + k) sCap elem)) = newCap
  subst hsv
  have hzeros : ∀ W' : World, ((do pure ((← underlying xType) matches .int _) : Sem Bool)).run P W' = .ok false W' := fun W' => by
    simp only [Sem.run_bind, run_underlying xType hx, Result.andThen_ok, Sem.run_pure]
    cases xd <;> first | rfl | (simp [notInt] at hxd)
  have h1 : ¬ (sLen + k ≤ sCap) := by omega
  have h2 : ¬ (((sLen + k : Nat) : Int) > IntKind.i64.max) := by
    have : IntKind.i64.max = 9223372036854775807 := by decide
    rw [this]; omega
  have h3 := hcap sCap hlt
  have hchoose : (choose (.appendCap (sLen + k) sCap elem)).run P W = .ok newCap { W with drawn := W.drawn + 1 } := by simp [choose, Sem.run, Question.forced, hq]
  have ho1 := ho { W with drawn := W.drawn + 1 } rfl
  have hn1 := hn { W with drawn := W.drawn + 1 } rfl
  simp only [Builtin.append_, List.getElem?_toArray, List.getElem?_cons_zero, List.getElem?_cons_succ, Sem.run_bind, run_underlying sType hs, run_underlying xType hx, Result.andThen_ok, run_sizeOf elem hszP, Sem.run_pure]
  have h4 : ∀ c : Prop, ¬ (((sLen + k : Nat) : Int) > IntKind.i64.max ∧ c) := fun c q => h2 q.1
  cases xd <;> first | (simp [notInt] at hxd; done) | skip
  all_goals
    simp only [Bool.false_eq_true, if_false, Sem.run_bind, hk, Result.andThen_ok]
    rw [if_neg h1]
    simp only [Sem.run_bind, run_typeInfo elem hinf, Result.andThen_ok]
    rw [if_neg (h4 _)]
    simp only [Sem.run_bind, run_typeInfo elem hinf, Result.andThen_ok]
    rw [if_neg h3]
    simp only [Sem.run_bind, hchoose, run_typeInfo elem hinf, run_askRoom, ho1, hn1, Bool.not_false, if_true, hr, run_newRow, Sem.run_pure, Result.andThen_ok]

/-- Append's run where there is room. -/
theorem run_append_in {sType xType : TypeId} {elem : TypeId} {xd : TypeDesc} {size : Nat} {s x : Value} {bs : Option Addr} {sLen sCap k : Nat} {new : Array Value} {ty : TypeId} {more : List TypeId}
    (hs : P.underlying sType = some (.slice elem)) (hx : P.underlying xType = some xd) (hxd : notInt xd = true) (hsz : sizeP P elem = some size)
    (hsv : s = .slice bs sLen sCap) (hk : (Builtin.lenOf x).run P W = .ok k W) (hle : sLen + k ≤ sCap) (hn : (Builtin.firstCells size k x).run P W = .ok new W) :
    (Builtin.append_ ⟨sType :: xType :: more⟩ ty ⟨[s, x]⟩).run P W =
      ((match bs with | some a => storeCells (a.add (sLen * size)) new.toList | none => pure () : Sem Unit).run P W).andThen fun _ W1 => .ok (.slice bs (sLen + k) sCap) W1 := by
  subst hsv
  simp only [Builtin.append_, List.getElem?_toArray, List.getElem?_cons_zero, List.getElem?_cons_succ, Sem.run_bind, run_underlying sType hs, run_underlying xType hx, Result.andThen_ok, run_sizeOf elem hsz, Sem.run_pure]
  cases xd <;> first | (simp [notInt] at hxd; done) | skip
  all_goals
    simp only [Bool.false_eq_true, if_false, Sem.run_bind, hk, Result.andThen_ok]
    rw [if_pos hle]
    simp only [Sem.run_bind, Bool.not_false, if_true, hn, Result.andThen_ok]
    cases bs with
    | none => simp
    | some a => simp only [Sem.run_bind, Sem.run_pure]


/-- Firstcells where only the tape's place has turned. -/
theorem cells_sound' {x x' : Value} {k size : Nat} {l : List Value} (h : R P base σ A W) (hx : VR σ x x') (hlen : ∀ len, aLen x = some len → k ≤ len) (e : aCells size k x A = some l) :
    ∃ l', VRs σ l l' ∧ ∀ W' : World, W'.heap = W.heap → (Builtin.firstCells size k x').run P W' = .ok ⟨l'⟩ W' := by
  obtain ⟨l', e1, e2⟩ := cells_sound h hx hlen e
  refine ⟨l', e2, fun W' hW => ?_⟩
  obtain ⟨l'', f1, f2⟩ := cells_sound (h.same hW) hx hlen e
  have : l'' = l' := by
    have g : ∀ (W1 W2 : World) (r1 r2 : Array Value), W1.heap = W2.heap → (Builtin.firstCells size k x').run P W1 = .ok r1 W1 → (Builtin.firstCells size k x').run P W2 = .ok r2 W2 → r1 = r2 := by
      intro W1 W2 r1 r2 hh q1 q2
      unfold Builtin.firstCells at q1 q2
      split at q1
      · rename_i ad _ _
        simp only [loadCells] at q1 q2
        have key : ∀ (m i : Nat) (acc r1 r2 : Array Value), (loadCellsFrom ad i m acc).run P W1 = .ok r1 W1 → (loadCellsFrom ad i m acc).run P W2 = .ok r2 W2 → r1 = r2 := by
          intro m
          induction m with
          | zero => intro i acc r1 r2 a b; simp [loadCellsFrom] at a b; rw [← a, ← b]
          | succ m ih =>
            intro i acc r1 r2 a b
            have hc : ∀ z, W1.cell? z = W2.cell? z := fun z => by simp [World.cell?, hh]
            have hf : ∀ z q, W1.farLoad P z q = W2.farLoad P z q := fun z q => by
              simp [World.farLoad, World.noCell, World.viewLoad, World.seen, hh]
            simp only [loadCellsFrom, Sem.run_bind, load, Sem.run, hc, hf] at a b
            cases hz : W2.cell? (ad.add i) with
            | some v => simp only [hz, Result.andThen_ok] at a b; exact ih _ _ _ _ a b
            | none =>
              simp only [hz] at a b
              cases hz2 : W2.farLoad P (ad.add i) (Mode.plain == Mode.atomic) with
              | ok p => obtain ⟨v, _⟩ := p; simp only [hz2, Result.andThen_ok] at a b; exact ih _ _ _ _ a b
              | error q => simp [hz2] at a
        exact key _ _ _ _ _ q1 q2
      · simp at q1 q2; rw [q1, q2]
      · simp at q1 q2; rw [← q1, ← q2]
      · simp [stuck] at q1
    have := g W' W _ _ hW f1 e1
    simpa using this
  rw [← this]; exact f1

theorem append_sound {ts : List TypeId} {args args' : List Value} {v : Value} {A1 : AS} (h : R P base σ A W) (ha : VRs σ args args') (e : aAppend P ts args A = some (v, A1)) (ty : TypeId) :
    ∃ σ1 W1 v', (Builtin.append_ ⟨ts⟩ ty ⟨args'⟩).run P W = .ok v' W1 ∧ R P base σ1 A1 W1 ∧ Ext A σ W A1 σ1 W1 ∧ VR σ1 v v' := by
  unfold aAppend at e
  split at e <;> try (simp at e; done)
  rename_i sType xType more bs sLen sCap x
  obtain ⟨s', _, rfl, hs', ha⟩ := ha.snoc_inv
  obtain ⟨x', _, rfl, hx', ha⟩ := ha.snoc_inv
  cases ha
  split at e <;> try (simp at e; done)
  rename_i elem xd k hst hxt hk
  cases hxd : notInt xd with
  | false => rw [hxd] at e; simp at e
  | true =>
  rw [hxd] at e
  simp only [cond_true] at e
  split at e <;> try (simp at e; done)
  rename_i inf z hinf hz
  have hsz : sizeP P elem = some inf.size := by simp [sizeP, hinf]
  split at e <;> try (simp at e; done)
  · -- a nil slice
    rename_i new hnew
    obtain ⟨new', n1, n2⟩ := cells_sound' h hx' (fun len hl => by rw [hk] at hl; simp at hl; omega) hnew
    cases hc : (Nat.beq sLen 0 && Nat.beq sCap 0) with
    | false => rw [hc] at e; simp at e
    | true =>
    rw [hc] at e
    simp only [cond_true] at e
    simp only [Bool.and_eq_true] at hc
    obtain rfl := Nat.eq_of_beq_eq_true hc.1
    obtain rfl := Nat.eq_of_beq_eq_true hc.2
    have hs0 : s' = .slice none 0 0 := hs'.eq_of_closed rfl
    have hkr := aLen_sound (P := P) hx' hk W
    unfold appendNil at e
    split at e
    · simp at e; obtain ⟨rfl, rfl⟩ := e
      refine ⟨σ, W, .slice none 0 0, ?_, h, Ext.refl _ _ _, .atom rfl⟩
      rw [run_append_in hst hxt hxd hsz hs0 hkr (Nat.le_refl _) (n2 W rfl)]
      simp
    · rename_i k
      cases hg : (growOk inf z (k + 1) && new.all oneCell) with
      | false => rw [hg] at e; simp at e
      | true =>
      rw [hg] at e
      simp only [cond_true, Option.some.injEq, Prod.mk.injEq] at e
      obtain ⟨rfl, rfl⟩ := e
      simp only [Bool.and_eq_true] at hg
      obtain ⟨hzl, h60, h40, _⟩ := growOk_spec hg.1
      obtain ⟨newCap, zv, c1, c2, c3⟩ := run_append_new (ty := ty) (more := more) (W := W) hst hxt hxd hinf hz (sLen := 0) (sCap := 0) (k := k + 1) (old := #[]) (new := ⟨new'⟩) (by simpa using hg.1) hs0 hkr (by omega)
        (fun W' _ => by simp [hs0, Builtin.firstCells]) n2
      have hlen : new'.length = (k + 1) * inf.size := by rw [n1.length]; exact aCells_length hnew
      have hzs : zv.cells.size = inf.size := by rw [run_zero_length c2, hzl]
      have hrow := appendRow (inf := inf) (need := k + 1) (newCap := newCap) (all' := new') (zv := zv) hzs hlen (by omega)
      simp only [Nat.zero_add, Array.empty_append] at c3
      obtain ⟨m, m1, m2, m3, m4, m5, r1, r2⟩ := h.newCells (tr := T.setAll .leaf 0 new) (size := (k + 1) * inf.size) (z := []) (u := inf.size) (e := elem) (fz := (0, 0)) (cs := new'.toArray ++ Builtin.zeroCells zv.cells (newCap - (k + 1))) h60
        (by rw [hrow]; exact Nat.mul_le_mul_right _ (by omega)) (fun i u hi hu => by
          obtain ⟨u', q1, q2⟩ := n1.setAll_cell (by rw [aCells_length hnew]; exact h60) i u (by rw [aCells_length hnew]; exact hi) hu
          refine ⟨u', ?_, q2⟩
          rw [Array.getElem?_append_left (by simp; omega)]
          simpa using q1)
      have hW : ∀ (X : World), X.heap = W.heap.push (.cells (new'.toArray ++ Builtin.zeroCells zv.cells (newCap - (k + 1))) elem) → Rest W X → R P base (σ.add A.nx m) (A.new (.cells (T.setAll .leaf 0 new) ((k + 1) * inf.size) [] inf.size elem (0, 0))) X ∧
          Ext A σ W (A.new (.cells (T.setAll .leaf 0 new) ((k + 1) * inf.size) [] inf.size elem (0, 0))) (σ.add A.nx m) X := fun X hX hr => ⟨r1.same hX, r2.trans (Ext.same' hX hr)⟩
      refine ⟨_, _, _, c3, (hW _ rfl (by exact ⟨rfl, rfl, rfl⟩)).1, (hW _ rfl (by exact ⟨rfl, rfl, rfl⟩)).2, ?_⟩
      have := VR.slice (σ := σ.add A.nx m) (b := A.nx) (o := 0) (o' := 0) (len := k + 1) (cap := k + 1) (cap' := newCap) (m := m) (Sg.add_at σ A.nx m) (Nat.le_refl _) (by omega) (.inr (by rw [m4, m3, hrow]; omega)) (.inl (by omega))
      rw [m1] at this
      exact this
  · -- a slice that lies somewhere
    rename_i new b off hnew
    obtain ⟨new', n1, n2⟩ := cells_sound' h hx' (fun len hl => by rw [hk] at hl; simp at hl; omega) hnew
    have hkr := aLen_sound (P := P) hx' hk W
    cases hs' with
    | atom q => simp [atomV] at q
    | @slice _ _ o' _ _ cap' m hb d1 d2 d3 d4 =>
    unfold appendTo at e
    split at e
    · cases hc : Nat.ble sLen sCap with
      | false => rw [hc] at e; simp at e
      | true =>
      rw [hc] at e
      simp at e; obtain ⟨rfl, rfl⟩ := e
      have hnew' : new' = [] := by
        have := n1.length
        rw [aCells_length hnew] at this
        simpa using this
      subst hnew'
      refine ⟨σ, W, .slice (some ⟨m.c, o', none⟩) sLen cap', ?_, h, Ext.refl _ _ _, .slice hb d1 d2 d3 d4⟩
      rw [run_append_in hst hxt hxd hsz rfl hkr (by omega) (n2 W rfl)]
      simp [storeCells]
    · rename_i k
      cases hroom : Nat.ble (sLen + (k + 1)) sCap with
      | true =>
        rw [hroom] at e
        simp only [cond_true] at e
        have hroom := Nat.le_of_ble_eq_true hroom
        unfold appendIn at e
        split at e <;> try (simp at e; done)
        rename_i A' hp
        simp at e; obtain ⟨rfl, rfl⟩ := e
        have ho' : o' = off + m.δ := by rcases d4 with d4 | d4 <;> omega
        obtain ⟨W1, w1, w2, w3⟩ := putCells_sound h hb n1 hp
        refine ⟨σ, W1, .slice (some ⟨m.c, o', none⟩) (sLen + (k + 1)) cap', ?_, w2, w3, .slice hb (by omega) d2 d3 d4⟩
        rw [run_append_in hst hxt hxd hsz rfl hkr (by omega) (n2 W rfl)]
        simp only [add_eq]
        rw [show o' + sLen * inf.size = off + sLen * inf.size + m.δ by omega, w1]
        rfl
      | false =>
        rw [hroom] at e
        simp only [cond_false] at e
        have hroom : ¬ (sLen + (k + 1) ≤ sCap) := fun q => by rw [Nat.ble_eq_true_of_le q] at hroom; simp at hroom
        unfold appendNew at e
        split at e <;> try (simp at e; done)
        rename_i old q1 q2 q3 q4 q5 q6 hold hg
        cases hc : (Nat.beq q5 elem && Nat.beq q4 inf.size && Nat.ble A.lo b && growOk inf z (sLen + (k + 1)) && Nat.ble q6.2 (off + sLen * inf.size) && Nat.ble (off + sLen * inf.size) (2 ^ 60) && new.all oneCell && Nat.ble sLen sCap) with
        | false => rw [hc] at e; simp at e
        | true =>
        rw [hc] at e
        simp only [cond_true, Option.some.injEq, Prod.mk.injEq] at e
        obtain ⟨rfl, rfl⟩ := e
        simp only [Bool.and_eq_true] at hc
        obtain ⟨⟨⟨⟨⟨⟨⟨h0, h1⟩, h2⟩, h3⟩, h4⟩, h5⟩, h6⟩, h7⟩ := hc
        obtain rfl := Nat.eq_of_beq_eq_true h0
        have h1 := Nat.eq_of_beq_eq_true h1
        have h2 := Nat.le_of_ble_eq_true h2
        have h4 := Nat.le_of_ble_eq_true h4
        have h5 := Nat.le_of_ble_eq_true h5
        obtain ⟨hzl, h60, h40, _⟩ := growOk_spec h3
        obtain ⟨_, w1, cs, fz', rfl, hN, hu, hle, h60', hcell, hz0, hfz, hδ⟩ := h.live _ _ _ hg hb
        have hsl : VR σ (.slice (some ⟨b, off, none⟩) sLen sCap) (.slice (some ⟨m.c, o', none⟩) sLen cap') := .slice hb d1 d2 d3 d4
        obtain ⟨old', o1, o2⟩ := cells_sound' h hsl (fun len hl => by simp [aLen] at hl; omega) hold
        have hlo : old.length = sLen * inf.size := aCells_length hold
        have hln : new.length = (k + 1) * inf.size := aCells_length hnew
        have hlo' : old'.length = sLen * inf.size := by rw [o1.length, hlo]
        have hln' : new'.length = (k + 1) * inf.size := by rw [n1.length, hln]
        have hsum : sLen * inf.size + (k + 1) * inf.size = (sLen + (k + 1)) * inf.size := (Nat.add_mul _ _ _).symm
        have hall := o1.append n1
        by_cases hin : sLen + (k + 1) ≤ cap'
        · -- it grows where it lies
          have hext : o' + cap' * m.u ≤ m.N := d3.resolve_left (by omega)
          have hus : m.u = inf.size := by rw [hu, h1]
          have hcapm : (sLen + (k + 1)) * inf.size ≤ cap' * m.u := by rw [hus]; exact Nat.mul_le_mul_right _ hin
          have hoo : off + m.δ ≤ o' := by rcases d4 with d4 | d4 <;> omega
          have hoff0 : o' ≠ off + m.δ → sLen = 0 := fun q => by rcases d4 with d4 | d4 <;> omega
          have hnofz : ∀ i, off + sLen * inf.size ≤ i → ¬ mayFz q6 i := by
            rintro i hi ⟨_, hm⟩
            rcases hm with hm | hm
            · omega
            · omega
          have hnf : ∀ j, o' + sLen * inf.size ≤ j → ¬ (fz'.1 ≤ j ∧ j < fz'.2) := by
            rintro j hj ⟨f1, f2⟩
            refine hnofz (j - m.δ) ?_ (hfz (j - m.δ) (by omega) (by omega))
            omega
          obtain ⟨W1, s1, s2, s3⟩ := run_storeCells_own (P := P) m.c (o' + sLen * inf.size) q5 fz' new' 0 cs W w1 (by omega) (by rw [n1.all_oneCell]; exact h6) (fun j _ => hnf _ (by omega))
          have hclt := (Array.getElem?_eq_some_iff.1 w1).1
          have hal := h.alias (hr := s3) (b := b) (m := m) (m1 := ⟨m.c, o', m.N, inf.size⟩) (W1 := W1) (o1 := .cells (T.setAll .leaf 0 (old ++ new)) ((sLen + (k + 1)) * inf.size) [] inf.size q5 (bif Nat.beq q6.2 0 then (0, 0) else (0, sLen * inf.size + 1)))
            (o1' := .cells (wr cs (o' + sLen * inf.size) new') q5 fz') (by rw [hg]; rfl) hb h2 (by rw [s2]; simp) (fun y hy => by rw [s2, Array.getElem?_setIfInBounds_ne (Ne.symm hy)])
            (by rw [s2, Array.getElem?_setIfInBounds]; simp [hclt]) rfl
            ⟨_, fz', rfl, by rw [wr_size]; exact hN, rfl, by dsimp only; omega, h60, fun i u hi hu => by
              dsimp only
              obtain ⟨u', g1, g2⟩ := hall.setAll_cell (by simp only [List.length_append]; omega) i u (by simp only [List.length_append]; omega) hu
              refine ⟨u', ?_, g2⟩
              rw [wr_get _ _ _ _ (by omega)]
              by_cases hi2 : i < sLen * inf.size
              · rw [if_neg (by omega)]
                rw [List.getElem?_append_left (by omega)] at g1
                have hoff : o' = off + m.δ := Classical.byContradiction fun q => by rw [hoff0 q] at hi2; simp at hi2
                have hsz2 : off + sLen * inf.size ≤ q2 ∧ T.take (cellF q1 q3) (sLen * inf.size) off = some old := by
                  have hold' := hold
                  simp only [aCells, hg] at hold'
                  cases hqq : Nat.ble (off + sLen * inf.size) q2 with
                  | false => rw [hqq] at hold'; simp at hold'
                  | true => rw [hqq] at hold'; exact ⟨Nat.le_of_ble_eq_true hqq, hold'⟩
                obtain ⟨l'', y1, y2, y3⟩ := h.cells hg hb hsz2.1 hsz2.2
                have hu2 : old[i]? = some u := by
                  have hat := T.setAll_at (old ++ new) (.leaf : T Value) 0 i (by simp only [List.length_append]; omega)
                  rw [if_pos (by simp only [List.length_append]; omega)] at hat
                  rcases cellF_lt hu with hq | ⟨_, hq⟩
                  · rw [hat, Nat.sub_zero, List.getElem?_append_left (by omega)] at hq; exact hq
                  · simp [nth] at hq
                obtain ⟨u'', z1, z2⟩ := y1.get i u hu2
                have hc2 := y3 i u'' z1
                -- the old cells are the ones that lie there
                have hsame : l'' = old' := by
                  have e1 := o2 W rfl
                  have e2 := run_loadCellsFrom_at (P := P) m.c o' l'' 0 #[] W (fun j v hv => by have := y3 j v hv; rw [← hoff] at this; simpa using this)
                  rw [y2] at e2
                  simp only [Builtin.firstCells, loadCells] at e1
                  rw [e2] at e1
                  simpa using e1
                rw [hsame] at z1
                rw [g1] at z1
                obtain rfl := Option.some.inj z1
                rw [← hoff] at hc2
                simp only [World.cell?, w1, Option.isSome_none, Bool.false_eq_true, if_false] at hc2
                rw [Nat.add_comm]; exact hc2
              · rw [if_pos (by omega)]
                rw [List.getElem?_append_right (by omega), hlo'] at g1
                rw [show i + o' - (o' + sLen * inf.size) = i - sLen * inf.size by omega]
                exact g1,
             fun q => by
              cases hz : Nat.beq q6.2 0 with
              | true => exact hz0 (Nat.eq_of_beq_eq_true hz)
              | false =>
                rw [hz] at q
                simp at q,
             fun i i1 i2 => by
              dsimp only at i1 i2
              cases hz : Nat.beq q6.2 0 with
              | true => obtain rfl := hz0 (Nat.eq_of_beq_eq_true hz); simp at i2
              | false =>
                refine ⟨Nat.zero_le _, .inl ?_⟩
                exact Classical.byContradiction fun hge => hnf (i + o') (by simp at hge; omega) ⟨i1, i2⟩,
             fun q => by simp at q, .inr (hδ.2.resolve_left (by omega))⟩
          refine ⟨_, W1, .slice (some ⟨m.c, o', none⟩) (sLen + (k + 1)) cap', ?_, hal.1, hal.2, ?_⟩
          · rw [run_append_in hst hxt hxd hsz rfl hkr hin (n2 W rfl)]
            simp only [add_eq, s1, Result.andThen_ok]
          · have := VR.slice (σ := σ.add A.nx ⟨m.c, o', m.N, inf.size⟩) (b := A.nx) (o := 0) (o' := o') (len := sLen + (k + 1)) (cap := sLen + (k + 1)) (cap' := cap') (m := ⟨m.c, o', m.N, inf.size⟩) (Sg.add_at σ A.nx _) (Nat.le_refl _) hin (.inr (by rw [← hus]; exact hext)) (.inl (by simp))
            exact this
        · -- it moves
          obtain ⟨newCap, zv, c1, c2, c3⟩ := run_append_new (ty := ty) (more := more) (W := W) hst hxt hxd hinf hz (sLen := sLen) (sCap := cap') (k := k + 1) (old := ⟨old'⟩) (new := ⟨new'⟩) h3 rfl hkr (by omega) o2 n2
          have hzs : zv.cells.size = inf.size := by rw [run_zero_length c2, hzl]
          have hall' : (old' ++ new').length = (sLen + (k + 1)) * inf.size := by rw [List.length_append]; omega
          have hrow := appendRow (inf := inf) (need := sLen + (k + 1)) (newCap := newCap) (all' := old' ++ new') (zv := zv) hzs hall' c1
          have hcs : (⟨old'⟩ ++ ⟨new'⟩ ++ Builtin.zeroCells zv.cells (newCap - (sLen + (k + 1))) : Array Value) = (old' ++ new').toArray ++ Builtin.zeroCells zv.cells (newCap - (sLen + (k + 1))) := by simp
          rw [hcs] at c3
          obtain ⟨k1, k2⟩ := h.kill b
          obtain ⟨mm, m1, m2, m3, m4, m5, r1, r2⟩ := k1.newCells (tr := T.setAll .leaf 0 (old ++ new)) (size := (sLen + (k + 1)) * inf.size) (z := []) (u := inf.size) (e := q5) (fz := bif Nat.beq q6.2 0 then (0, 0) else (0, sLen * inf.size + 1))
            (cs := (old' ++ new').toArray ++ Builtin.zeroCells zv.cells (newCap - (sLen + (k + 1)))) h60
            (by rw [hrow]; exact Nat.mul_le_mul_right _ c1) (fun i u hi hu => by
              obtain ⟨u', g1, g2⟩ := hall.setAll_cell (by simp only [List.length_append]; omega) i u (by simp only [List.length_append]; omega) hu
              refine ⟨u', ?_, g2⟩
              rw [Array.getElem?_append_left (by simp only [List.size_toArray]; omega)]
              simpa using g1)
          refine ⟨_, _, _, c3, r1.same rfl, (k2.trans r2).trans (Ext.same' rfl), ?_⟩
          have := VR.slice (σ := σ.add A.nx mm) (b := A.nx) (o := 0) (o' := 0) (len := sLen + (k + 1)) (cap := sLen + (k + 1)) (cap' := newCap) (m := mm) (Sg.add_at σ A.nx mm) (Nat.le_refl _) c1 (.inr (by rw [m4, m3, hrow]; omega)) (.inl (by omega))
          rw [m1] at this
          exact this

end Go.Eng

namespace Go.Eng
open Go
variable [Env]

variable {P : Program} {base : Nat} {σ : Sg} {A : AS} {W : World} {t : T Value} {n : Nat} {a : Act}

/-- Of a built-in function: its run, and what comes of it. -/
def BSim (P : Program) (base : Nat) (σ : Sg) (A : AS) (W : World) (run : Result Next) (v : Value) (A1 : AS) : Prop :=
  ∃ σ1 W1 v', run = .ok (.value v') W1 ∧ R P base σ1 A1 W1 ∧ Ext A σ W A1 σ1 W1 ∧ VR σ1 v v'

theorem fastBuiltin_sound {b : Builtin} {ts : List TypeId} {args args' : List Value} {v : Value} (h : R P base σ A W) (ha : VRs σ args args') (e : fastBuiltin P b ts args = some v) (ty : TypeId) (cs : Array Bool) :
    BSim P base σ A W ((builtin b ⟨ts⟩ ty cs ⟨args'⟩).run P W) v A := by
  unfold fastBuiltin at e
  split at e <;> try (simp at e; done)
  · split at e <;> try (simp at e; done)
    · rename_i tt more x k c
      split at e <;> try (simp at e; done)
      rename_i el hu
      simp at e; subst e
      obtain ⟨x', _, rfl, hx, ha⟩ := ha.snoc_inv
      cases ha
      have : ∃ p c', x' = .slice p k c' := by
        cases hx with
        | atom q => exact ⟨_, _, rfl⟩
        | slice => exact ⟨_, _, rfl⟩
      obtain ⟨p, c', rfl⟩ := this
      exact ⟨σ, W, _, by simp [builtin, Builtin.len_, run_underlying tt hu, goInt], h, Ext.refl _ _ _, .atom rfl⟩
    · rename_i tt more s
      split at e <;> try (simp at e; done)
      rename_i hu
      simp at e; subst e
      obtain ⟨x', _, rfl, hx, ha⟩ := ha.snoc_inv
      cases ha
      have : x' = .string s := hx.eq_of_closed rfl
      subst this
      exact ⟨σ, W, _, by simp [builtin, Builtin.len_, run_underlying tt hu, goInt], h, Ext.refl _ _ _, .atom rfl⟩
  · split at e <;> try (simp at e; done)
    rename_i k i k' j
    cases hk : kEq k k' with
    | false => rw [hk] at e; simp at e
    | true =>
    rw [hk] at e
    simp only [cond_true, Option.some.injEq] at e; subst e
    obtain ⟨x', _, rfl, hx, ha⟩ := ha.snoc_inv
    obtain ⟨y', _, rfl, hy, ha⟩ := ha.snoc_inv
    cases ha
    have hx := hx.eq_of_closed rfl
    have hy := hy.eq_of_closed rfl
    subst hx hy
    refine ⟨σ, W, _, ?_, h, Ext.refl _ _ _, .atom rfl⟩
    rw [ltI_eq]
    by_cases q : i < j <;> simp [builtin, Builtin.max_, Builtin.max2, q]
  · split at e <;> try (simp at e; done)
    rename_i k i k' j
    cases hk : kEq k k' with
    | false => rw [hk] at e; simp at e
    | true =>
    rw [hk] at e
    simp only [cond_true, Option.some.injEq] at e; subst e
    obtain ⟨x', _, rfl, hx, ha⟩ := ha.snoc_inv
    obtain ⟨y', _, rfl, hy, ha⟩ := ha.snoc_inv
    cases ha
    have hx := hx.eq_of_closed rfl
    have hy := hy.eq_of_closed rfl
    subst hx hy
    refine ⟨σ, W, _, ?_, h, Ext.refl _ _ _, .atom rfl⟩
    rw [ltI_eq]
    by_cases q : j < i <;> simp [builtin, Builtin.min_, Builtin.min2, q]

theorem depth_succ : ∃ d, P.depth = d + 1 := ⟨2 * (P.types.size + Made.depth) + 1, rfl⟩
theorem lies_row {e u : TypeId} {count off k : Nat} (h1 : P.cellsOf e = 1) (h2 : sameLayout P P.depth e u = true) (h3 : off + k ≤ count) : liesAt P P.depth e count off u k = true := by
  obtain ⟨d, hd⟩ := depth_succ (P := P)
  have hr : rowAt P (sameLayout P P.depth · u) P.depth e count off k = true := by
    rw [hd]
    simp only [rowAt, h1]
    rw [if_neg (by decide)]
    simp only [Nat.div_one, Nat.mod_one, Bool.or_eq_true, Bool.and_eq_true, decide_eq_true_eq]
    exact .inl ⟨⟨by simp, h3⟩, by rw [← hd]; exact h2⟩
  have : ∀ D, D = P.depth → (∃ d, D = d + 1) → liesAt P D e count off u k = true := by
    rintro D hD ⟨d', rfl⟩
    simp only [liesAt, Bool.or_eq_true]
    exact .inl hr
  exact this _ rfl depth_succ

theorem unsafeString_unf (pt : TypeId) (more : List TypeId) (ty : TypeId) (ad : Addr) (kk : IntKind) (i : Int) (e1 : ¬ i < 0) (e2 : ¬ i > IntKind.i64.max) (e3 : ¬ i = 0) : ∃ r : Sem Value, Builtin.unsafeString_ ⟨pt :: more⟩ ty ⟨[.pointer (some ad), .int kk i]⟩ = (do
    if ← variablesAt ad (← elemOf pt) i.toNat then do
      let s ← loadBytes ad .empty i.toNat
      freeze ad i.toNat
      pure (.string s)
    else r) :=
  ⟨_, Eq.trans (show Builtin.unsafeString_ ⟨pt :: more⟩ ty ⟨[.pointer (some ad), .int kk i]⟩ = ite (i < 0) _ _ from rfl) ((if_neg e1).trans ((if_neg e2).trans (if_neg e3)))⟩

theorem hull_may {fz fz' nf : Nat × Nat} {off n δ : Nat} (hn : 0 < n) (hz0 : fz.2 = 0 → fz' = (0, 0)) (hfz : ∀ i, fz'.1 ≤ i + δ → i + δ < fz'.2 → mayFz fz i) (ho : 2 ^ 64 ≤ fz.2 ∨ fz'.1 ≤ fz'.2)
    (hnf : nf = if fz'.1 = fz'.2 then (off + δ, off + δ + n) else (min fz'.1 (off + δ), max fz'.2 (off + δ + n))) :
    ((hullFz fz off n).2 = 0 → nf = (0, 0)) ∧ (∀ i, nf.1 ≤ i + δ → i + δ < nf.2 → mayFz (hullFz fz off n) i) ∧ (2 ^ 64 ≤ (hullFz fz off n).2 ∨ nf.1 ≤ nf.2) := by
  cases hz : Nat.beq fz.2 0 with
  | true =>
    obtain rfl := hz0 (Nat.eq_of_beq_eq_true hz)
    have h : hullFz fz off n = (off, off + n) := by simp [hullFz, hz]
    rw [h]
    simp at hnf
    subst hnf
    refine ⟨fun q => by simp at q; omega, fun i i1 i2 => ⟨by simp at i1 ⊢; omega, .inl (by simp at i2 ⊢; omega)⟩, .inr (by simp)⟩
  | false =>
    obtain ⟨M, hM, h, m1, m2⟩ : ∃ M, M = (bif Nat.ble (off + n) fz.2 then fz.2 else off + n) ∧ hullFz fz off n = (0, M) ∧ fz.2 ≤ M ∧ off + n ≤ M := by
      refine ⟨_, rfl, by simp [hullFz, hz], ?_, ?_⟩
      · cases q : Nat.ble (off + n) fz.2 with
        | true => exact Nat.le_refl _
        | false =>
          have : ¬ off + n ≤ fz.2 := fun w => by rw [Nat.ble_eq_true_of_le w] at q; simp at q
          simp; omega
      · cases q : Nat.ble (off + n) fz.2 with
        | true => exact Nat.le_of_ble_eq_true q
        | false => simp
    rw [h]
    refine ⟨fun q => by simp at q; omega, fun i i1 i2 => ⟨Nat.zero_le _, ?_⟩, ?_⟩
    · show i < M ∨ 2 ^ 64 ≤ M
      by_cases hb : 2 ^ 64 ≤ fz.2
      · exact .inr (Nat.le_trans hb m1)
      · have hle := ho.resolve_left hb
        by_cases he : fz'.1 = fz'.2
        · rw [if_pos he] at hnf
          subst hnf
          simp at i2
          exact .inl (by omega)
        · rw [if_neg he] at hnf
          subst hnf
          simp only at i1 i2
          by_cases h1 : i + δ < off + δ + n
          · exact .inl (by omega)
          · have h2 : i + δ < fz'.2 := by omega
            by_cases h3 : fz'.1 ≤ i + δ
            · rcases (hfz i h3 h2).2 with q | q
              · exact .inl (by omega)
              · exact absurd q hb
            · rcases (hfz (fz'.1 - δ) (by omega) (by omega)).2 with q | q
              · exact .inl (by omega)
              · exact absurd q hb
    · by_cases hb : 2 ^ 64 ≤ fz.2
      · exact .inl (Nat.le_trans hb m1)
      · have hle := ho.resolve_left hb
        right
        split at hnf <;> subst hnf <;> simp <;> omega

theorem repL_length (z : List Value) : ∀ n, (repL n z).length = n * z.length
  | 0 => by simp [repL]
  | n + 1 => by rw [repL, List.length_append, repL_length z n, Nat.succ_mul, Nat.add_comm]
theorem repL_get (z : List Value) : ∀ n i, i < n * z.length → (repL n z)[i]? = z[i % z.length]?
  | 0, i, h => by simp at h
  | n + 1, i, h => by
    rw [repL]
    by_cases hi : i < z.length
    · rw [List.getElem?_append_left hi, Nat.mod_eq_of_lt hi]
    · rw [List.getElem?_append_right (by omega), repL_get z n _ (by rw [Nat.succ_mul] at h; omega)]
      have : i = (i - z.length) + z.length := by omega
      conv => rhs; rw [this, Nat.add_mod_right]
theorem zeroCells_repL (z : Array Value) (n : Nat) : (Builtin.zeroCells z n).toList = repL n z.toList := by
  apply List.ext_getElem?
  intro i
  by_cases hi : i < n * z.size
  · rw [repL_get _ _ _ (by simpa using hi)]
    have hz : 0 < z.size := by
      rcases Nat.eq_zero_or_pos z.size with q | q
      · rw [q] at hi; simp at hi
      · exact q
    have hm : i % z.size < z.size := Nat.mod_lt _ hz
    simp [Builtin.zeroCells, hi, hm]
  · rw [List.getElem?_eq_none (by simp [Builtin.zeroCells]; omega), List.getElem?_eq_none (by rw [repL_length]; simpa using hi)]
theorem closedVs_app : ∀ {l m : List Value}, closedVs l = true → closedVs m = true → closedVs (l ++ m) = true
  | [], _, _, h => h
  | v :: l, m, h, k => by
    simp only [List.cons_append, closedVs, Bool.and_eq_true] at h ⊢
    exact ⟨h.1, closedVs_app h.2 k⟩
theorem closed_repL {z : List Value} (hz : closedVs z = true) : ∀ n, closedVs (repL n z) = true
  | 0 => rfl
  | n + 1 => closedVs_app hz (closed_repL hz n)
theorem aBuiltin_sound {b : Builtin} {ts : List TypeId} {args args' : List Value} {r : ANext} {A1 : AS} (h : R P base σ A W) (ha : VRs σ args args') (e : aBuiltin P b ts args A = some (r, A1)) (ty : TypeId) (cs : Array Bool) :
    ∃ v, r = .value v ∧ BSim P base σ A W ((builtin b ⟨ts⟩ ty cs ⟨args'⟩).run P W) v A1 := by
  unfold aBuiltin at e
  split at e <;> try (simp at e; done)
  · -- append
    split at e <;> try (simp at e; done)
    rename_i v A' hq
    simp at e; obtain ⟨rfl, rfl⟩ := e
    obtain ⟨σ1, W1, v', q1, q2, q3, q4⟩ := append_sound h ha hq ty
    exact ⟨v, rfl, σ1, W1, v', by simp [builtin, q1], q2, q3, q4⟩
  · -- len
    split at e <;> try (simp at e; done)
    rename_i tt more x
    obtain ⟨x', _, rfl, hx, ha⟩ := ha.snoc_inv
    cases ha
    split at e <;> try (simp at e; done)
    · rename_i el p k c hu
      simp at e; obtain ⟨rfl, rfl⟩ := e
      have : ∃ p c', x' = .slice p k c' := by
        cases hx with
        | atom q => exact ⟨_, _, rfl⟩
        | slice => exact ⟨_, _, rfl⟩
      obtain ⟨p, c', rfl⟩ := this
      exact ⟨_, rfl, σ, W, _, by simp [builtin, Builtin.len_, run_underlying tt hu], h, Ext.refl _ _ _, .atom rfl⟩
    · rename_i kt et bb hu
      split at e <;> try (simp at e; done)
      rename_i es c hg
      simp at e; obtain ⟨rfl, rfl⟩ := e
      cases hx with
      | atom q => simp [atomV] at q
      | @map _ m hb =>
      obtain ⟨_, w1, es', rfl, w2⟩ := h.live _ _ _ hg hb
      refine ⟨_, rfl, σ, W, _, by simp [builtin, Builtin.len_, run_underlying tt hu, getObj, Sem.run, w1]; rfl, h, Ext.refl _ _ _, ?_⟩
      have := w2.length
      simp at this
      rw [show (es'.size : Int) = (es.length : Int) by omega]
      exact .atom rfl
    · rename_i arr hu
      split at e <;> try (simp at e; done)
      rename_i k el hu2
      simp at e; obtain ⟨rfl, rfl⟩ := e
      exact ⟨_, rfl, σ, W, _, by simp [builtin, Builtin.len_, run_underlying tt hu, run_underlying arr hu2], h, Ext.refl _ _ _, .atom rfl⟩
  · -- copy
    split at e <;> try (simp at e; done)
    rename_i tt more bs dLen dc src
    obtain ⟨x', _, rfl, hx, ha⟩ := ha.snoc_inv
    obtain ⟨y', _, rfl, hy, ha⟩ := ha.snoc_inv
    cases ha
    split at e <;> try (simp at e; done)
    rename_i el m hu hm
    split at e <;> try (simp at e; done)
    rename_i sz hsz
    split at e <;> try (simp at e; done)
    · rename_i new bb off hnew
      split at e <;> try (simp at e; done)
      rename_i A' hp
      simp at e; obtain ⟨rfl, rfl⟩ := e
      obtain ⟨new', n1, n2⟩ := cells_sound h hy (fun len hl => by rw [hm] at hl; simp at hl; subst hl; exact Nat.min_le_left _ _) hnew
      have hlr := aLen_sound (P := P) hy hm W
      cases hx with
      | atom q => simp [atomV] at q
      | @slice _ _ o' _ _ cap' mm hb d1 d2 d3 d4 =>
      obtain ⟨W1, w1, w2, w3⟩ := putCells_sound h hb n2 hp
      have hst : (storeCells ⟨mm.c, o', none⟩ new').run P W = .ok () W1 := by
        by_cases hn : new' = []
        · subst hn; simpa [storeCells] using w1
        · have h0 : Nat.min m dLen ≠ 0 := fun q => hn (by
            have := n2.length
            rw [aCells_length hnew, q] at this
            simpa using this)
          have h0' : dLen ≠ 0 := fun q => h0 (by subst q; exact Nat.min_zero _)
          have : o' = off + mm.δ := by rcases d4 with d4 | d4 <;> omega
          rw [this]; exact w1
      refine ⟨_, rfl, σ, W1, _, ?_, w2, w3, .atom rfl⟩
      simp only [builtin, Builtin.copy_, List.getElem?_toArray, List.getElem?_cons_zero, List.getElem?_cons_succ, Sem.run_bind, run_underlying tt hu, Result.andThen_ok, hlr, run_sizeOf el hsz, n1, hst, Sem.run_pure]
    · rename_i new hnew
      simp at e; obtain ⟨rfl, rfl⟩ := e
      obtain ⟨new', n1, n2⟩ := cells_sound h hy (fun len hl => by rw [hm] at hl; simp at hl; subst hl; exact Nat.min_le_left _ _) hnew
      have hlr := aLen_sound (P := P) hy hm W
      have : x' = .slice none dLen dc := hx.eq_of_closed rfl
      subst this
      refine ⟨_, rfl, σ, W, _, ?_, h, Ext.refl _ _ _, .atom rfl⟩
      simp only [builtin, Builtin.copy_, List.getElem?_toArray, List.getElem?_cons_zero, List.getElem?_cons_succ, Sem.run_bind, run_underlying tt hu, Result.andThen_ok, hlr, run_sizeOf el hsz, n1, Sem.run_pure]
  · -- String out of bytes
    split at e <;> try (simp at e; done)
    rename_i pt more bb off ln
    obtain ⟨x', _, rfl, hx, ha⟩ := ha.snoc_inv
    obtain ⟨y', _, rfl, hy, ha⟩ := ha.snoc_inv
    cases ha
    split at e <;> try (simp at e; done)
    rename_i tr size z u el fz k eu hg hln hu
    cases hc : (Nat.beq (P.cellsOf el) 1 && sameLayout P P.depth el eu && Nat.ble (k + 1) (2 ^ 40) && Nat.ble (off + (k + 1)) size && Nat.ble A.lo bb) with
    | false => rw [hc] at e; simp at e
    | true =>
    rw [hc] at e
    simp only [cond_true] at e
    simp only [Bool.and_eq_true] at hc
    obtain ⟨⟨⟨⟨h1, h2⟩, h3⟩, h4⟩, h5⟩ := hc
    have h1 := Nat.eq_of_beq_eq_true h1
    have h3 := Nat.le_of_ble_eq_true h3
    have h4 := Nat.le_of_ble_eq_true h4
    have h5 := Nat.le_of_ble_eq_true h5
    split at e <;> try (simp at e; done)
    rename_i l hl
    split at e <;> try (simp at e; done)
    rename_i ns hns
    simp at e; obtain ⟨rfl, rfl⟩ := e
    obtain ⟨kk, rfl⟩ := natOf_inv hln
    have hy := hy.eq_of_closed rfl
    subst hy
    cases hx with
    | atom q => simp [atomV] at q
    | @ptr _ _ m hb =>
    obtain ⟨_, w1, cells, fz', rfl, hN, hmu, hle, h60, hcell, hz0, hfz, hδ⟩ := h.live _ _ _ hg hb
    obtain ⟨l', q1, q2, q3⟩ := h.cells hg hb h4 hl
    obtain rfl := bytesOf_spec hns
    have hl' : l' = ns.map (Value.int .u8) := q1.eq_of_closed (closed_bytes ns)
    subst hl'
    have hlen : ns.length = k + 1 := by simpa using q2
    have hload := run_loadBytes (P := P) m.c ns (off + m.δ) .empty W (fun j v hv => q3 j (.int .u8 v) (by simp [hv]))
    rw [hlen] at hload
    have hstr : (⟨⟨ByteArray.empty.data.toList ++ ns.map fun n => UInt8.ofNat n.toNat⟩⟩ : ByteArray) = strOf ns := by
      simp [strOf, ByteArray.empty, ByteArray.emptyWithCapacity]
      rfl
    rw [hstr] at hload
    have hlies : liesAt P P.depth el (cells.size / P.cellsOf el) (off + m.δ) eu (k + 1) = true := by
      rw [h1, Nat.div_one]
      exact lies_row h1 h2 (by omega)
    have hclt := (Array.getElem?_eq_some_iff.1 w1).1
    have hfr := frozen_upd (W := W) (c := m.c) (off := off + m.δ) (k := k + 1) w1 (by omega)
    obtain ⟨hh1, hh2, hh3⟩ := hull_may (off := off) (n := k + 1) (δ := m.δ) (by omega) hz0 hfz hδ.2 rfl
    have hup := h.upd (b := bb) (m := m) (W1 := W.freeze ⟨m.c, off + m.δ, none⟩ (k + 1)) (o1 := .cells tr size z u el (hullFz fz off (k + 1)))
      (by rw [hg]; rfl) hb h5 (by rw [hfr]; simp) (fun y hy => by rw [hfr, Array.getElem?_setIfInBounds_ne (Ne.symm hy)]) (by rw [hfr, Array.getElem?_setIfInBounds]; simp [hclt])
      ⟨cells, _, rfl, hN, hmu, hle, h60, hcell, hh1, hh2, hδ.1, hh3⟩
    refine ⟨_, rfl, σ, _, .string (strOf ns), ?_, hup.1, hup.2, .atom rfl⟩
    have e1 : ¬ ((Int.ofNat (k + 1)) < 0) := by simp; omega
    have e2 : ¬ ((Int.ofNat (k + 1)) > IntKind.i64.max) := by
      have : IntKind.i64.max = 9223372036854775807 := by decide
      rw [this]; simp; omega
    have e3 : ¬ ((Int.ofNat (k + 1)) = 0) := by simp; omega
    simp only [builtin, Sem.run_bind]
    obtain ⟨r9, hr9⟩ := unsafeString_unf pt more ty ⟨m.c, _, none⟩ _ _ e1 e2 e3
    rw [hr9]
    simp only [elemOf, variablesAt, program, shape, Sem.run_bind, run_underlying pt hu, Result.andThen_ok, Sem.run, World.shape?, w1, Sem.run_pure]
    rw [show (Int.ofNat (k + 1)).toNat = k + 1 from rfl, hlies]
    simp only [if_true, Sem.run_bind, hload, Result.andThen_ok, freeze, Sem.run, Sem.run_pure]
  · -- cap
    split at e <;> try (simp at e; done)
    rename_i tt more k c
    split at e <;> try (simp at e; done)
    rename_i el hu
    simp at e; obtain ⟨rfl, rfl⟩ := e
    obtain ⟨x', _, rfl, hx, ha⟩ := ha.snoc_inv
    cases ha
    have : x' = .slice none k c := hx.eq_of_closed rfl
    subst this
    exact ⟨_, rfl, σ, W, _, by simp [builtin, Builtin.cap_, run_underlying tt hu], h, Ext.refl _ _ _, .atom rfl⟩
  · -- clear
    split at e <;> try (simp at e; done)
    · rename_i tt more b off k c
      split at e <;> try (simp at e; done)
      rename_i el hu
      split at e <;> try (simp at e; done)
      rename_i z hz
      split at e <;> try (simp at e; done)
      rename_i A' hp
      simp at e; obtain ⟨rfl, rfl⟩ := e
      obtain ⟨x', _, rfl, hx, ha⟩ := ha.snoc_inv
      cases ha
      cases hx with
      | atom q => simp [atomV] at q
      | @slice _ _ o' _ _ cap' m hb d1 d2 d3 d4 =>
      obtain rfl : o' = off + m.δ := by rcases d4 with q | ⟨q, _⟩ <;> omega
      obtain ⟨zv, hr, hcl, hzz⟩ := run_zeroValue el hz W
      have hcz : VRs σ (repL (k + 1) z) (repL (k + 1) z) := closed_VRs σ _ (closed_repL (zeroP_closed hz) _)
      obtain ⟨W1, q1, q2, q3⟩ := putCells_sound h hb hcz hp
      refine ⟨_, rfl, σ, W1, .tuple #[], ?_, q2, q3, .tuple .nil⟩
      simp only [builtin, Builtin.clear_, List.getElem?_toArray, List.getElem?_cons_zero, Sem.run_bind, run_underlying tt hu, Result.andThen_ok, hr, zeroCells_repL, hzz, q1, Sem.run_pure]
    · rename_i tt more p c
      split at e <;> try (simp at e; done)
      rename_i el hu
      simp at e; obtain ⟨rfl, rfl⟩ := e
      obtain ⟨x', _, rfl, hx, ha⟩ := ha.snoc_inv
      cases ha
      have : ∃ p' c', x' = .slice p' 0 c' := by
        cases hx with
        | atom q => exact ⟨_, _, rfl⟩
        | slice => exact ⟨_, _, rfl⟩
      obtain ⟨p', c', rfl⟩ := this
      exact ⟨_, rfl, σ, W, .tuple #[], by cases p' <;> simp [builtin, Builtin.clear_, run_underlying tt hu], h, Ext.refl _ _ _, .tuple .nil⟩
    · rename_i tt more r
      split at e <;> try (simp at e; done)
      rename_i kt vt es cl hu hg
      cases hlo : Nat.ble A.lo r with
      | false => rw [hlo] at e; simp at e
      | true =>
      rw [hlo] at e
      simp at e; obtain ⟨rfl, rfl⟩ := e
      obtain ⟨x', _, rfl, hx, ha⟩ := ha.snoc_inv
      cases ha
      cases hx with
      | atom q => simp [atomV] at q
      | @map _ mm hb =>
      obtain ⟨o', e1, es', rfl, e2⟩ := h.live r _ mm hg hb
      have hclt := (Array.getElem?_eq_some_iff.1 e1).1
      have hup := h.upd (b := r) (m := mm) (o1 := .map [] cl) (o1' := .map #[] cl) (W1 := { W with heap := W.heap.setIfInBounds mm.c (.map #[] cl) }) (by rw [hg]; rfl) hb (Nat.le_of_ble_eq_true hlo)
        (by simp) (fun x hx => by simp [Array.getElem?_setIfInBounds_ne (Ne.symm hx)]) (by simp [Array.getElem?_setIfInBounds, hclt]) ⟨#[], rfl, .nil⟩
      refine ⟨_, rfl, σ, _, .tuple #[], ?_, hup.1, hup.2, .tuple .nil⟩
      simp [builtin, Builtin.clear_, run_underlying tt hu, getObj, setObj, Sem.run, e1]
  · -- SliceData
    split at e <;> try (simp at e; done)
    rename_i ad k c
    simp at e; obtain ⟨rfl, rfl⟩ := e
    obtain ⟨x', _, rfl, hx, ha⟩ := ha.snoc_inv
    cases ha
    cases hx with
    | atom q => simp [atomV] at q
    | @slice bb off o' _ _ cap' mm hb d1 d2 d3 d4 =>
    have ho' : o' = off + mm.δ := by rcases d4 with d4 | d4 <;> omega
    have hc : cap' ≠ 0 := by omega
    refine ⟨_, rfl, σ, W, .pointer (some ⟨mm.c, o', none⟩), ?_, h, Ext.refl _ _ _, by rw [ho']; exact .ptr hb⟩
    have hun : Builtin.unsafeSliceData_ ⟨ts⟩ ty ⟨[.slice (some ⟨mm.c, o', none⟩) k cap']⟩ = (if cap' ≠ 0 then pure (.pointer (some ⟨mm.c, o', none⟩))
      else do
        if (← viewAt mm.c).isSome then pure (.pointer (some ⟨mm.c, o', none⟩))
        else pure (.pointer (some ⟨← newObj (.view ⟨mm.c, o', none⟩ (← elemOf ty)), 0, none⟩))) := rfl
    simp only [builtin, Sem.run_bind]
    rw [hun, if_pos hc]
    rfl

/-! Calls. -/
theorem run_callFunc_args (f : FuncId) (l : List Value) (W : World) : (callFunc f ⟨l⟩).run P W = (callFunc f l.toArray).run P W := rfl

theorem method_sound {ty : TypeId} {v v' : Value} {name : String} {g : FuncId} {r : Value} (hv : VR σ v v') (e : methodP P ty v name = some (g, r)) (W : World) (k : Nat) :
    ∃ r', (method (k + 1) ty v' name).run P W = .ok (g, r') W ∧ VR σ r r' := by
  unfold methodP at e
  split at e <;> try (simp at e; done)
  rename_i inf hinf
  split at e <;> try (simp at e; done)
  rename_i m hm
  cases hp : m.path.isEmpty with
  | false => rw [hp] at e; simp at e
  | true =>
  rw [hp] at e
  simp only [cond_true] at e
  have hpath : m.path.toList = [] := by simpa using hp
  split at e <;> try (simp at e; done)
  · rename_i f el hf hu
    simp at e; obtain ⟨rfl, rfl⟩ := e
    exact ⟨v', by simp [method, run_typeInfo ty hinf, hm, hpath, follow, hf, receiverAt, run_underlying ty hu, Place.get], hv⟩
  · rename_i f d hno hf hu
    simp at e; obtain ⟨rfl, rfl⟩ := e
    refine ⟨v', ?_, hv⟩
    simp only [method, Sem.run_bind, run_typeInfo ty hinf, Result.andThen_ok, hm, hpath, follow, hf, receiverAt, run_underlying ty hu, Sem.run_pure]
    cases d <;> first | rfl | (exfalso; exact hno _ _ rfl rfl) | (exfalso; exact hno _ rfl rfl) | (exfalso; exact hno rfl)

end Go.Eng
/- Part of an abstract machine that runs the program's code in Lean's kernel, and of the proof that what it answers every run of the model answers (Go.Eng; program-independent). No condition. -/
set_option linter.unusedSectionVars false
namespace Go.Eng
open Go
variable [Env]

variable {P : Program} {base : Nat} {σ : Sg} {A : AS} {W : World} {t : T Value} {n : Nat} {a : Act}

/-- The run of a call, its function value and arguments at hand. -/
def callRun (P : Program) (f : Value) (args : List Value) (W : World) : Result Next := (do let d ← Deferred.ofValue f ⟨args⟩; invoke d.target d.args : Sem Next).run P W

theorem ofValue_func (fn : Fn) (x y l : List Value) : Deferred.ofValue (.func fn ⟨x⟩ ⟨y⟩) ⟨l⟩ = pure { target := .fn fn ⟨y⟩, args := ⟨x ++ l⟩ } := by
  simp only [Deferred.ofValue]; congr 2; apply Array.toList_inj.1; simp

theorem run_callMethod {ty : TypeId} {v : Value} {name : String} {g : FuncId} {r : Value} (h : (method (P.types.size + Made.depth) ty v name).run P W = .ok (g, r) W) (rest : List Value) :
    (callMethod (.iface ty v) name ⟨rest⟩).run P W = (callFunc g ⟨r :: rest⟩).run P W := by
  simp only [callMethod, program, Sem.run_bind, Sem.run, Result.andThen_ok, h, Sem.run_pure]
  congr 2
  apply Array.toList_inj.1; simp

theorem target_sound {f f' : Value} {args args' : List Value} {r : ANext} {A1 : AS} (h : R P base σ A W) (hf : VR σ f f') (ha : VRs σ args args') (e : aTarget P f args A = some (r, A1)) :
    OpSim P base σ A W (callRun P f' args' W) r A1 := by
  unfold aTarget at e
  split at e <;> try (simp at e; done)
  · rename_i g first cap
    simp at e; obtain ⟨rfl, rfl⟩ := e
    cases hf with
    | atom q => simp [atomV] at q
    | @func _ x y x' y' hno hx hy =>
    refine ⟨x' ++ args' ++ y', ?_, by simpa using (hx.append ha).append hy, rfl⟩
    simp only [callRun, ofValue_func, Sem.run_bind, Sem.run_pure, Result.andThen_ok, invoke]
    congr 2
    apply Array.toList_inj.1; simp
  · rename_i l first cap
    simp at e; obtain ⟨rfl, rfl⟩ := e
    cases hf with
    | atom q => simp [atomV] at q
    | func hno => exact absurd rfl (hno _)
    | @yield _ m hm =>
    exact ⟨m, args', hm, by simp [callRun, Deferred.ofValue, invoke], by simpa using ha, rfl⟩
  · rename_i name first cap
    split at e <;> try (simp at e; done)
    rename_i ty v rest hl
    split at e <;> try (simp at e; done)
    rename_i g rv hm
    simp at e; obtain ⟨rfl, rfl⟩ := e
    cases hf with
    | atom q => simp [atomV] at q
    | @func _ x y x' y' hno hx hy =>
    have hall := hx.append ha
    simp only at hl
    rw [hl] at hall
    obtain ⟨w', rest', hw, hv, hr⟩ := hall.snoc_inv
    cases hv with
    | atom q => simp [atomV] at q
    | @iface _ _ v' hv =>
    obtain ⟨rv', q1, q2⟩ := method_sound hv hm W (P.types.size + 99)
    refine ⟨rv' :: rest', ?_, .cons q2 hr, rfl⟩
    simp only [callRun, ofValue_func, Sem.run_bind, Sem.run_pure, Result.andThen_ok, invoke]
    rw [hw]
    have : ((⟨.iface ty v' :: rest'⟩ : Array Value)[0]?) = some (.iface ty v') := rfl
    simp only [this]
    have h2 : (⟨.iface ty v' :: rest'⟩ : Array Value).extract 1 (⟨.iface ty v' :: rest'⟩ : Array Value).size = ⟨rest'⟩ := by
      apply Array.toList_inj.1; simp
    rw [h2]
    exact run_callMethod q1 rest'

theorem map_args (c : Array Operand) (f : Operand → Value) : c.map f = ⟨c.toList.map f⟩ := by apply Array.toList_inj.1; simp

theorem BSim.op {run : Result Next} {v : Value} {A1 : AS} (h : BSim P base σ A W run v A1) : OpSim P base σ A W run (.value v) A1 := by
  obtain ⟨σ1, W1, v', a, b, c, d⟩ := h
  exact ⟨σ1, W1, v', .inl a, b, c, d⟩

theorem call_sound {o : Oper} {c : Call} {r : ANext} {A1 : AS} (ho : o.op = .call c) (h : R P base σ A W) (ht : TR σ t n a.tmps) (e : xCall P o c t A = some (r, A1)) :
    OpSim P base σ A W ((execOp a.eval o).run P W) r A1 := by
  cases hcal : c.callee with
  | builtin b =>
    have hb := hcal
    simp only [xCall, hcal] at e
    unfold xBuiltin builtinV at e
    split at e <;> try (simp at e; done)
    rename_i args hargs
    have ha := evals_sound h ht hargs
    have hrun : (execOp a.eval o).run P W = (builtin b c.argTypes o.type (c.args.map fun | .const _ => true | _ => false) ⟨c.args.toList.map a.eval⟩).run P W := by
      simp only [execOp, ho, resolve, hb, Sem.run_bind, Sem.run_pure, Result.andThen_ok, invoke, map_args]
      rfl
    split at e
    · rename_i v hv
      simp at e; obtain ⟨rfl, rfl⟩ := e
      rw [hrun]
      exact (fastBuiltin_sound h ha hv _ _).op
    · split at e
      · rename_i q hq
        simp at e; subst e
        exact pure_sound (by rw [ho]; simp) h ht hq
      · obtain ⟨v, rfl, hB⟩ := aBuiltin_sound h ha e o.type (c.args.map fun | .const _ => true | _ => false)
        rw [hrun]
        exact hB.op
  | value f =>
    have hf := hcal
    simp only [xCall, hcal] at e
    unfold xCallV callV at e
    split at e <;> try (simp at e; done)
    rename_i fv args hfv hargs
    have := target_sound h (eval_sound h ht hfv) (evals_sound h ht hargs) e
    have hrun : (execOp a.eval o).run P W = callRun P (a.eval f) (c.args.toList.map a.eval) W := by
      simp only [execOp, ho, resolve, hf, callRun, map_args]
    rw [hrun]; exact this
  | invoke recv name =>
    have hf := hcal
    simp only [xCall, hcal] at e
    unfold xInvoke invokeV at e
    split at e <;> try (simp at e; done)
    rename_i ty v args hr hargs
    split at e <;> try (simp at e; done)
    rename_i g rv hm
    simp at e; obtain ⟨rfl, rfl⟩ := e
    have hv := eval_sound h ht hr
    have ha := evals_sound h ht hargs
    generalize hw : a.eval recv = w at hv
    cases hv with
    | atom q => simp [atomV] at q
    | @iface _ _ v' hv =>
    obtain ⟨rv', q1, q2⟩ := method_sound hv hm W (P.types.size + 99)
    refine ⟨rv' :: c.args.toList.map a.eval, ?_, .cons q2 ha, rfl⟩
    simp only [execOp, ho, resolve, hf, hw, Sem.run_bind, Sem.run_pure, Result.andThen_ok, invoke, map_args]
    have : ((#[Value.iface ty v'] ++ (⟨c.args.toList.map a.eval⟩ : Array Value))[0]?) = some (.iface ty v') := by simp
    simp only [this]
    have h2 : (#[Value.iface ty v'] ++ (⟨c.args.toList.map a.eval⟩ : Array Value)).extract 1 (#[Value.iface ty v'] ++ (⟨c.args.toList.map a.eval⟩ : Array Value)).size = ⟨c.args.toList.map a.eval⟩ := by
      apply Array.toList_inj.1; simp [List.take_of_length_le]
    rw [h2]
    exact run_callMethod q1 _

/-- EVERY OPERATION: what the abstract machine answers, the model answers. -/
theorem aOp_sound {o : Oper} {r : ANext} {A1 : AS} (h : R P base σ A W) (ht : TR σ t n a.tmps) (e : aOp P o t A = some (r, A1)) :
    OpSim P base σ A W ((execOp a.eval o).run P W) r A1 := by
  cases ho : o.op with
  | move x => simp only [aOp, ho] at e; have := move_sound h ht e; rw [show (execOp a.eval o).run P W = .ok (.value (a.eval x)) W by simp [execOp, ho]]; exact this
  | assign x => simp only [aOp, ho] at e; have := move_sound h ht e; rw [show (execOp a.eval o).run P W = .ok (.value (a.eval x)) W by simp [execOp, ho]]; exact this
  | pick c x y => simp only [aOp, ho] at e; have := pick_sound h ht e; simpa only [execOp, ho] using this
  | alloc ty => simp only [aOp, ho] at e; have := alloc_sound h e; simpa only [execOp, ho] using this
  | box ty x => simp only [aOp, ho] at e; have := box_sound h ht e; simpa only [execOp, ho] using this
  | build ty ps => simp only [aOp, ho] at e; have := build_sound h ht e; simpa only [execOp, ho] using this
  | buildSlice ty k ps => simp only [aOp, ho] at e; have := buildSlice_sound h ht e; simpa only [execOp, ho] using this
  | load ty x => simp only [aOp, ho] at e; have := xload_sound h ht e; simpa only [execOp, ho] using this
  | store ty x y => simp only [aOp, ho] at e; have := xstore_sound h ht e; simpa only [execOp, ho] using this
  | nilCheck x => simp only [aOp, ho] at e; exact nil_sound ho h ht e
  | binOp op ty x y yt => simp only [aOp, ho] at e; exact bin_sound ho h ht e
  | makeInterface ty x => simp only [aOp, ho] at e; have := iface_sound h ht e; simpa only [execOp, ho] using this
  | makeFunc fn x y => simp only [aOp, ho] at e; have := makeFunc_sound h ht e; simpa only [execOp, ho] using this
  | makeMap ty r =>
    cases r with
    | none => simp only [aOp, ho] at e; have := makeMap_sound (t := t) (ty := ty) h e; simpa only [execOp, ho, Option.map_none] using this
    | some x => simp only [aOp, ho] at e; exact pure_sound (by rw [ho]; simp) h ht e
  | makeSlice ty x y => simp only [aOp, ho] at e; have := makeSlice_sound h ht e; simpa only [execOp, ho] using this
  | slice ty x lo hi mx => simp only [aOp, ho] at e; exact slice_sound ho h ht e
  | fieldAddr s x f => simp only [aOp, ho] at e; have := field_sound h ht e; simpa only [execOp, ho] using this
  | field s x f => simp only [aOp, ho] at e; exact fieldOf_sound ho h ht e
  | indexAddr ty x ix => simp only [aOp, ho] at e; have := index_sound h ht e; simpa only [execOp, ho] using this
  | lookup ty x ix ok => simp only [aOp, ho] at e; have := lookup_sound h ht e; simpa only [execOp, ho] using this
  | mapUpdate ty m k x => simp only [aOp, ho] at e; have := mapUpdate_sound h ht e; simpa only [execOp, ho] using this
  | range ty x => simp only [aOp, ho] at e; have := range_sound h ht e; simpa only [execOp, ho] using this
  | next x b => simp only [aOp, ho] at e; have := next_sound (ty := o.type) h ht e; simpa only [execOp, ho] using this
  | insert ty m k x => simp only [aOp, ho] at e; have := mapUpdate_sound h ht e; simpa only [execOp, ho] using this
  | extract x i => simp only [aOp, ho] at e; have := extract_sound h ht e; simpa only [execOp, ho] using this
  | typeAssert x xt ty ok => simp only [aOp, ho] at e; have := assert_sound (xty := xt) h ht e; simpa only [execOp, ho] using this
  | convert src dst x => simp only [aOp, ho] at e; exact convert_sound ho h ht e
  | call c => simp only [aOp, ho] at e; exact call_sound ho h ht e
  | index ty x ix => simp only [aOp, ho] at e; exact indexStr_sound ho h ht e
  | unOp op ty x => simp only [aOp, ho] at e; exact not_sound ho h ht e
  | select cs b => simp [aOp, ho] at e
  | defer c => simp [aOp, ho] at e
  | go c => simp [aOp, ho] at e
  | _ => simp only [aOp, ho] at e; exact pure_sound (by rw [ho]; simp) h ht e

end Go.Eng

namespace Go.Eng
open Go
variable [Env]

variable {P : Program} {base : Nat} {σ : Sg} {A : AS} {W : World}

/-! The machine's steps, in any frame (a round's too). -/
def atR (b : Frame) (tm : Array Value) (ds : List Deferred) (todo : List Item) : Frame := { b with tmps := tm, defers := ds, todo := todo, mode := .run }
abbrev gor (fr : Frame) (cs : List Frame) : Goroutine := { frame := fr, callers := cs, status := .running, dying := none }

section steps
variable {b : Frame} {tm : Array Value} {ds : List Deferred} {k : List Item} {cs : List Frame}
theorem st_skip : Go.step P (lone (atR b tm ds (.code .skip :: k)) cs W) = .next (lone (atR b tm ds k) cs W) := step_lone_go (by simp [stepG, stepG.exec, atR])
theorem st_label {l : Nat} : Go.step P (lone (atR b tm ds (.code (.label l) :: k)) cs W) = .next (lone (atR b tm ds k) cs W) := step_lone_go (by simp [stepG, stepG.exec, atR])
theorem st_inBlock {id : Nat} : Go.step P (lone (atR b tm ds (.inBlock id :: k)) cs W) = .next (lone (atR b tm ds k) cs W) := step_lone_go (by simp [stepG, stepG.exec, atR])
theorem st_inScope {c : Code} : Go.step P (lone (atR b tm ds (.inScope c :: k)) cs W) = .next (lone (atR b tm ds k) cs W) := step_lone_go (by simp [stepG, stepG.exec, atR])
theorem st_seq {x y : Code} : Go.step P (lone (atR b tm ds (.code (.seq x y) :: k)) cs W) = .next (lone (atR b tm ds (.code x :: .code y :: k)) cs W) := step_lone_go (by simp [stepG, stepG.exec, atR])
theorem st_cond {c : Operand} {x y : Code} {t : Bool} (h : Frame.eval (atR b tm ds (.code (.cond c x y) :: k)) c = .bool t) :
    Go.step P (lone (atR b tm ds (.code (.cond c x y) :: k)) cs W) = .next (lone (atR b tm ds (.code (if t then x else y) :: k)) cs W) := step_lone_go (by
  simp only [atR] at h; simp [stepG, stepG.exec, atR, h])
theorem st_block {id : Nat} {c : Code} : Go.step P (lone (atR b tm ds (.code (.block id c) :: k)) cs W) = .next (lone (atR b tm ds (.code c :: .inBlock id :: k)) cs W) := step_lone_go (by simp [stepG, stepG.exec, atR])
theorem st_loop {c : Code} : Go.step P (lone (atR b tm ds (.code (.loop c) :: k)) cs W) = .next (lone (atR b tm ds (.code c :: .inLoop c :: k)) cs W) := step_lone_go (by simp [stepG, stepG.exec, atR])
theorem st_inLoop {c : Code} : Go.step P (lone (atR b tm ds (.inLoop c :: k)) cs W) = .next (lone (atR b tm ds (.code c :: .inLoop c :: k)) cs W) := step_lone_go (by simp [stepG, stepG.exec, atR])
theorem st_scope {c : Code} : Go.step P (lone (atR b tm ds (.code (.scope c) :: k)) cs W) = .next (lone (atR b tm ds (.code c :: .inScope c :: k)) cs W) := step_lone_go (by simp [stepG, stepG.exec, atR])
theorem st_exit {id : Nat} {k' : List Item} (h : exitTo id k = some k') : Go.step P (lone (atR b tm ds (.code (.exit id) :: k)) cs W) = .next (lone (atR b tm ds k') cs W) := step_lone_go (by simp [stepG, stepG.exec, atR, h])
theorem st_region {id : Nat} {ops : Array Oper} : Go.step P (lone (atR b tm ds (.code (.region id ops false) :: k)) cs W) = .next (lone (atR b tm ds (.inRegion ops (List.range ops.size) :: k)) cs W) :=
  step_lone_go (by simp [stepG, stepG.exec, atR])
theorem st_region_draw {id : Nat} {ops : Array Oper} : Go.step P (lone (atR b tm ds (.code (.region id ops true) :: k)) cs W) =
    .next (lone (atR b tm ds (.inRegion ops (Region.schedule (P.follows .mixedOrders) ops (W.tape W.drawn (.order b.fn id))) :: k)) cs { W with drawn := W.drawn + 1 }) :=
  step_lone_go (by simp [stepG, stepG.exec, atR, choose, Sem.run, Question.forced, Question.cut])
theorem st_region_end {ops : Array Oper} : Go.step P (lone (atR b tm ds (.inRegion ops [] :: k)) cs W) = .next (lone (atR b tm ds k) cs W) := step_lone_go (by simp [stepG, stepG.exec, atR])

def putA (tm : Array Value) (dst : Option Tmp) (v : Value) : Array Value := match dst with
  | some d => tm.setIfInBounds d v
  | none => tm
theorem finish_op {ops : Array Oper} {i : Nat} {rest : List Nat} (v : Value) : (atR b tm ds (.inRegion ops (i :: rest) :: k)).finish v = atR b (putA tm ((ops[i]?).bind (·.dst)) v) ds (.inRegion ops rest :: k) := by
  cases h : (ops[i]?).bind (·.dst) <;> simp [Frame.finish, atR, putA, h]
theorem st_op_skip {ops : Array Oper} {i : Nat} {rest : List Nat} (h : ((ops[i]?).map (Region.wanted · (yielded ops tm))).getD false = false) :
    Go.step P (lone (atR b tm ds (.inRegion ops (i :: rest) :: k)) cs W) = .next (lone (atR b (putA tm ((ops[i]?).bind (·.dst)) undef) ds (.inRegion ops rest :: k)) cs W) := by
  rw [← finish_op]
  exact step_lone_go (by simp only [atR] at *; simp [stepG, stepG.exec, h])
theorem eval_atR {todo : List Item} : Frame.eval (atR b tm ds todo) = Act.eval ⟨tm, ds⟩ := by funext x; cases x <;> rfl
theorem stepG_atR {ops : Array Oper} {i : Nat} {rest : List Nat} {o : Oper} (ho : ops[i]? = some o) (hw : Region.wanted o (yielded ops tm) = true) (hd : ∀ c, o.op ≠ .defer c) :
    stepG P true (gor (atR b tm ds (.inRegion ops (i :: rest) :: k)) cs) W = stepG.apply P true (atR b tm ds (.inRegion ops (i :: rest) :: k)) cs none (execOp (Act.eval ⟨tm, ds⟩) o) W := by
  have he := eval_atR (b := b) (tm := tm) (ds := ds) (todo := .inRegion ops (i :: rest) :: k)
  obtain ⟨dst, op, ty, pos, after, guard⟩ := o
  simp only [atR] at he ⊢
  simp only [stepG, stepG.exec, stepG.oper, Frame.oper?, ho, hw, Option.map_some, Option.getD_some, if_true, he]
  cases b.roundOf with
  | none => rfl
  | some l => cases op <;> first | rfl | exact absurd rfl (hd _)
end steps

/-! What comes of an operation's run. -/
section applies
variable {fr0 fr : Frame} {cs : List Frame} {W0 W1 : World} {s : Sem Next}
/-- A machine that carries out s for the frame fr. -/
def Does (P : Program) (fr0 : Frame) (cs : List Frame) (W0 : World) (fr : Frame) (s : Sem Next) (W : World) : Prop :=
  (stepG P true (gor fr0 cs) W0).bare = (stepG.apply P true fr cs none s W).bare
def plainTodo : List Item → Bool
  | .inRegion _ _ :: _ => true
  | .inRangeFunc _ :: _ => true
  | .code _ :: _ => true
  | _ => false
theorem does_value {v : Value} (h : Does P fr0 cs W0 fr s W) (hr : s.run P W = .ok (.value v) W1) : Go.step P (lone fr0 cs W0) = .next (lone (fr.finish v) cs W1) :=
  step_lone_go (by rw [h]; simp [stepG.apply, hr])
theorem does_skip (h : Does P fr0 cs W0 fr s W) (hr : s.run P W = .ok .skip W1) : Go.step P (lone fr0 cs W0) = .next (lone (fr.finish undef) cs W1) :=
  step_lone_go (by rw [h]; simp [stepG.apply, hr])
theorem does_enter {f : FuncId} {args : Array Value} (h : Does P fr0 cs W0 fr s W) (ht : plainTodo fr.todo = true) (hr : s.run P W = .ok (.enter f args) W1) :
    Go.step P (lone fr0 cs W0) = .next (lone (Frame.enter P f args .normal) (fr :: cs) W1) :=
  step_lone_go (by
    rw [h]
    simp only [stepG.apply, Sem.runT_eq, hr, GStep.bare_after]
    cases hk : fr.todo with
    | nil => rfl
    | cons x l => cases x <;> first | rfl | (simp [hk, plainTodo] at ht))
theorem does_round {l : Nat} {f : FuncId} {tmps : Array Value} {as_ bo : Code} (h : Does P fr0 cs W0 fr s W) (hr : s.run P W = .ok (.round l f tmps as_ bo) W1) :
    Go.step P (lone fr0 cs W0) = .next (lone (Frame.round l f tmps as_ bo .normal) (fr :: cs) W1) :=
  step_lone_go (by rw [h]; simp [stepG.apply, hr])
end applies

/-- How a piece of code is left. -/
def Arr (P : Program) (m : Machine) (b : Frame) (k : List Item) (cs : List Frame) (e : Ex) (tm : Array Value) (ds : List Deferred) (W : World) : Prop := match e with
  | .normal => Steps P m (lone (atR b tm ds k) cs W)
  | .exit id => ∃ k', Steps P m (lone (atR b tm ds (.code (.exit id) :: k')) cs W) ∧ exitTo id k' = exitTo id k
  | .ret => ∃ k', Steps P m (lone (atR b tm ds (.code .ret :: k')) cs W)
theorem Arr.of_steps {m m1 : Machine} {b : Frame} {k : List Item} {cs : List Frame} {e : Ex} {tm : Array Value} {ds : List Deferred} (h : Steps P m m1) (h' : Arr P m1 b k cs e tm ds W) : Arr P m b k cs e tm ds W := by
  cases e with
  | normal => exact h.trans h'
  | exit id => obtain ⟨k', a, c⟩ := h'; exact ⟨k', h.trans a, c⟩
  | ret => obtain ⟨k', a⟩ := h'; exact ⟨k', h.trans a⟩

/-- The deferred marks of a frame. -/
inductive DR (σ : Sg) : List Dfr → List Deferred → Prop
  | nil : DR σ [] []
  | cons {d : Nat} {m : Im} {l : List Dfr} {l' : List Deferred} : σ d = some m → DR σ l l' → DR σ (.mark d :: l) ({ target := .collected m.c, args := #[] } :: l')
  | call {f : FuncId} {vs a c : List Value} {l : List Dfr} {l' : List Deferred} : VRs σ vs (a ++ c) → DR σ l l' → DR σ (.call f vs :: l) ({ target := .fn (.func f) ⟨c⟩, args := ⟨a⟩ } :: l')
theorem DR.mono {σ τ : Sg} (h : σ.le τ) : ∀ {l : List Dfr} {l' : List Deferred}, DR σ l l' → DR τ l l'
  | _, _, .nil => .nil
  | _, _, .cons a b => .cons (h _ _ a) (DR.mono h b)
  | _, _, .call a b => .call (a.mono h) (DR.mono h b)
/-- Nobody panics whom this frame could hear. -/
def Calm (b : Frame) (cs : List Frame) : Prop := tryRecover b cs = none
def RD (σ : Sg) : Option Nat → Option Nat → Prop
  | none, none => True
  | some l, some c => ∃ m, σ l = some m ∧ m.c = c
  | _, _ => False
theorem RD.mono {σ τ : Sg} (h : σ.le τ) {x y : Option Nat} (r : RD σ x y) : RD τ x y := by
  cases x <;> cases y <;> first | exact r | (obtain ⟨m, a, b⟩ := r; exact ⟨m, h _ _ a, b⟩)

/-- Of code. -/
def CodeOK (P : Program) (base : Nat) (ih : Task → Out) : Prop := ∀ c F A e F1 A1, ih (.code c F A) = .code e F1 A1 → ∀ σ W tm ds, R P base σ A W → TR σ F.t F.n tm → DR σ F.ds ds →
  ∀ b k cs, Calm b cs → RD σ F.rd b.roundOf → ∃ σ1 W1 tm1 ds1, R P base σ1 A1 W1 ∧ Ext A σ W A1 σ1 W1 ∧ TR σ1 F1.t F1.n tm1 ∧ F1.rd = F.rd ∧ DR σ1 F1.ds ds1 ∧ Arr P (lone (atR b tm ds (.code c :: k)) cs W) b k cs e tm1 ds1 W1
/-- Of a call, whoever makes it. -/
def CallOK (P : Program) (base : Nat) (ih : Task → Out) : Prop := ∀ f args A v A1, ih (.call f args A) = .val v A1 → ∀ σ W args', R P base σ A W → VRs σ args args' →
  ∀ fr0 cs W0 fr s, Does P fr0 cs W0 fr s W → s.run P W = (callFunc f ⟨args'⟩).run P W → plainTodo fr.todo = true →
  ∃ σ1 W1 v', R P base σ1 A1 W1 ∧ Ext A σ W A1 σ1 W1 ∧ VR σ1 v v' ∧ Steps P (lone fr0 cs W0) (lone (fr.finish v') cs W1)
/-- Of a round of a loop over a function. -/
def YieldOK (P : Program) (base : Nat) (ih : Task → Out) : Prop := ∀ l args A v A1, ih (.yield l args A) = .val v A1 → ∀ σ W args' m, R P base σ A W → VRs σ args args' → σ l = some m →
  ∀ fr0 cs W0 fr s, Does P fr0 cs W0 fr s W → s.run P W = (Instr.yield m.c ⟨args'⟩).run P W →
  ∃ σ1 W1 v', R P base σ1 A1 W1 ∧ Ext A σ W A1 σ1 W1 ∧ VR σ1 v v' ∧ Steps P (lone fr0 cs W0) (lone (fr.finish v') cs W1)

theorem aOp_noDefer {o : Oper} {t : T Value} {r : ANext × AS} (e : aOp P o t A = some r) : ∀ c, o.op ≠ .defer c := by
  intro c ho
  simp [aOp, ho] at e

/-- An operation in its region. -/
theorem op_step {ih : Task → Out} (hC : CallOK P base ih) (hY : YieldOK P base ih) {o : Oper} {t : T Value} {n : Nat} {v : Value} {A1 : AS} (e : opVal P ih o t A = some (v, A1)) (h : R P base σ A W) {tm : Array Value} (ht : TR σ t n tm)
    {b : Frame} {ds : List Deferred} {k : List Item} {cs : List Frame} {ops : Array Oper} {i : Nat} {rest : List Nat} (ho : ops[i]? = some o) (hw : Region.wanted o (yielded ops tm) = true) :
    ∃ σ1 W1 v', R P base σ1 A1 W1 ∧ Ext A σ W A1 σ1 W1 ∧ VR σ1 v v' ∧
      Steps P (lone (atR b tm ds (.inRegion ops (i :: rest) :: k)) cs W) (lone (atR b (putA tm o.dst v') ds (.inRegion ops rest :: k)) cs W1) := by
  unfold opVal at e
  cases hop : aOp P o t A with
  | none => rw [hop] at e; simp [afterOp] at e
  | some q =>
  obtain ⟨r, A2⟩ := q
  rw [hop] at e
  have hs := aOp_sound (a := ⟨tm, ds⟩) h ht hop
  have hdoes : Does P (atR b tm ds (.inRegion ops (i :: rest) :: k)) cs W (atR b tm ds (.inRegion ops (i :: rest) :: k)) (execOp (Act.eval ⟨tm, ds⟩) o) W := by
    unfold Does; rw [stepG_atR ho hw (aOp_noDefer hop)]
  have hfin : ∀ v', (atR b tm ds (.inRegion ops (i :: rest) :: k)).finish v' = atR b (putA tm o.dst v') ds (.inRegion ops rest :: k) := fun v' => by rw [finish_op, ho]; rfl
  cases r with
  | value u =>
    simp only [afterOp, Option.some.injEq, Prod.mk.injEq] at e
    obtain ⟨rfl, rfl⟩ := e
    obtain ⟨σ1, W1, v', hr, h1, h2, h3⟩ := hs
    refine ⟨σ1, W1, v', h1, h2, h3, ?_⟩
    rcases hr with hr | ⟨hr, rfl⟩
    · have := does_value hdoes hr; rw [hfin] at this; exact .one this
    · have := does_skip hdoes hr; rw [hfin] at this; exact .one this
  | enter f args =>
    simp only [afterOp] at e
    obtain ⟨args', hr, hv, rfl⟩ := hs
    cases hq : ih (.call f args A2) with
    | val u A3 =>
      rw [hq] at e
      simp only [valOf, Option.some.injEq, Prod.mk.injEq] at e
      obtain ⟨rfl, rfl⟩ := e
      obtain ⟨σ1, W1, v', h1, h2, h3, h4⟩ := hC _ _ _ _ _ hq σ W args' h hv _ cs W _ _ hdoes hr rfl
      rw [hfin] at h4
      exact ⟨σ1, W1, v', h1, h2, h3, h4⟩
    | code e' F A3 => rw [hq] at e; simp [valOf] at e
    | none => rw [hq] at e; simp [valOf] at e
  | yield l args =>
    simp only [afterOp] at e
    obtain ⟨m, args', hl, hr, hv, rfl⟩ := hs
    cases hq : ih (.yield l args A2) with
    | val u A3 =>
      rw [hq] at e
      simp only [valOf, Option.some.injEq, Prod.mk.injEq] at e
      obtain ⟨rfl, rfl⟩ := e
      obtain ⟨σ1, W1, v', h1, h2, h3, h4⟩ := hY _ _ _ _ _ hq σ W args' m h hv hl _ cs W _ _ hdoes hr
      rw [hfin] at h4
      exact ⟨σ1, W1, v', h1, h2, h3, h4⟩
    | code e' F A3 => rw [hq] at e; simp [valOf] at e
    | none => rw [hq] at e; simp [valOf] at e

theorem calm_atR {b : Frame} {tm : Array Value} {ds : List Deferred} {k : List Item} {cs : List Frame} (h : Calm b cs) : tryRecover (atR b tm ds k) cs = none := by
  unfold Calm at h
  unfold tryRecover at h ⊢
  exact h

/-- An operation, or a recover where nobody panics. -/
theorem opR_step {ih : Task → Out} (hC : CallOK P base ih) (hY : YieldOK P base ih) {o : Oper} {t : T Value} {n : Nat} {v : Value} {A1 : AS} (e : opValR P ih o t A = some (v, A1)) (h : R P base σ A W) {tm : Array Value} (ht : TR σ t n tm)
    {b : Frame} {ds : List Deferred} {k : List Item} {cs : List Frame} {ops : Array Oper} {i : Nat} {rest : List Nat} (hcalm : Calm b cs) (ho : ops[i]? = some o) (hw : Region.wanted o (yielded ops tm) = true) :
    ∃ σ1 W1 v', R P base σ1 A1 W1 ∧ Ext A σ W A1 σ1 W1 ∧ VR σ1 v v' ∧
      Steps P (lone (atR b tm ds (.inRegion ops (i :: rest) :: k)) cs W) (lone (atR b (putA tm o.dst v') ds (.inRegion ops rest :: k)) cs W1) := by
  unfold opValR at e
  cases hr : isRecover P o with
  | false => rw [hr] at e; exact op_step hC hY e h ht ho hw
  | true =>
    rw [hr] at e
    simp [recThen] at e
    obtain ⟨rfl, rfl⟩ := e
    refine ⟨σ, W, .nilIface, h, Ext.refl _ _ _, .atom rfl, .one ?_⟩
    have hnd : ∀ c, o.op ≠ .defer c := fun c hc => by simp [isRecover, hc] at hr
    have hdoes : Does P (atR b tm ds (.inRegion ops (i :: rest) :: k)) cs W (atR b tm ds (.inRegion ops (i :: rest) :: k)) (execOp (Act.eval ⟨tm, ds⟩) o) W := by
      unfold Does; rw [stepG_atR ho hw hnd]
    have hfin : ∀ v', (atR b tm ds (.inRegion ops (i :: rest) :: k)).finish v' = atR b (putA tm o.dst v') ds (.inRegion ops rest :: k) := fun v' => by rw [finish_op, ho]; rfl
    have hrun : (execOp (Act.eval ⟨tm, ds⟩) o).run P W = .ok .recover W := by
      unfold isRecover at hr
      split at hr <;> try (simp at hr; done)
      rename_i c hop
      split at hr <;> try (simp at hr; done)
      rename_i hcl
      simp [execOp, hop, resolve, hcl, invoke, builtin]
    have hfol : P.follows .rangeFuncRecover = true := by
      unfold isRecover at hr
      split at hr <;> try (simp at hr; done)
      split at hr <;> try (simp at hr; done)
      exact hr
    rw [← hfin]
    refine step_lone_go ?_
    rw [hdoes]
    have hc2 := calm_atR (tm := tm) (ds := ds) (k := .inRegion ops (i :: rest) :: k) hcalm
    simp [stepG.apply, hrun, hfol, hc2]
    split
    · rename_i v cl heq
      exfalso
      cases hb : (atR b tm ds (.inRegion ops (i :: rest) :: k)).roundOf <;> simp [hb, hc2] at heq
    · rfl

theorem putT_sound {t t1 : T Value} {n : Nat} {tm : Array Value} {dst : Option Tmp} {v v' : Value} (ht : TR σ t n tm) (hv : VR σ v v') (e : putT t n dst v = some t1) : TR σ t1 n (putA tm dst v') := by
  unfold putT at e
  cases dst with
  | none => simp at e; subst e; exact ht
  | some d =>
    simp only [putSome] at e
    split at e <;> simp at e
    rename_i hlt
    subst e
    exact ht.set d (by simpa [Nat.blt, Nat.succ_le_iff] using hlt) hv

theorem wanted_sound {ops : Array Oper} {o : Oper} {t : T Value} {n : Nat} {tm : Array Value} {w : Bool} (ht : TR σ t n tm) (e : wantedA ops o t = some w) : Region.wanted o (yielded ops tm) = w := by
  unfold wantedA at e
  unfold Region.wanted
  cases hg : o.guard with
  | none => simp [hg] at e; simp [e]
  | some jw =>
    obtain ⟨j, want⟩ := jw
    simp only [hg] at e
    cases hd : (ops[j]?).bind (·.dst) with
    | none => simp [hd] at e
    | some d =>
      simp only [hd] at e
      unfold isBool at e
      split at e
      · rename_i b hb
        simp at e
        obtain ⟨v', q1, q2⟩ := ht.2 d _ hb
        have : v' = .bool b := q2.eq_of_closed rfl
        subst this
        have hy : yielded ops tm j = some b := by unfold yielded; rw [hd]; simp [q1]
        simp only [hy]
        rw [← e]; cases b <;> cases want <;> rfl
      · rename_i v hno hv
        simp at e; subst e
        obtain ⟨v', q1, q2⟩ := ht.2 d _ hv
        have : ∀ b, v' ≠ .bool b := by
          intro b hb
          cases q2 with
          | atom q => exact hno _ hb
          | tok => exact Env.nb _ _ hb
          | _ => cases hb
        have hy : yielded ops tm j = none := by
          unfold yielded; rw [hd]; simp only [Option.bind_some, q1]
          cases v' <;> first | rfl | exact absurd rfl (this _)
        simp only [hy]
        rfl
      · simp at e

end Go.Eng

namespace Go.Eng
open Go
variable [Env]

variable {P : Program} {base : Nat} {σ : Sg} {A : AS} {W : World}

theorem runOps_nil (ih : Task → Out) (ops : Array Oper) (n : Nat) (t : T Value) (A : AS) : runOps P ih ops n [] t A = some (t, A) := rfl
theorem runOps_cons (ih : Task → Out) (ops : Array Oper) (n : Nat) (o : Oper) (l : List Oper) (t : T Value) (A : AS) : runOps P ih ops n (o :: l) t A = opThen P ih n o (runOps P ih ops n l) t A (wantedA ops o t) := rfl

theorem runOps_sound {ih : Task → Out} (hC : CallOK P base ih) (hY : YieldOK P base ih) {ops : Array Oper} {n : Nat} : ∀ (l : List Oper) (j : Nat), (∀ i x, l[i]? = some x → ops[j + i]? = some x) →
    ∀ {t t1 : T Value} {A A1 : AS}, runOps P ih ops n l t A = some (t1, A1) → ∀ {σ : Sg} {W : World} {tm : Array Value}, R P base σ A W → TR σ t n tm →
    ∀ (b : Frame) (ds : List Deferred) (k : List Item) (cs : List Frame), Calm b cs → ∀ (rs : List Nat), ∃ σ1 W1 tm1, R P base σ1 A1 W1 ∧ Ext A σ W A1 σ1 W1 ∧ TR σ1 t1 n tm1 ∧
      Steps P (lone (atR b tm ds (.inRegion ops (List.range' j l.length ++ rs) :: k)) cs W) (lone (atR b tm1 ds (.inRegion ops rs :: k)) cs W1)
  | [], j, _, t, t1, A, A1, e, σ, W, tm, h, ht, b, ds, k, cs, hcalm, rs => by
    rw [runOps_nil] at e
    simp at e; obtain ⟨rfl, rfl⟩ := e
    exact ⟨σ, W, tm, h, Ext.refl _ _ _, ht, Steps.refl _ _⟩
  | o :: l, j, hl, t, t1, A, A1, e, σ, W, tm, h, ht, b, ds, k, cs, hcalm, rs => by
    rw [runOps_cons] at e
    have ho : ops[j]? = some o := by simpa using hl 0 o rfl
    have hl' : ∀ i x, l[i]? = some x → ops[j + 1 + i]? = some x := fun i x hx => by have := hl (i + 1) x (by simpa using hx); simpa [Nat.add_assoc, Nat.add_comm 1 i] using this
    simp only [List.length_cons, List.range'_succ, List.cons_append]
    cases hw : wantedA ops o t with
    | none => rw [hw] at e; simp [opThen] at e
    | some w =>
      rw [hw] at e
      have hwt := wanted_sound ht hw
      cases w with
      | true =>
        simp only [opThen] at e
        cases hv : opValR P ih o t A with
        | none => rw [hv] at e; simp [valThen] at e
        | some q =>
          obtain ⟨v, A2⟩ := q
          rw [hv] at e
          simp only [valThen] at e
          obtain ⟨σ1, W1, v', h1, h2, h3, h4⟩ := opR_step hC hY hv h ht (hcalm := hcalm) (b := b) (ds := ds) (k := k) (cs := cs) (ops := ops) (i := j) (rest := List.range' (j + 1) l.length ++ rs) ho hwt
          cases hp : putT t n o.dst v with
          | none => rw [hp] at e; simp [putThen] at e
          | some t2 =>
            rw [hp] at e
            simp only [putThen] at e
            obtain ⟨σ2, W2, tm2, k1, k2, k3, k4⟩ := runOps_sound hC hY l (j + 1) hl' e h1 (putT_sound (ht.mono h2.le) h3 hp) b ds k cs hcalm rs
            exact ⟨σ2, W2, tm2, k1, h2.trans k2, k3, h4.trans k4⟩
      | false =>
        simp only [opThen] at e
        cases hp : putT t n o.dst undef with
        | none => rw [hp] at e; simp [putThen] at e
        | some t2 =>
          rw [hp] at e
          simp only [putThen] at e
          have hst := st_op_skip (P := P) (W := W) (b := b) (tm := tm) (ds := ds) (k := k) (cs := cs) (ops := ops) (i := j) (rest := List.range' (j + 1) l.length ++ rs) (by rw [ho]; simpa using hwt)
          rw [ho] at hst
          obtain ⟨σ2, W2, tm2, k1, k2, k3, k4⟩ := runOps_sound hC hY l (j + 1) hl' e h (putT_sound ht (closed_VR σ undef (by simp [undef, closedV, closedVs])) hp) b ds k cs hcalm rs
          exact ⟨σ2, W2, tm2, k1, k2, k3, .head hst k4⟩

/-- Of regions whose order is drawn. -/
def DrawOK (P : Program) (base : Nat) (ih : Task → Out) : Prop := ∀ ops n t A t1 A1, runDraw P ih ops n t A = some (t1, A1) → ∀ σ W tm, R P base σ A W → TR σ t n tm →
  ∀ (id : Nat) (b : Frame) (ds : List Deferred) (k : List Item) (cs : List Frame), ∃ σ1 W1 tm1, R P base σ1 A1 W1 ∧ Ext A σ W A1 σ1 W1 ∧ TR σ1 t1 n tm1 ∧
    Steps P (lone (atR b tm ds (.code (.region id ops true) :: k)) cs W) (lone (atR b tm1 ds k) cs W1)

theorem splitLast_spec : ∀ {l : List Oper} {a : List Oper} {o : Oper}, splitLast l = some (a, o) → l = a ++ [o]
  | [], _, _, h => by simp [splitLast] at h
  | [x], a, o, h => by simp [splitLast] at h; obtain ⟨rfl, rfl⟩ := h; rfl
  | x :: y :: l, a, o, h => by
    simp only [splitLast] at h
    split at h <;> try (simp at h; done)
    rename_i a' b' hab
    simp at h; obtain ⟨rfl, rfl⟩ := h
    rw [splitLast_spec hab]; rfl

theorem st_op_defer {b : Frame} {tm : Array Value} {ds : List Deferred} {k : List Item} {cs : List Frame} {ops : Array Oper} {i : Nat} {rest : List Nat} {o : Oper} {c : Call} {d : Deferred} (ho : ops[i]? = some o) (hw : Region.wanted o (yielded ops tm) = true)
    (hop : o.op = .defer c) (hb : b.roundOf = none) (hr : (resolve (Act.eval ⟨tm, ds⟩) c o.type).run P W = .ok d W) :
    Go.step P (lone (atR b tm ds (.inRegion ops (i :: rest) :: k)) cs W) = .next (lone (atR b (putA tm o.dst undef) (d :: ds) (.inRegion ops rest :: k)) cs W) := by
  have he := eval_atR (b := b) (tm := tm) (ds := ds) (todo := .inRegion ops (i :: rest) :: k)
  have hfin : (atR b tm (d :: ds) (.inRegion ops (i :: rest) :: k)).finish undef = atR b (putA tm o.dst undef) (d :: ds) (.inRegion ops rest :: k) := by rw [finish_op, ho]; rfl
  refine step_lone_go ?_
  rw [← hfin]
  have hrun : (execOp (Act.eval ⟨tm, ds⟩) o).run P W = .ok (.defer d) W := by simp [execOp, hop, hr]
  have hst : stepG P true (gor (atR b tm ds (.inRegion ops (i :: rest) :: k)) cs) W = stepG.apply P true (atR b tm ds (.inRegion ops (i :: rest) :: k)) cs none (execOp (Act.eval ⟨tm, ds⟩) o) W := by
    obtain ⟨dst, op, ty, pos, after, guard⟩ := o
    simp only [atR, hb] at he ⊢
    simp only [stepG, stepG.exec, stepG.oper, Frame.oper?, ho, hw, Option.map_some, Option.getD_some, if_true, he]
  rw [hst]
  simp [stepG.apply, hrun]
  rfl

theorem reg_ok {ih : Task → Out} (hC : CallOK P base ih) (hY : YieldOK P base ih) (hD : DrawOK P base ih) {ops : Array Oper} {draw : Bool} {F F1 : Fm} {A1 : AS} (e : cReg P ops draw ih F A = some (F1, A1)) {tm : Array Value} {ds : List Deferred}
    (h : R P base σ A W) (ht : TR σ F.t F.n tm) (hd : DR σ F.ds ds) (id : Nat) (b : Frame) (k : List Item) (cs : List Frame) (hcalm : Calm b cs) (hr : RD σ F.rd b.roundOf) :
    ∃ σ1 W1 tm1 ds1, R P base σ1 A1 W1 ∧ Ext A σ W A1 σ1 W1 ∧ TR σ1 F1.t F1.n tm1 ∧ F1.rd = F.rd ∧ DR σ1 F1.ds ds1 ∧
      Steps P (lone (atR b tm ds (.code (.region id ops draw) :: k)) cs W) (lone (atR b tm1 ds1 k) cs W1) := by
  have plain : ∀ {draw : Bool}, (∀ t1, runReg P ops draw ih F A = some (t1, A1) → ∃ σ1 W1 tm1, R P base σ1 A1 W1 ∧ Ext A σ W A1 σ1 W1 ∧ TR σ1 t1 F.n tm1 ∧
      Steps P (lone (atR b tm ds (.code (.region id ops draw) :: k)) cs W) (lone (atR b tm1 ds k) cs W1)) → regPlain F (runReg P ops draw ih F A) = some (F1, A1) →
      ∃ σ1 W1 tm1 ds1, R P base σ1 A1 W1 ∧ Ext A σ W A1 σ1 W1 ∧ TR σ1 F1.t F1.n tm1 ∧ F1.rd = F.rd ∧ DR σ1 F1.ds ds1 ∧
      Steps P (lone (atR b tm ds (.code (.region id ops draw) :: k)) cs W) (lone (atR b tm1 ds1 k) cs W1) := by
    intro draw hrun e
    cases hq : runReg P ops draw ih F A with
    | none => rw [hq] at e; simp [regPlain] at e
    | some q =>
      obtain ⟨t2, A2⟩ := q
      rw [hq] at e
      simp [regPlain] at e
      obtain ⟨rfl, rfl⟩ := e
      obtain ⟨σ1, W1, tm1, h1, h2, h3, h4⟩ := hrun t2 hq
      exact ⟨σ1, W1, tm1, ds, h1, h2, h3, rfl, hd.mono h2.le, h4⟩
  cases draw with
  | true => exact plain (fun t1 e => hD _ _ _ _ _ _ e σ W tm h ht id b ds k cs) e
  | false =>
    simp only [cReg] at e
    cases hdl : deferLast ops with
    | none =>
      rw [hdl] at e
      refine plain (fun t1 e => ?_) e
      obtain ⟨σ1, W1, tm1, h1, h2, h3, h4⟩ := runOps_sound hC hY ops.toList 0 (fun i x hx => by simpa using hx) e h ht b ds k cs hcalm []
      refine ⟨σ1, W1, tm1, h1, h2, h3, .head st_region ?_⟩
      have : List.range' 0 ops.toList.length = List.range ops.size := by rw [List.range_eq_range']; simp
      rw [this, List.append_nil] at h4
      exact h4.trans (.one st_region_end)
    | some q =>
      obtain ⟨l, o, f, as⟩ := q
      rw [hdl] at e
      simp only [regD] at e
      unfold deferLast at hdl
      split at hdl <;> try (simp at hdl; done)
      rename_i l' o' hsp
      split at hdl <;> try (simp at hdl; done)
      rename_i c hop hg
      split at hdl <;> try (simp at hdl; done)
      rename_i f' hcl
      simp at hdl; obtain ⟨rfl, rfl, rfl, rfl⟩ := hdl
      have hops := splitLast_spec hsp
      cases hq : runOps P ih ops F.n l' F.t A with
      | none => rw [hq] at e; simp [deferThen] at e
      | some q =>
      obtain ⟨t2, A2⟩ := q
      rw [hq] at e
      simp only [deferThen] at e
      have hsz : ops.size = l'.length + 1 := by rw [← Array.length_toList, hops]; simp
      have hlast : ops[l'.length]? = some o' := by rw [← Array.getElem?_toList, hops]; simp
      obtain ⟨σ1, W1, tm1, h1, h2, h3, h4⟩ := runOps_sound hC hY l' 0 (fun i x hx => by
        rw [Nat.zero_add, ← Array.getElem?_toList, hops, List.getElem?_append_left (List.getElem?_eq_some_iff.1 hx).1]; exact hx) hq h ht b ds k cs hcalm [l'.length]
      unfold deferPut at e
      split at e <;> try (simp at e; done)
      rename_i g first cap as' hf has hrd
      split at e <;> try (simp at e; done)
      rename_i t3 hput
      simp at e; obtain ⟨rfl, rfl⟩ := e
      have hbr : b.roundOf = none := by
        rw [hrd] at hr
        cases hb : b.roundOf with
        | none => rfl
        | some x => rw [hb] at hr; exact hr.elim
      have hev := eval_sound (a := ⟨tm1, ds⟩) h1 h3 hf
      have hevs := evals_sound (a := ⟨tm1, ds⟩) h1 h3 has
      generalize hwf : Act.eval ⟨tm1, ds⟩ f' = wf at hev
      obtain ⟨first', cap', rfl, hv1, hv2⟩ : ∃ first' cap', wf = .func (.func g) ⟨first'⟩ ⟨cap'⟩ ∧ VRs σ1 first.toList first' ∧ VRs σ1 cap.toList cap' := by
        obtain ⟨first⟩ := first
        obtain ⟨cap⟩ := cap
        cases hev with
        | atom q => simp [atomV] at q
        | func _ x y => exact ⟨_, _, rfl, x, y⟩
      have hres : (resolve (Act.eval ⟨tm1, ds⟩) c o'.type).run P W1 = .ok { target := .fn (.func g) ⟨cap'⟩, args := ⟨first' ++ c.args.toList.map (Act.eval ⟨tm1, ds⟩)⟩ } W1 := by
        have hm : (⟨first'⟩ : Array Value) ++ c.args.map (Act.eval ⟨tm1, ds⟩) = ⟨first' ++ c.args.toList.map (Act.eval ⟨tm1, ds⟩)⟩ := by
          apply Array.ext'
          simp
        simp only [resolve, hcl, hwf, Deferred.ofValue, Sem.run_pure, hm]
      have hwt : Region.wanted o' (yielded ops tm1) = true := by simp [Region.wanted, hg]
      have hst := st_op_defer (W := W1) (b := b) (tm := tm1) (ds := ds) (k := k) (cs := cs) (rest := []) hlast hwt hop hbr hres
      refine ⟨σ1, W1, putA tm1 o'.dst undef, _, h1, h2, putT_sound h3 (closed_VR σ1 undef (by simp [undef, closedV, closedVs])) hput, rfl, .call (a := first' ++ c.args.toList.map (Act.eval ⟨tm1, ds⟩)) (c := cap') (by
        have := (hv1.append hevs).append hv2
        rw [← List.append_assoc]
        exact this) (hd.mono h2.le), .head st_region ?_⟩
      have hrange : List.range' 0 l'.length ++ [l'.length] = List.range ops.size := by
        rw [hsz, List.range_succ, List.range_eq_range']
      rw [hrange] at h4
      exact h4.trans (.head hst (.one st_region_end))

/-- A machine that stands elsewhere than where it set out has made a step. -/
theorem steps_tail {m1 m2 m' : Machine} (hs : Go.step P m1 = Go.step P m2) (h : Steps P m2 m') (hne : m' ≠ m2) : Steps P m1 m' := by
  obtain ⟨n, hn⟩ := h
  cases n with
  | zero => simp [runN] at hn; exact absurd hn.symm hne
  | succ n => exact ⟨n + 1, by simp only [runN] at hn ⊢; rw [hs]; exact hn⟩
theorem lone_inj {f1 f2 : Frame} {c1 c2 : List Frame} {w1 w2 : World} (h : lone f1 c1 w1 = lone f2 c2 w2) : f1 = f2 := by
  simp only [lone, Machine.mk.injEq] at h
  have h2 : f1 = f2 ∧ c1 = c2 := by simpa using h.2.1
  exact h2.1

/-- What is asked of a piece of code that is known. -/
def KcOK (P : Program) (K : Kn) : Prop := ∀ c F A e F1 A1, K.kc c F A = some (e, F1, A1) → ∀ base σ W tm ds, R P base σ A W → TR σ F.t F.n tm → DR σ F.ds ds →
  ∀ b k cs, Calm b cs → RD σ F.rd b.roundOf → ∃ σ1 W1 tm1 ds1, R P base σ1 A1 W1 ∧ Ext A σ W A1 σ1 W1 ∧ TR σ1 F1.t F1.n tm1 ∧ F1.rd = F.rd ∧ DR σ1 F1.ds ds1 ∧ Arr P (lone (atR b tm ds (.code c :: k)) cs W) b k cs e tm1 ds1 W1
theorem code_ok {kn : Kn} {ih : Task → Out} (hkc : KcOK P kn) (hK : CodeOK P base ih) (hC : CallOK P base ih) (hY : YieldOK P base ih) (hD : DrawOK P base ih)
    (hR : ∀ f params assign body F A e F1 A1, cRange P f params assign body ih F A = .code e F1 A1 → ∀ σ W tm ds, R P base σ A W → TR σ F.t F.n tm → DR σ F.ds ds →
      ∀ b k cs, Calm b cs → RD σ F.rd b.roundOf → ∃ σ1 W1 tm1 ds1, R P base σ1 A1 W1 ∧ Ext A σ W A1 σ1 W1 ∧ TR σ1 F1.t F1.n tm1 ∧ F1.rd = F.rd ∧ DR σ1 F1.ds ds1 ∧ Arr P (lone (atR b tm ds (.code (.rangeFunc f params assign body) :: k)) cs W) b k cs e tm1 ds1 W1) :
    CodeOK P base (step P kn ih) := by
  intro c F A e F1 A1 he σ W tm ds h ht hd b k cs hcalm hr
  have he0 : kcThen P c ih F A (kn.kc c F A) = .code e F1 A1 := he
  clear he
  cases hkq : kn.kc c F A with
  | some r =>
    obtain ⟨e', F', A'⟩ := r
    rw [hkq] at he0
    simp only [kcThen, Out.code.injEq] at he0
    obtain ⟨rfl, rfl, rfl⟩ := he0
    exact hkc _ _ _ _ _ _ hkq base σ W tm ds h ht hd b k cs hcalm hr
  | none =>
  rw [hkq] at he0
  have he : codeStep P c ih F A = .code e F1 A1 := he0
  clear he0 hkq
  have seqLike : ∀ (a b' : Code), seqThen ih b' (ih (.code a F A)) = .code e F1 A1 → (∀ W, Go.step P (lone (atR b tm ds (.code c :: k)) cs W) = .next (lone (atR b tm ds (.code a :: .code b' :: k)) cs W)) →
      ∃ σ1 W1 tm1 ds1, R P base σ1 A1 W1 ∧ Ext A σ W A1 σ1 W1 ∧ TR σ1 F1.t F1.n tm1 ∧ F1.rd = F.rd ∧ DR σ1 F1.ds ds1 ∧ Arr P (lone (atR b tm ds (.code c :: k)) cs W) b k cs e tm1 ds1 W1 := by
    intro a b' he hst
    cases hq : ih (.code a F A) with
    | val v A2 => rw [hq] at he; simp [seqThen] at he
    | none => rw [hq] at he; simp [seqThen] at he
    | code e2 F2 A2 =>
      rw [hq] at he
      obtain ⟨σ1, W1, tm1, ds1, h1, h2, h3, h4, h5, h6⟩ := hK _ _ _ _ _ _ hq σ W tm ds h ht hd b (.code b' :: k) cs hcalm hr
      cases e2 with
      | normal =>
        simp only [seqThen] at he
        obtain ⟨σ2, W2, tm2, ds2, k1, k2, k3, k4, k5, k6⟩ := hK _ _ _ _ _ _ he σ1 W1 tm1 ds1 h1 h3 h5 b k cs hcalm (by rw [h4]; exact hr.mono h2.le)
        exact ⟨σ2, W2, tm2, ds2, k1, h2.trans k2, k3, by rw [k4, h4], k5, .of_steps ((Steps.one (hst W)).trans h6) k6⟩
      | exit id =>
        simp [seqThen] at he
        obtain ⟨rfl, rfl, rfl⟩ := he
        obtain ⟨k', q1, q2⟩ := h6
        exact ⟨σ1, W1, tm1, ds1, h1, h2, h3, h4, h5, k', (Steps.one (hst W)).trans q1, q2⟩
      | ret =>
        simp [seqThen] at he
        obtain ⟨rfl, rfl, rfl⟩ := he
        obtain ⟨k', q1⟩ := h6
        exact ⟨σ1, W1, tm1, ds1, h1, h2, h3, h4, h5, k', (Steps.one (hst W)).trans q1⟩
  cases c with
  | skip =>
    simp [codeStep] at he; obtain ⟨rfl, rfl, rfl⟩ := he
    exact ⟨σ, W, tm, ds, h, Ext.refl _ _ _, ht, rfl, hd, .one st_skip⟩
  | label l =>
    simp [codeStep] at he; obtain ⟨rfl, rfl, rfl⟩ := he
    exact ⟨σ, W, tm, ds, h, Ext.refl _ _ _, ht, rfl, hd, .one st_label⟩
  | region id ops draw =>
    simp only [codeStep] at he
    cases hq : cReg P ops draw ih F A with
    | none => rw [hq] at he; simp [regDone] at he
    | some q =>
      obtain ⟨F2, A2⟩ := q
      rw [hq] at he
      simp [regDone] at he; obtain ⟨rfl, rfl, rfl⟩ := he
      obtain ⟨σ1, W1, tm1, ds1, h1, h2, h3, h4, h5, h6⟩ := reg_ok hC hY hD hq h ht hd id b k cs hcalm hr
      exact ⟨σ1, W1, tm1, ds1, h1, h2, h3, h4, h5, h6⟩
  | seq a b' =>
    simp only [codeStep] at he
    unfold cSeq at he
    cases a with
    | region id ops draw =>
      simp only at he
      cases hq : cReg P ops draw ih F A with
      | none => rw [hq] at he; simp [regThen] at he
      | some q =>
        obtain ⟨F2, A2⟩ := q
        rw [hq] at he
        simp only [regThen] at he
        obtain ⟨σ1, W1, tm1, ds1, h1, h2, h3, h4, h5, h6⟩ := reg_ok hC hY hD hq h ht hd id b (.code b' :: k) cs hcalm hr
        obtain ⟨σ2, W2, tm2, ds2, k1, k2, k3, k4, k5, k6⟩ := hK _ _ _ _ _ _ he σ1 W1 tm1 ds1 h1 h3 h5 b k cs hcalm (by rw [h4]; exact hr.mono h2.le)
        exact ⟨σ2, W2, tm2, ds2, k1, h2.trans k2, k3, by rw [k4, h4], k5, .of_steps (.head st_seq h6) k6⟩
    | _ => exact seqLike _ _ he (fun W => st_seq)
  | cond cc a b' =>
    simp only [codeStep] at he
    cases hv : aEval P cc F.t with
    | none => rw [hv] at he; simp [condThen] at he
    | some v =>
      rw [hv] at he
      have hev := eval_sound (a := ⟨tm, ds⟩) h ht hv
      cases v with
      | bool x =>
        have hx : Act.eval ⟨tm, ds⟩ cc = .bool x := hev.eq_of_closed rfl
        have hst := st_cond (P := P) (W := W) (b := b) (tm := tm) (ds := ds) (k := k) (cs := cs) (c := cc) (x := a) (y := b') (t := x) (by rw [eval_atR]; exact hx)
        cases x with
        | true =>
          simp only [condThen] at he
          obtain ⟨σ1, W1, tm1, ds1, h1, h2, h3, h4, h5, h6⟩ := hK _ _ _ _ _ _ he σ W tm ds h ht hd b k cs hcalm hr
          exact ⟨σ1, W1, tm1, ds1, h1, h2, h3, h4, h5, .of_steps (.one hst) h6⟩
        | false =>
          simp only [condThen] at he
          obtain ⟨σ1, W1, tm1, ds1, h1, h2, h3, h4, h5, h6⟩ := hK _ _ _ _ _ _ he σ W tm ds h ht hd b k cs hcalm hr
          exact ⟨σ1, W1, tm1, ds1, h1, h2, h3, h4, h5, .of_steps (.one hst) h6⟩
      | _ => simp [condThen] at he
  | block id bo =>
    simp only [codeStep] at he
    cases hq : ih (.code bo F A) with
    | val v A2 => rw [hq] at he; simp [blockThen] at he
    | none => rw [hq] at he; simp [blockThen] at he
    | code e2 F2 A2 =>
      rw [hq] at he
      obtain ⟨σ1, W1, tm1, ds1, h1, h2, h3, h4, h5, h6⟩ := hK _ _ _ _ _ _ hq σ W tm ds h ht hd b (.inBlock id :: k) cs hcalm hr
      cases e2 with
      | normal =>
        simp [blockThen] at he; obtain ⟨rfl, rfl, rfl⟩ := he
        exact ⟨σ1, W1, tm1, ds1, h1, h2, h3, h4, h5, (Steps.head st_block h6).trans (.one st_inBlock)⟩
      | ret =>
        simp [blockThen] at he; obtain ⟨rfl, rfl, rfl⟩ := he
        obtain ⟨k', q1⟩ := h6
        exact ⟨σ1, W1, tm1, ds1, h1, h2, h3, h4, h5, k', .head st_block q1⟩
      | exit j =>
        simp only [blockThen] at he
        obtain ⟨k', q1, q2⟩ := h6
        cases hj : Nat.beq j id with
        | true =>
          rw [hj] at he
          simp at he; obtain ⟨rfl, rfl, rfl⟩ := he
          have hj := Nat.eq_of_beq_eq_true hj
          subst hj
          exact ⟨σ1, W1, tm1, ds1, h1, h2, h3, h4, h5, (Steps.head st_block q1).trans (.one (st_exit (by rw [q2]; simp [exitTo])))⟩
        | false =>
          rw [hj] at he
          simp at he; obtain ⟨rfl, rfl, rfl⟩ := he
          refine ⟨σ1, W1, tm1, ds1, h1, h2, h3, h4, h5, k', .head st_block q1, ?_⟩
          rw [q2]
          have : (id == j) = false := by
            cases hb : (id == j) with
            | false => rfl
            | true => rw [beq_iff_eq] at hb; subst hb; simp at hj
          simp [exitTo, this]
  | loop bo =>
    simp only [codeStep] at he
    cases hq : ih (.code bo F A) with
    | val v A2 => rw [hq] at he; simp [seqThen] at he
    | none => rw [hq] at he; simp [seqThen] at he
    | code e2 F2 A2 =>
      rw [hq] at he
      obtain ⟨σ1, W1, tm1, ds1, h1, h2, h3, h4, h5, h6⟩ := hK _ _ _ _ _ _ hq σ W tm ds h ht hd b (.inLoop bo :: k) cs hcalm hr
      cases e2 with
      | normal =>
        simp only [seqThen] at he
        obtain ⟨σ2, W2, tm2, ds2, k1, k2, k3, k4, k5, k6⟩ := hK _ _ _ _ _ _ he σ1 W1 tm1 ds1 h1 h3 h5 b k cs hcalm (by rw [h4]; exact hr.mono h2.le)
        have hto : Go.step P (lone (atR b tm1 ds1 (.inLoop bo :: k)) cs W1) = Go.step P (lone (atR b tm1 ds1 (.code (.loop bo) :: k)) cs W1) := by rw [st_inLoop, st_loop]
        have hlen : ∀ (tm : Array Value) (ds : List Deferred) (td : List Item) (W : World), (∀ x, td ≠ .code (.loop x) :: k) → lone (atR b tm ds td) cs W ≠ lone (atR b tm1 ds1 (.code (.loop bo) :: k)) cs W1 := by
          intro tm ds td W hne heq
          have := congrArg Frame.todo (lone_inj heq)
          exact hne bo this
        refine ⟨σ2, W2, tm2, ds2, k1, h2.trans k2, k3, by rw [k4, h4], k5, .of_steps (Steps.head st_loop h6) ?_⟩
        cases e with
        | normal => exact steps_tail hto k6 (hlen _ _ _ _ fun x hx => by have := congrArg List.length hx; simp at this)
        | exit id => obtain ⟨k', q1, q2⟩ := k6; exact ⟨k', steps_tail hto q1 (hlen _ _ _ _ fun x hx => by simp at hx), q2⟩
        | ret => obtain ⟨k', q1⟩ := k6; exact ⟨k', steps_tail hto q1 (hlen _ _ _ _ fun x hx => by simp at hx)⟩
      | exit id =>
        simp [seqThen] at he; obtain ⟨rfl, rfl, rfl⟩ := he
        obtain ⟨k', q1, q2⟩ := h6
        exact ⟨σ1, W1, tm1, ds1, h1, h2, h3, h4, h5, k', .head st_loop q1, q2⟩
      | ret =>
        simp [seqThen] at he; obtain ⟨rfl, rfl, rfl⟩ := he
        obtain ⟨k', q1⟩ := h6
        exact ⟨σ1, W1, tm1, ds1, h1, h2, h3, h4, h5, k', .head st_loop q1⟩
  | scope bo =>
    simp only [codeStep] at he
    obtain ⟨σ1, W1, tm1, ds1, h1, h2, h3, h4, h5, h6⟩ := hK _ _ _ _ _ _ he σ W tm ds h ht hd b (.inScope bo :: k) cs hcalm hr
    refine ⟨σ1, W1, tm1, ds1, h1, h2, h3, h4, h5, ?_⟩
    cases e with
    | normal => exact (Steps.head st_scope h6).trans (.one st_inScope)
    | exit id => obtain ⟨k', q1, q2⟩ := h6; exact ⟨k', .head st_scope q1, q2⟩
    | ret => obtain ⟨k', q1⟩ := h6; exact ⟨k', .head st_scope q1⟩
  | exit id =>
    simp [codeStep] at he; obtain ⟨rfl, rfl, rfl⟩ := he
    exact ⟨σ, W, tm, ds, h, Ext.refl _ _ _, ht, rfl, hd, k, Steps.refl _ _, rfl⟩
  | ret =>
    simp [codeStep] at he; obtain ⟨rfl, rfl, rfl⟩ := he
    exact ⟨σ, W, tm, ds, h, Ext.refl _ _ _, ht, rfl, hd, k, Steps.refl _ _⟩
  | rangeFunc f params assign body => exact hR _ _ _ _ _ _ _ _ _ he σ W tm ds h ht hd b k cs hcalm hr
  | goto l => simp [codeStep] at he
  | refuse w => simp [codeStep] at he

end Go.Eng

namespace Go.Eng
open Go
variable [Env]

variable {P : Program} {base : Nat} {σ : Sg} {A : AS} {W : World}

/-! A function's end. -/
theorem st_leave_end {b : Frame} {tm : Array Value} {ds : List Deferred} {cs : List Frame} (hb : b.roundOf = none) :
    Go.step P (lone (atR b tm ds []) cs W) = .next (lone { atR b tm ds [] with mode := .returning } cs W) := step_lone_go (by simp [stepG, stepG.exec, atR, hb])
theorem st_leave_ret {b : Frame} {tm : Array Value} {ds : List Deferred} {k : List Item} {cs : List Frame} (hb : b.roundOf = none) :
    Go.step P (lone (atR b tm ds (.code .ret :: k)) cs W) = .next (lone { atR b tm ds (.code .ret :: k) with mode := .returning } cs W) := step_lone_go (by simp [stepG, stepG.exec, atR, hb])

theorem results_ok {F : Fm} {tm : Array Value} (h : R P base σ A W) (ht : TR σ F.t F.n tm) (g : ResultVar → Sem Value) (g1 : ∀ t, g (.tmp t) = pure (tm.getD t undef)) (g2 : ∀ x ty, g (.cell x ty) = (do loadVar ty (← asAddr (tm.getD x undef)))) :
    ∀ {rs : List ResultVar} {vs : List Value}, aResults P F A rs = some vs → ∃ vs', VRs σ vs vs' ∧ (rs.mapM g).run P W = .ok vs' W
  | [], vs, e => by simp [aResults] at e; subst e; exact ⟨[], .nil, by simp⟩
  | .tmp t :: rs, vs, e => by
    simp only [aResults] at e
    split at e <;> try (simp at e; done)
    rename_i v r hv hr
    simp at e; subst e
    obtain ⟨v', q1, q2⟩ := ht.2 t v hv
    obtain ⟨vs', k1, k2⟩ := results_ok h ht g g1 g2 hr
    refine ⟨v' :: vs', .cons q2 k1, ?_⟩
    have : tm.getD t undef = v' := by simp [q1]
    simp only [List.mapM_cons, Sem.run_bind, Sem.run_pure, Result.andThen_ok, g1, this, k2]
  | .cell x ty :: rs, vs, e => by
    simp only [aResults] at e
    split at e <;> try (simp at e; done)
    rename_i p hp
    split at e <;> try (simp at e; done)
    rename_i v r hv hr
    simp at e; subst e
    obtain ⟨p', q1, q2⟩ := ht.2 x p hp
    obtain ⟨vs', k1, k2⟩ := results_ok h ht g g1 g2 hr
    obtain ⟨v', l1, l2⟩ := load_sound h q2 hv
    refine ⟨v' :: vs', .cons l2 k1, ?_⟩
    have hgd : tm.getD x undef = p' := by simp [q1]
    have hptr : ∃ ad, p' = .pointer (some ad) := by
      unfold aLoad at hv
      split at hv <;> try (simp at hv; done)
      cases q2 with
      | atom q => simp [atomV] at q
      | ptr => exact ⟨_, rfl⟩
    obtain ⟨ad, rfl⟩ := hptr
    have l1' : (loadVar ty ad).run P W = .ok v' W := by simpa [Instr.loadAt, Instr.sureAddr] using l1
    have hA : asAddr (.pointer (some ad)) = pure ad := rfl
    simp only [List.mapM_cons, Sem.run_bind, Sem.run_pure, Result.andThen_ok, g2, hgd, hA, l1', k2]

theorem enter_tr {args args' : List Value} (ha : VRs σ args args') (m : Nat) : TR σ (T.setAll .leaf 0 args) (args.length + (m - args.length)) (⟨args'⟩ ++ Array.replicate (m - args'.length) undef) := by
  have hlen := ha.length
  refine ⟨by simp [hlen], fun i u hu => ?_⟩
  have key : ∀ (l : List Value) (t : T Value) (j i : Nat) (u : Value), (T.setAll t j l).get i = some u → (j ≤ i ∧ l[i - j]? = some u) ∨ t.get i = some u := by
    intro l
    induction l with
    | nil => intro t j i u hu; exact .inr hu
    | cons x l ih =>
      intro t j i u hu
      rcases ih (t.set j x) (j + 1) i u hu with ⟨q1, q2⟩ | q
      · exact .inl ⟨by omega, by rw [show i - j = (i - (j + 1)) + 1 by omega]; simpa using q2⟩
      · rcases T.set_get _ _ _ _ _ q with ⟨rfl, rfl⟩ | ⟨_, q⟩
        · exact .inl ⟨Nat.le_refl _, by simp⟩
        · exact .inr q
  rcases key _ _ _ _ _ hu with ⟨_, q⟩ | q
  · obtain ⟨u', q1, q2⟩ := ha.get i u (by simpa using q)
    refine ⟨u', ?_, q2⟩
    have hi := (List.getElem?_eq_some_iff.1 q1).1
    rw [Array.getElem?_append_left (by simpa using hi)]
    simpa using q1
  · simp [T.get_leaf] at q

theorem DR.nil_inv {l' : List Deferred} (h : DR σ [] l') : l' = [] := by cases h; rfl

theorem enter_eq {f : FuncId} {fn : Func} {cd : Code} (hf : P.funcs[f]? = some fn) (hb : fn.body = some cd) (args' : List Value) (kind : CallKind) :
    Frame.enter P f ⟨args'⟩ kind = atR { (default : Frame) with fn := f, kind := kind } (⟨args'⟩ ++ Array.replicate (fn.ntmps - args'.length) undef) [] [.code cd] := by
  simp [Frame.enter, atR, hf, hb]; rfl

/-- A call that was put off. -/
theorem dcall_ok {ih : Task → Out} (hK : CodeOK P base ih) {f : FuncId} {vs a c : List Value} {A1 : AS} (e : dCall P ih f vs A = some A1) (h : R P base σ A W) (ha : VRs σ vs (a ++ c)) (b : Frame) (tm : Array Value) (ds : List Deferred) (k : List Item) (cs : List Frame) :
    ∃ σ1 W1, R P base σ1 A1 W1 ∧ Ext A σ W A1 σ1 W1 ∧ Steps P (lone { atR b tm ({ target := .fn (.func f) ⟨c⟩, args := ⟨a⟩ } :: ds) k with mode := .returning } cs W) (lone { atR b tm ds k with mode := .returning } cs W1) := by
  unfold dCall at e
  cases hf : P.funcs[f]? with
  | none => simp [hf] at e
  | some fn =>
  simp only [hf] at e
  cases hb : fn.body with
  | none => simp [hb] at e
  | some cd =>
  simp only [hb] at e
  cases hn : (fn.name == "runtime.NumGoroutine") with
  | true => simp [hn] at e
  | false =>
  simp only [hn] at e
  have hcall : (callFunc f (a ++ c).toArray).run P W = .ok (.enter f (a ++ c).toArray) W := by
    have hn' : ¬ fn.name = "runtime.NumGoroutine" := by simpa using hn
    simp [callFunc, program, Sem.run, hf, hn', hb]
  let fr : Frame := { atR b tm ds k with mode := .returning }
  have hst : Go.step P (lone { atR b tm ({ target := .fn (.func f) ⟨c⟩, args := ⟨a⟩ } :: ds) k with mode := .returning } cs W) = .next (lone (Frame.enter P f ⟨a ++ c⟩ .deferred) (fr :: cs) W) :=
    step_lone_go (by simp [stepG, unwind, atR, callDeferred, invoke, hcall, fr])
  let b' : Frame := { (default : Frame) with fn := f, kind := .deferred }
  have henter : Frame.enter P f ⟨a ++ c⟩ .deferred = atR b' (⟨a ++ c⟩ ++ Array.replicate (fn.ntmps - (a ++ c).length) undef) [] [.code cd] := enter_eq hf hb _ _
  have hcalm : Calm b' (fr :: cs) := rfl
  cases hq : ih (.code cd ⟨T.setAll .leaf 0 vs, vs.length + (fn.ntmps - vs.length), [], none⟩ A) with
  | val u A2 => rw [hq] at e; simp [dDone] at e
  | none => rw [hq] at e; simp [dDone] at e
  | code e2 F A2 =>
    rw [hq] at e
    obtain ⟨σ1, W1, tm1, ds1, h1, h2, h3, h4, h5, h6⟩ := hK _ _ _ _ _ _ hq σ W _ [] h (enter_tr ha fn.ntmps) .nil b' [] (fr :: cs) hcalm trivial
    have hend : dEnd P fn.results.toList F A2 = some A1 := by cases e2 <;> first | exact e | simp [dDone] at e
    unfold dEnd at hend
    split at hend <;> try (simp at hend; done)
    rename_i hds hrs
    simp at hend; subst hend
    rw [hds] at h5
    obtain rfl := h5.nil_inv
    have hret : ∃ k', Steps P (lone (Frame.enter P f ⟨a ++ c⟩ .deferred) (fr :: cs) W) (lone { atR b' tm1 [] k' with mode := .returning } (fr :: cs) W1) := by
      rw [henter]
      cases e2 with
      | normal => exact ⟨[], h6.trans (.one (st_leave_end rfl))⟩
      | ret => obtain ⟨k', q⟩ := h6; exact ⟨_, q.trans (.one (st_leave_ret rfl))⟩
      | exit id => simp [dDone] at e
    obtain ⟨k', hret⟩ := hret
    obtain ⟨vs', r1, r2⟩ := results_ok h1 h3 (fun | .tmp t => pure (tm1.getD t undef) | .cell x ty => do loadVar ty (← asAddr (tm1.getD x undef))) (fun _ => rfl) (fun _ _ => rfl) hrs
    have hrun : ∃ v', (results fn tm1).run P W1 = .ok v' W1 := by
      refine ⟨if hh : (⟨vs'⟩ : Array Value).size = 1 then (⟨vs'⟩ : Array Value)[0] else .tuple ⟨vs'⟩, ?_⟩
      have hres : results fn tm1 = (do
          let vs ← fn.results.mapM (fun | .tmp t => pure (tm1.getD t undef) | .cell x ty => do loadVar ty (← asAddr (tm1.getD x undef)) : ResultVar → Sem Value)
          pure (if h : vs.size = 1 then vs[0] else .tuple vs)) := rfl
      rw [hres, Sem.run_bind, Array.mapM_eq_mapM_toList, Sem.run_map, r2]
      rfl
    obtain ⟨v', hv⟩ := hrun
    have hfn : (atR b' tm1 [] k').fn = f := rfl
    refine ⟨σ1, W1, h1, h2, .head hst (hret.trans (.one (step_lone_go ?_)))⟩
    simp [stepG, unwind, doReturn, atR, b', hf, hv, fr]

/-- The deferred marks are taken. -/
theorem close_ok {ih : Task → Out} (hK : CodeOK P base ih) {b : Frame} {tm : Array Value} {k : List Item} {cs : List Frame} : ∀ {ds : List Dfr} {ds' : List Deferred} {A A1 : AS} {σ : Sg} {W : World}, DR σ ds ds' → closeAll P ih ds A = some A1 → R P base σ A W →
    ∃ σ1 W1, R P base σ1 A1 W1 ∧ Ext A σ W A1 σ1 W1 ∧ Steps P (lone { atR b tm ds' k with mode := .returning } cs W) (lone { atR b tm [] k with mode := .returning } cs W1)
  | _, _, A, A1, σ, W, .nil, e, h => by simp [closeAll] at e; subst e; exact ⟨σ, W, h, Ext.refl _ _ _, Steps.refl _ _⟩
  | _, _, A, A1, σ, W, .cons (d := d) (m := m) (l := l) (l' := l') hm hl, e, h => by
    simp only [closeAll] at e
    split at e <;> try (simp at e; done)
    rename_i hg
    cases hlo : Nat.ble A.lo d with
    | false => rw [hlo] at e; simp at e
    | true =>
    rw [hlo] at e
    simp only [cond_true] at e
    obtain ⟨_, w1, xs, rfl, hx⟩ := h.live _ _ _ hg hm
    obtain rfl := hx rfl
    have hlt := (Array.getElem?_eq_some_iff.1 w1).1
    have hup := h.upd (b := d) (m := m) (o1 := .deferred false) (o1' := .deferred none) (W1 := { W with heap := W.heap.setIfInBounds m.c (.deferred none) }) (by rw [hg]; rfl) hm (Nat.le_of_ble_eq_true hlo)
      (by simp) (fun y hy => by simp [Array.getElem?_setIfInBounds_ne (Ne.symm hy)]) (by simp [hlt]) ⟨none, rfl, fun q => by simp at q⟩
    obtain ⟨σ2, W2, k1, k2, k3⟩ := close_ok hK (b := b) (tm := tm) (k := k) (cs := cs) hl e hup.1
    refine ⟨σ2, W2, k1, hup.2.trans k2, .head ?_ k3⟩
    exact step_lone_go (by simp [stepG, unwind, atR, Instr.takeDeferred, getObj, setObj, Sem.run, w1])
  | _, _, A, A1, σ, W, .call (f := f) (vs := vs) (a := a) (c := c) (l := l) (l' := l') hv hl, e, h => by
    simp only [closeAll] at e
    cases hq : dCall P ih f vs A with
    | none => rw [hq] at e; simp at e
    | some A2 =>
    rw [hq] at e
    simp only at e
    obtain ⟨σ1, W1, h1, h2, h3⟩ := dcall_ok hK hq h hv b tm l' k cs
    obtain ⟨σ2, W2, k1, k2, k3⟩ := close_ok hK (b := b) (tm := tm) (k := k) (cs := cs) (hl.mono h2.le) e h1
    exact ⟨σ2, W2, k1, h2.trans k2, h3.trans k3⟩

/-- What a call of a function comes to. -/
theorem body_ok {ih : Task → Out} (hK : CodeOK P base ih) {f : FuncId} {fn : Func} {c : Code} {args args' : List Value} {v : Value} {A1 : AS} (hf : P.funcs[f]? = some fn) (hb : fn.body = some c)
    (e : callDone P ih fn.results.toList (ih (.code c ⟨T.setAll .leaf 0 args, args.length + (fn.ntmps - args.length), [], none⟩ A)) = .val v A1) (h : R P base σ A W) (ha : VRs σ args args') (fr : Frame) (cs : List Frame) :
    ∃ σ1 W1 v', R P base σ1 A1 W1 ∧ Ext A σ W A1 σ1 W1 ∧ VR σ1 v v' ∧ Steps P (lone (Frame.enter P f ⟨args'⟩ .normal) (fr :: cs) W) (lone (fr.finish v') cs W1) := by
  have hlen := ha.length
  let b : Frame := { (default : Frame) with fn := f, kind := .normal }
  have henter : Frame.enter P f ⟨args'⟩ .normal = atR b (⟨args'⟩ ++ Array.replicate (fn.ntmps - args'.length) undef) [] [.code c] := by
    simp [Frame.enter, atR, hf, hb, b]; rfl
  have htr := enter_tr ha fn.ntmps
  unfold callDone at e
  cases hq : ih (.code c ⟨T.setAll .leaf 0 args, args.length + (fn.ntmps - args.length), [], none⟩ A) with
  | val u A2 => rw [hq] at e; simp at e
  | none => rw [hq] at e; simp at e
  | code e2 F A2 =>
    rw [hq] at e
    obtain ⟨σ1, W1, tm1, ds1, h1, h2, h3, h4, h5, h6⟩ := hK _ _ _ _ _ _ hq σ W _ [] h htr .nil b [] (fr :: cs) rfl trivial
    have hend : callEnd P fn.results.toList F (closeAll P ih F.ds A2) = .val v A1 := by cases e2 <;> first | exact e | simp at e
    unfold callEnd at hend
    cases hcl : closeAll P ih F.ds A2 with
    | none => rw [hcl] at hend; simp at hend
    | some A3 =>
    rw [hcl] at hend
    simp only at hend
    cases hrs : aResults P F A3 fn.results.toList with
    | none => rw [hrs] at hend; simp [resVal] at hend
    | some vs =>
    rw [hrs] at hend
    -- the frame that returns
    have hret : ∃ k, Steps P (lone (Frame.enter P f ⟨args'⟩ .normal) (fr :: cs) W) (lone { atR b tm1 ds1 k with mode := .returning } (fr :: cs) W1) := by
      rw [henter]
      cases e2 with
      | normal => exact ⟨[], h6.trans (.one (st_leave_end rfl))⟩
      | ret => obtain ⟨k', q⟩ := h6; exact ⟨_, q.trans (.one (st_leave_ret rfl))⟩
      | exit id => simp at e
    obtain ⟨k, hret⟩ := hret
    obtain ⟨σ3, W3, k1, k2, k3⟩ := close_ok hK (b := b) (tm := tm1) (k := k) (cs := fr :: cs) h5 hcl h1
    obtain ⟨vs', r1, r2⟩ := results_ok k1 (h3.mono k2.le) (fun | .tmp t => pure (tm1.getD t undef) | .cell x ty => do loadVar ty (← asAddr (tm1.getD x undef))) (fun _ => rfl) (fun _ _ => rfl) hrs
    have hv : ∃ v', VR σ3 v v' ∧ A1 = A3 ∧ (results fn tm1).run P W3 = .ok v' W3 := by
      have hrun : (results fn tm1).run P W3 = .ok (if hh : (⟨vs'⟩ : Array Value).size = 1 then (⟨vs'⟩ : Array Value)[0] else .tuple ⟨vs'⟩) W3 := by
        have hres : results fn tm1 = (do
            let vs ← fn.results.mapM (fun | .tmp t => pure (tm1.getD t undef) | .cell x ty => do loadVar ty (← asAddr (tm1.getD x undef)) : ResultVar → Sem Value)
            pure (if h : vs.size = 1 then vs[0] else .tuple vs)) := rfl
        rw [hres, Sem.run_bind, Array.mapM_eq_mapM_toList, Sem.run_map, r2]
        rfl
      cases r1 with
      | nil => simp [resVal] at hend; obtain ⟨rfl, rfl⟩ := hend; exact ⟨.tuple #[], .tuple .nil, rfl, by rw [hrun]; rfl⟩
      | cons x y =>
        cases y with
        | nil => simp [resVal] at hend; obtain ⟨rfl, rfl⟩ := hend; exact ⟨_, x, rfl, by rw [hrun]; rfl⟩
        | cons y z => simp [resVal] at hend; obtain ⟨rfl, rfl⟩ := hend; exact ⟨_, .tuple (.cons x (.cons y z)), rfl, by rw [hrun]; simp⟩
    obtain ⟨v', v1, rfl, v2⟩ := hv
    refine ⟨σ3, W3, v', k1, h2.trans k2, v1, (hret.trans k3).trans (.one ?_)⟩
    exact step_leave_returned (P := P) (fr := { atR b tm1 [] k with mode := .returning }) ⟨rfl, rfl, rfl, fn, hf, v2⟩

/-- What is known beforehand: the answers of some functions, and of two that the model stands in for. -/
structure KnOK (P : Program) (K : Kn) : Prop where
  kn : ∀ f args v, K.kn f args = some v → closedVs args = true ∧ closedV v = true ∧ (∃ fn c, P.funcs[f]? = some fn ∧ fn.body = some c) ∧ (∀ W, (callFunc f ⟨args⟩).run P W = .ok (.enter f ⟨args⟩) W) ∧
    ∀ W, Calls P f ⟨args⟩ W fun e W1 => e = .returned v ∧ W.heap.size ≤ W1.heap.size ∧ (∀ c, c < W.heap.size → W1.heap[c]? = W.heap[c]?) ∧ Rest W W1
  km : ∀ f args A v A1, K.km f args A = some (v, A1) → (∃ fn c, P.funcs[f]? = some fn ∧ fn.body = some c ∧ (fn.name == "runtime.NumGoroutine") = false) ∧
    ∀ base σ W args', R P base σ A W → VRs σ args args' → Calls P f ⟨args'⟩ W fun e W1 => ∃ σ1 v', e = .returned v' ∧ R P base σ1 A1 W1 ∧ Ext A σ W A1 σ1 W1 ∧ VR σ1 v v'
  ne : ∀ fn, P.funcs[K.ne]? = some fn → fn.body = none → ∀ x W, (callFunc K.ne ⟨[x]⟩).run P W = .ok (.value x) W
  mz : ∀ fn, P.funcs[K.mz]? = some fn → fn.body = none → ∀ (n : Nat) W, n ≤ 2 ^ 40 → ∃ cap cells W1, (callFunc K.mz ⟨[.int .i64 n]⟩).run P W = .ok (.value (.slice (some ⟨W.heap.size, 0, none⟩) n cap)) W1 ∧
    W1.heap = W.heap.push (.cells cells K.u8) ∧ cells.size = cap ∧ n ≤ cap ∧ Rest W W1
  kc : KcOK P K

theorem R.grow {W1 : World} (h : R P base σ A W) (hs : W.heap.size ≤ W1.heap.size) (hh : ∀ c, c < W.heap.size → W1.heap[c]? = W.heap[c]?) (hr : Rest W W1) : R P base σ A W1 ∧ Ext A σ W A σ W1 := by
  refine ⟨⟨fun b o m e1 e2 => ?_, h.inj, h.fresh, h.glob, h.high, h.low, Nat.le_trans h.base_le hs, h.lonx, h.dom⟩, ⟨fun _ _ h => h, fun _ _ => rfl, Nat.le_refl _, rfl, hs, fun _ _ h => h, fun c hc _ => hh c hc, hr⟩⟩
  obtain ⟨o', e3, e4⟩ := h.live b o m e1 e2
  exact ⟨o', by rw [hh _ (Array.getElem?_eq_some_iff.1 e3).1]; exact e3, e4⟩

theorem run_callFunc_enter {f : FuncId} {fn : Func} {c : Code} (hf : P.funcs[f]? = some fn) (hb : fn.body = some c) (hn : (fn.name == "runtime.NumGoroutine") = false) (args : Array Value) (W : World) :
    (callFunc f args).run P W = .ok (.enter f args) W := by
  have hn' : ¬ fn.name = "runtime.NumGoroutine" := by simpa using hn
  simp [callFunc, program, Sem.run, hf, hn', hb]

theorem call_ok {kn : Kn} (hkn : KnOK P kn) {ih : Task → Out} (hK : CodeOK P base ih) : CallOK P base (step P kn ih) := by
  intro f args A v A1 he σ W args' h ha fr0 cs W0 fr s hd hr ht
  replace he : callStep P kn f ih args A (kn.kn f args) = .val v A1 := he
  cases hq : kn.kn f args with
  | some u =>
    rw [hq] at he
    simp [callStep] at he; obtain ⟨rfl, rfl⟩ := he
    obtain ⟨c1, c2, _, c3, c4⟩ := hkn.kn f args u hq
    have : args' = args := ha.eq_of_closed c1
    subst this
    rw [c3] at hr
    obtain ⟨e, W1, fr1, ⟨rfl, hs, hh⟩, hc, hfn, hl⟩ := c4 W (fr :: cs)
    obtain ⟨g1, g2⟩ := h.grow hs hh.1 hh.2
    exact ⟨σ, W1, u, g1, g2, closed_VR σ u c2, .head (does_enter hd ht hr) (Steps.trans hc (.one (step_leave_returned hl)))⟩
  | none =>
    rw [hq] at he
    simp only [callStep] at he
    cases hkm : kn.km f args A with
    | some w =>
      obtain ⟨u, Au⟩ := w
      rw [hkm] at he
      simp [kmStep] at he; obtain ⟨rfl, rfl⟩ := he
      obtain ⟨⟨fn, c, f1, f2, f3⟩, hk⟩ := hkn.km f args A _ _ hkm
      obtain ⟨e, W1, fr1, ⟨σ1, v', rfl, g1, g2, g3⟩, hc, hfn, hl⟩ := hk base σ W args' h ha (fr :: cs)
      rw [run_callFunc_enter f1 f2 f3] at hr
      exact ⟨σ1, W1, v', g1, g2, g3, .head (does_enter hd ht hr) (Steps.trans hc (.one (step_leave_returned hl)))⟩
    | none =>
    rw [hkm] at he
    simp only [kmStep] at he
    unfold fnStep at he
    cases hf : P.funcs[f]? with
    | none => simp [hf] at he
    | some fn =>
    simp only [hf] at he
    cases hb : fn.body with
    | some c =>
      simp only [hb] at he
      cases hn : (fn.name == "runtime.NumGoroutine") with
      | true => simp [hn] at he
      | false =>
      simp only [hn] at he
      obtain ⟨σ1, W1, v', h1, h2, h3, h4⟩ := body_ok hK hf hb he h ha fr cs
      rw [run_callFunc_enter hf hb hn] at hr
      exact ⟨σ1, W1, v', h1, h2, h3, .head (does_enter hd ht hr) h4⟩
    | none =>
      simp only [hb] at he
      unfold extCall at he
      cases hmz : Nat.beq f kn.mz with
      | true =>
        rw [hmz] at he
        simp only [cond_true] at he
        obtain rfl := Nat.eq_of_beq_eq_true hmz
        split at he <;> try (simp at he; done)
        rename_i k
        cases hk : Nat.ble k (2 ^ 40) with
        | false => rw [hk] at he; simp at he
        | true =>
        rw [hk] at he
        simp at he; obtain ⟨rfl, rfl⟩ := he
        have hk := Nat.le_of_ble_eq_true hk
        have : args' = [.int .i64 (.ofNat k)] := ha.eq_of_closed rfl
        subst this
        obtain ⟨cap, cells, W1, q1, q2, q3, q4, q5⟩ := hkn.mz fn hf hb k W hk
        rw [show (callFunc kn.mz ⟨[.int .i64 (.ofNat k)]⟩).run P W = _ from q1] at hr
        have hnew := h.new (hr := q5) (o := .cells .leaf k [] 1 kn.u8 (0, 0)) (o' := .cells cells kn.u8) (m := ⟨W.heap.size, 0, cap, 1⟩) (W1 := W1) q2 rfl
          ⟨cells, _, rfl, q3, rfl, by simpa using q4, by omega, fun i u _ hu => by
            rcases cellF_lt hu with hu | ⟨_, hu⟩
            · simp [T.get_leaf] at hu
            · simp [nth] at hu, fun _ => rfl, fun i _ i2 => by simp at i2, fun _ => rfl, .inr (Nat.le_refl _)⟩
        exact ⟨_, W1, _, hnew.1, hnew.2, .slice (Sg.add_at _ _ _) (Nat.le_refl _) q4 (.inr (by simp)) (.inl rfl), .one (does_value hd hr)⟩
      | false =>
      rw [hmz] at he
      simp only [cond_false] at he
      cases hne : Nat.beq f kn.ne with
      | true =>
        rw [hne] at he
        simp only [cond_true] at he
        obtain rfl := Nat.eq_of_beq_eq_true hne
        split at he <;> try (simp at he; done)
        rename_i x
        simp at he; obtain ⟨rfl, rfl⟩ := he
        obtain ⟨x', _, rfl, hx, ha⟩ := ha.snoc_inv
        cases ha
        rw [hkn.ne fn hf hb] at hr
        exact ⟨σ, W, x', h, Ext.refl _ _ _, hx, .one (does_value hd hr)⟩
      | false =>
      rw [hne] at he
      simp only [cond_false] at he
      cases hcl : closedVs args with
      | false => rw [hcl] at he; simp at he
      | true =>
      rw [hcl] at he
      simp only [cond_true] at he
      split at he <;> try (simp at he; done)
      rename_i u hu
      cases hcu : closedV u with
      | false => rw [hcu] at he; simp at he
      | true =>
      rw [hcu] at he
      simp at he; obtain ⟨rfl, rfl⟩ := he
      have : args' = args := ha.eq_of_closed hcl
      subst this
      rw [pureRun_run _ _ hu W] at hr
      exact ⟨σ, W, u, h, Ext.refl _ _ _, closed_VR σ u hcu, .one (does_value hd hr)⟩

end Go.Eng

namespace Go.Eng
open Go
variable [Env]

variable {P : Program} {base : Nat} {σ : Sg} {A : AS} {W : World}

theorem setArgs_sound {n : Nat} : ∀ {ps : List Tmp} {args args' : List Value} {t t1 : T Value} {tm : Array Value}, setArgs n t ps args = some t1 → VRs σ args args' → TR σ t n tm →
    ps.length = args'.length ∧ TR σ t1 n ((ps.zip args').foldl (fun tmps (x : Tmp × Value) => tmps.setIfInBounds x.1 x.2) tm)
  | [], [], args', t, t1, tm, e, ha, ht => by
    cases ha
    simp [setArgs] at e; subst e
    exact ⟨rfl, ht⟩
  | [], _ :: _, args', t, t1, tm, e, ha, ht => by simp [setArgs] at e
  | _ :: _, [], args', t, t1, tm, e, ha, ht => by simp [setArgs] at e
  | p :: ps, v :: vs, args', t, t1, tm, e, ha, ht => by
    obtain ⟨v', vs', rfl, hv, hvs⟩ := ha.snoc_inv
    simp only [setArgs] at e
    cases hp : Nat.blt p n with
    | false => rw [hp] at e; simp at e
    | true =>
      rw [hp] at e
      simp only [cond_true] at e
      obtain ⟨h1, h2⟩ := setArgs_sound e hvs (ht.set p (by simpa [Nat.blt, Nat.succ_le_iff] using hp) hv)
      exact ⟨by simp [h1], by simpa using h2⟩

section rounds
variable {b : Frame} {tm : Array Value} {ds : List Deferred} {k : List Item} {cs : List Frame} {c : Nat} {lp : Loop}
theorem st_beginRound (hb : b.roundOf = some c) (hw : W.heap[c]? = some (.loop lp)) (hs : lp.state = .ready) :
    Go.step P (lone (atR b tm ds (.beginRound :: k)) cs W) = .next (lone (atR b tm ds k) cs { W with heap := W.heap.setIfInBounds c (.loop { lp with state := .busy }) }) :=
  step_lone_go (by simp [stepG, stepG.exec, stepG.apply, atR, hb, Instr.beginRound, Instr.getLoop, getObj, setObj, Sem.run, hw, hs, Frame.finish])
theorem st_round_end {fr : Frame} (hb : b.roundOf = some c) (hk : b.kind = .normal) (hw : W.heap[c]? = some (.loop lp)) :
    Go.step P (lone (atR b tm ds []) (fr :: cs) W) = .next (lone (fr.finish (.bool true)) cs { W with heap := W.heap.setIfInBounds c (.loop { lp with state := .ready, pending := none }) }) :=
  step_lone_go (by simp [stepG, stepG.exec, atR, hb, hk, Instr.endRound, Instr.getLoop, getObj, setObj, Sem.run, hw, doReturn])
theorem st_round_ret {fr : Frame} (hb : b.roundOf = some c) (hk : b.kind = .normal) (hw : W.heap[c]? = some (.loop lp)) :
    Go.step P (lone (atR b tm ds (.code .ret :: k)) (fr :: cs) W) = .next (lone (fr.finish (.bool false)) cs { W with heap := W.heap.setIfInBounds c (.loop { lp with state := .done, pending := some .ret }) }) :=
  step_lone_go (by simp [stepG, stepG.exec, atR, hb, hk, Instr.endRound, Instr.getLoop, getObj, setObj, Sem.run, hw, doReturn])
theorem st_round_exit {fr : Frame} {id : Nat} (hb : b.roundOf = some c) (hk : b.kind = .normal) (hw : W.heap[c]? = some (.loop lp)) (he : exitTo id k = none) :
    Go.step P (lone (atR b tm ds (.code (.exit id) :: k)) (fr :: cs) W) = .next (lone (fr.finish (.bool false)) cs { W with heap := W.heap.setIfInBounds c (.loop { lp with state := .done, pending := some (.exit id) }) }) :=
  step_lone_go (by simp [stepG, stepG.exec, atR, hb, hk, he, Instr.endRound, Instr.getLoop, getObj, setObj, Sem.run, hw, doReturn])
theorem st_endRangeFunc (hw : W.heap[c]? = some (.loop lp)) (hs : lp.state ≠ .busy) :
    Go.step P (lone (atR b tm ds (.endRangeFunc c :: k)) cs W) = .next (lone (atR b tm ds ((lp.pending.map Item.code).toList ++ k)) cs { W with heap := W.heap.setIfInBounds c (.loop { lp with state := .exhausted }) }) :=
  step_lone_go (by
    have : (lp.state == LoopState.busy) = false := by simpa using hs
    simp [stepG, stepG.exec, atR, Instr.endLoop, Instr.getLoop, getObj, setObj, Sem.run, hw, hs])
end rounds

/-- A loop's block is turned. -/
theorem loop_upd {l : Nat} {m : Im} {lp : Loop} {st st1 : LoopState} {pe pe1 : Option Code} {tm : T Value} {n : Nat} {ps : List Tmp} {as_ bo : Code} {d : Nat} (h : R P base σ A W) (hlo : A.lo ≤ l) (hm : σ l = some m)
    (hg : A.h.get l = some (.loop st pe tm n ps as_ bo d)) (hw : W.heap[m.c]? = some (.loop lp)) :
    R P base σ (A.put l (.loop st1 pe1 tm n ps as_ bo d)) { W with heap := W.heap.setIfInBounds m.c (.loop { lp with state := st1, pending := pe1 }) } ∧
      Ext A σ W (A.put l (.loop st1 pe1 tm n ps as_ bo d)) σ { W with heap := W.heap.setIfInBounds m.c (.loop { lp with state := st1, pending := pe1 }) } := by
  obtain ⟨_, w1, lp', rfl, e1, e2, e3, e4, e5, e6⟩ := h.live _ _ _ hg hm
  rw [w1] at hw
  obtain rfl : lp' = lp := by simpa using hw
  have hlt := (Array.getElem?_eq_some_iff.1 w1).1
  exact h.upd (b := l) (m := m) (o1' := .loop { lp' with state := st1, pending := pe1 }) (by rw [hg]; rfl) hm hlo (by simp) (fun y hy => by simp [Array.getElem?_setIfInBounds_ne (Ne.symm hy)]) (by simp [hlt])
    ⟨_, rfl, rfl, rfl, e3, e4, e5, e6⟩

/-- The bounds that a loop's block keeps: it is one of the run's own. -/
def loOK (A : AS) (l : Nat) : Prop := A.lo ≤ l

theorem yield_ok {kn : Kn} {ih : Task → Out} (hK : CodeOK P base ih) : YieldOK P base (step P kn ih) := by
  intro l args A v A1 he σ W args' m h ha hm fr0 cs W0 fr s hd hr
  replace he : yieldStep ih l args A = .val v A1 := he
  unfold yieldStep at he
  cases hlo : Nat.ble A.lo l with
  | false => rw [hlo] at he; simp at he
  | true =>
  rw [hlo] at he
  simp only [cond_true] at he
  have hlo := Nat.le_of_ble_eq_true hlo
  split at he <;> try (simp at he; done)
  rename_i pe tm n ps assign body d hg
  split at he <;> try (simp at he; done)
  rename_i t ht
  obtain ⟨_, w1, lp, rfl, e1, e2, e3, e4, e5, e6⟩ := h.live _ _ _ hg hm
  obtain ⟨p1, p2⟩ := setArgs_sound ht ha e3
  -- the round's frame
  have hrun : s.run P W = .ok (.round m.c lp.fn ((ps.zip args').foldl (fun tmps (x : Tmp × Value) => tmps.setIfInBounds x.1 x.2) lp.tmps) assign body) W := by
    rw [hr]
    have hsz : (⟨args'⟩ : Array Value).size = lp.params.size := by rw [e4]; simp [p1]
    simp only [Instr.yield, Instr.getLoop, getObj, Sem.run_bind, Sem.run, w1, Result.andThen_ok]
    rw [Sem.run_pure, Result.andThen_ok, if_neg (by simp [hsz])]
    simp only [Sem.run_pure, e5, e6, e4]
    congr 2
    rw [← Array.foldl_toList]
    simp
  have henter := does_round hd hrun
  let b : Frame := Frame.round m.c lp.fn ((ps.zip args').foldl (fun tmps (x : Tmp × Value) => tmps.setIfInBounds x.1 x.2) lp.tmps) assign body .normal
  have hb : b.roundOf = some m.c := rfl
  have hbk : b.kind = .normal := rfl
  have hfr : Frame.round m.c lp.fn ((ps.zip args').foldl (fun tmps (x : Tmp × Value) => tmps.setIfInBounds x.1 x.2) lp.tmps) assign body .normal =
    atR b ((ps.zip args').foldl (fun tmps (x : Tmp × Value) => tmps.setIfInBounds x.1 x.2) lp.tmps) [] [.code assign, .beginRound, .code body] := rfl
  rw [hfr] at henter
  cases hq : ih (.code assign ⟨t, n, [], some l⟩ A) with
  | val u A2 => rw [hq] at he; simp [roundBody] at he
  | none => rw [hq] at he; simp [roundBody] at he
  | code e2' F A2 =>
  rw [hq] at he
  cases e2' with
  | exit id => simp [roundBody] at he
  | ret => simp [roundBody] at he
  | normal =>
  simp only [roundBody] at he
  obtain ⟨σ1, W1, tm1, ds1, h1, h2, h3, h4, h5, h6⟩ := hK _ _ _ _ _ _ hq σ W _ [] h p2 .nil b [.beginRound, .code body] (fr :: cs) rfl ⟨m, hm, rfl⟩
  split at he <;> try (simp at he; done)
  rename_i pe1 tm1' n1 ps1 as1 bo1 d1 hg1
  have hm1 := h2.le _ _ hm
  obtain ⟨_, w2, lp1, rfl, f1, f2, f3, f4, f5, f6⟩ := h1.live _ _ _ hg1 hm1
  have hlo1 : A2.lo ≤ l := by rw [h2.lo]; exact hlo
  have hup := loop_upd (st1 := .busy) (pe1 := pe1) h1 hlo1 hm1 hg1 w2
  have hpe : ({ lp1 with state := .busy, pending := pe1 } : Loop) = { lp1 with state := .busy } := by rw [← f2]
  rw [hpe] at hup
  have hbeg := st_beginRound (P := P) (b := b) (tm := tm1) (ds := ds1) (k := [.code body]) (cs := fr :: cs) hb w2 f1
  cases hq2 : ih (.code body F (A2.put l (.loop .busy pe1 tm1' n1 ps1 as1 bo1 d1))) with
  | val u A3 => rw [hq2] at he; simp [roundEnd] at he
  | none => rw [hq2] at he; simp [roundEnd] at he
  | code e3' F3 A3 =>
  rw [hq2] at he
  simp only [roundEnd] at he
  obtain ⟨σ2, W2, tm2, ds2, k1, k2, k3, k4, k5, k6⟩ := hK _ _ _ _ _ _ hq2 σ1 _ tm1 ds1 hup.1 h3 h5 b [] (fr :: cs) rfl (by rw [h4]; exact ⟨m, hm1, rfl⟩)
  split at he <;> try (simp at he; done)
  rename_i st2 pe2 tm2' n2 ps2 as2 bo2 d2 hg2
  have hm2 := k2.le _ _ hm1
  obtain ⟨_, w3, lp2, rfl, _⟩ := k1.live _ _ _ hg2 hm2
  have hlo2 : A3.lo ≤ l := by rw [k2.lo]; exact hlo1
  have hpre : Steps P (lone fr0 cs W0) (lone (atR b tm1 ds1 [.code body]) (fr :: cs) { W1 with heap := W1.heap.setIfInBounds m.c (.loop { lp1 with state := .busy }) }) := (Steps.head henter h6).trans (.one hbeg)
  have hext : Ext A σ W A3 σ2 W2 := (h2.trans hup.2).trans k2
  cases e3' with
  | normal =>
    simp at he; obtain ⟨rfl, rfl⟩ := he
    have hup2 := loop_upd (st1 := .ready) (pe1 := none) k1 hlo2 hm2 hg2 w3
    exact ⟨σ2, _, .bool true, hup2.1, hext.trans hup2.2, .atom rfl, (hpre.trans k6).trans (.one (st_round_end hb hbk w3))⟩
  | ret =>
    simp at he; obtain ⟨rfl, rfl⟩ := he
    have hup2 := loop_upd (st1 := .done) (pe1 := some .ret) k1 hlo2 hm2 hg2 w3
    obtain ⟨k', q1⟩ := k6
    exact ⟨σ2, _, .bool false, hup2.1, hext.trans hup2.2, .atom rfl, (hpre.trans q1).trans (.one (st_round_ret hb hbk w3))⟩
  | exit id =>
    simp at he; obtain ⟨rfl, rfl⟩ := he
    have hup2 := loop_upd (st1 := .done) (pe1 := some (.exit id)) k1 hlo2 hm2 hg2 w3
    obtain ⟨k', q1, q2⟩ := k6
    exact ⟨σ2, _, .bool false, hup2.1, hext.trans hup2.2, .atom rfl, (hpre.trans q1).trans (.one (st_round_exit hb hbk w3 (by rw [q2]; rfl)))⟩

/-- A loop over a function. -/
theorem range_ok {ih : Task → Out} (hK : CodeOK P base ih) (hC : CallOK P base ih) : ∀ f params assign body F A e F1 A1, cRange P f params assign body ih F A = .code e F1 A1 → ∀ σ W tm ds, R P base σ A W → TR σ F.t F.n tm → DR σ F.ds ds →
      ∀ b k cs, Calm b cs → RD σ F.rd b.roundOf → ∃ σ1 W1 tm1 ds1, R P base σ1 A1 W1 ∧ Ext A σ W A1 σ1 W1 ∧ TR σ1 F1.t F1.n tm1 ∧ F1.rd = F.rd ∧ DR σ1 F1.ds ds1 ∧ Arr P (lone (atR b tm ds (.code (.rangeFunc f params assign body) :: k)) cs W) b k cs e tm1 ds1 W1 := by
  intro f params assign body F A e F1 A1 he σ W tm ds h ht hd b k cs hcalm hr
  unfold cRange at he
  split at he <;> try (simp at he; done)
  rename_i g first cap hrd hf
  have hbr : b.roundOf = none := by
    rw [hrd] at hr
    cases hq : b.roundOf with
    | none => rfl
    | some c => rw [hq] at hr; exact hr.elim
  have hev := eval_sound (a := ⟨tm, ds⟩) h ht hf
  -- the two blocks
  obtain ⟨a1, a2⟩ := h.new (o := .deferred true) (o' := .deferred (some [])) (m := ⟨W.heap.size, 0, 0, 0⟩) (W1 := { W with heap := W.heap.push (.deferred (some [])) }) rfl rfl ⟨some [], rfl, fun _ => rfl⟩
  have hDm : (σ.add A.nx ⟨W.heap.size, 0, 0, 0⟩) A.nx = some ⟨W.heap.size, 0, 0, 0⟩ := Sg.add_at _ _ _
  let lp : Loop := { state := .ready, pending := none, fn := b.fn, tmps := tm, params := params, assign := assign, body := body, defers := W.heap.size }
  obtain ⟨b1, b2⟩ := a1.new (o := .loop .ready none F.t F.n params.toList assign body A.nx) (o' := .loop lp) (m := ⟨W.heap.size + 1, 0, 0, 0⟩)
    (W1 := { W with heap := (W.heap.push (.deferred (some []))).push (.loop lp) }) rfl (by simp) ⟨lp, rfl, rfl, rfl, ht.mono a2.le, rfl, rfl, rfl⟩
  have hnx : (A.new (.deferred true)).nx = A.nx + 1 := rfl
  rw [hnx] at b1 b2
  have hext := a2.trans b2
  generalize hσ2 : ((σ.add A.nx ⟨W.heap.size, 0, 0, 0⟩).add (A.nx + 1) ⟨W.heap.size + 1, 0, 0, 0⟩) = σ2 at b1 b2 hext
  have hLm : σ2 (A.nx + 1) = some ⟨W.heap.size + 1, 0, 0, 0⟩ := by rw [← hσ2]; exact Sg.add_at _ _ _
  have hDm2 : σ2 A.nx = some ⟨W.heap.size, 0, 0, 0⟩ := by rw [← hσ2, Sg.add_ne _ _ _ (by omega)]; exact hDm
  -- the call
  have htg : aTarget P (.func (.func g) first cap) [.func (.yield (A.nx + 1)) #[] #[]] ((A.new (.deferred true)).new (.loop .ready none F.t F.n params.toList assign body A.nx)) =
    some (.enter g (first.toList ++ [.func (.yield (A.nx + 1)) #[] #[]] ++ cap.toList), (A.new (.deferred true)).new (.loop .ready none F.t F.n params.toList assign body A.nx)) := by simp [aTarget]
  have hop := target_sound (args' := [.func (.yield (W.heap.size + 1)) #[] #[]]) b1 (hev.mono hext.le) (.cons (.yield hLm) .nil) htg
  obtain ⟨args', o1, o2, _⟩ := hop
  let fr : Frame := { atR b tm ds (.code (.rangeFunc f params assign body) :: k) with todo := .inRangeFunc (W.heap.size + 1) :: k, defers := { target := .collected W.heap.size, args := #[] } :: ds }
  have hdoes : Does P (atR b tm ds (.code (.rangeFunc f params assign body) :: k)) cs W fr
      (do let d ← Deferred.ofValue (Act.eval ⟨tm, ds⟩ f) ⟨[.func (.yield (W.heap.size + 1)) #[] #[]]⟩; invoke d.target d.args : Sem Next) { W with heap := (W.heap.push (.deferred (some []))).push (.loop lp) } := by
    have hev2 : ∀ todo ds', Frame.eval (atR b tm ds' todo) = Act.eval ⟨tm, ds⟩ := fun todo ds' => by funext x; cases x <;> rfl
    have hev3 := hev2 (.code (.rangeFunc f params assign body) :: k) ds
    simp only [atR] at hev3
    unfold Does
    simp only [stepG, stepG.exec, atR, hbr, Instr.enterLoop]
    simp [newObj, Sem.run, fr, lp, atR, resolve, Frame.eval]
    cases f <;> (rw [hbr]; first | rfl | (simp [Act.eval]; rfl))
  cases hq : ih (.call g (first.toList ++ [.func (.yield (A.nx + 1)) #[] #[]] ++ cap.toList) ((A.new (.deferred true)).new (.loop .ready none F.t F.n params.toList assign body A.nx))) with
  | none => rw [hq] at he; simp [ranged] at he
  | code e' F' A' => rw [hq] at he; simp [ranged] at he
  | val u A3 =>
  rw [hq] at he
  simp only [ranged] at he
  obtain ⟨σ3, W3, v', c1, c2, c3, c4⟩ := hC _ _ _ _ _ hq σ2 _ args' b1 o2 _ cs W fr _ hdoes o1 rfl
  have hfin : fr.finish v' = atR b tm ({ target := .collected W.heap.size, args := #[] } :: ds) (.endRangeFunc (W.heap.size + 1) :: k) := rfl
  rw [hfin] at c4
  split at he <;> try (simp at he; done)
  rename_i st pe tm3 n3 ps3 as3 bo3 d3 hg3
  have hLm3 := c2.le _ _ hLm
  obtain ⟨_, w3, lp3, rfl, f1, f2, f3⟩ := c1.live _ _ _ hg3 hLm3
  have hlo3 : A3.lo ≤ A.nx + 1 := by rw [c2.lo, hext.lo]; exact Nat.le_succ_of_le h.lonx
  have hnb : st ≠ .busy := by rintro rfl; simp at he
  have hup := loop_upd (st1 := .exhausted) (pe1 := pe) c1 hlo3 hLm3 hg3 w3
  have hpe : ({ lp3 with state := .exhausted, pending := pe } : Loop) = { lp3 with state := .exhausted } := by rw [← f2]
  rw [hpe] at hup
  have hst := st_endRangeFunc (P := P) (b := b) (tm := tm) (ds := { target := .collected W.heap.size, args := #[] } :: ds) (k := k) (cs := cs) w3 (by rw [f1]; exact hnb)
  have hall : Ext A σ W (A3.put (A.nx + 1) (.loop .exhausted pe tm3 n3 ps3 as3 bo3 d3)) σ3 _ := (hext.trans c2).trans hup.2
  have hd3 : DR σ3 (.mark A.nx :: F.ds) ({ target := .collected W.heap.size, args := #[] } :: ds) := .cons (m := ⟨W.heap.size, 0, 0, 0⟩) (c2.le _ _ hDm2) (hd.mono ((hext.trans c2).le))
  have ht3 := ht.mono ((hext.trans c2).le)
  have hto : Steps P (lone (atR b tm ds (.code (.rangeFunc f params assign body) :: k)) cs W) (lone (atR b tm ({ target := .collected W.heap.size, args := #[] } :: ds) ((lp3.pending.map Item.code).toList ++ k)) cs
    { W3 with heap := W3.heap.setIfInBounds (W.heap.size + 1) (.loop { lp3 with state := .exhausted }) }) := c4.trans (.one hst)
  have fin : ∀ e F1 A1, (match pe with
      | none => Out.code .normal ⟨F.t, F.n, .mark A.nx :: F.ds, F.rd⟩ (A3.put (A.nx + 1) (.loop .exhausted none tm3 n3 ps3 as3 bo3 d3))
      | some c => ih (.code c ⟨F.t, F.n, .mark A.nx :: F.ds, F.rd⟩ (A3.put (A.nx + 1) (.loop .exhausted (some c) tm3 n3 ps3 as3 bo3 d3)))) = .code e F1 A1 →
      ∃ σ1 W1 tm1 ds1, R P base σ1 A1 W1 ∧ Ext A σ W A1 σ1 W1 ∧ TR σ1 F1.t F1.n tm1 ∧ F1.rd = F.rd ∧ DR σ1 F1.ds ds1 ∧ Arr P (lone (atR b tm ds (.code (.rangeFunc f params assign body) :: k)) cs W) b k cs e tm1 ds1 W1 := by
    intro e F1 A1 he
    cases pe with
    | none =>
      simp at he; obtain ⟨rfl, rfl, rfl⟩ := he
      refine ⟨σ3, _, tm, _, hup.1, hall, ht3, rfl, hd3, ?_⟩
      have hp : (lp3.pending.map Item.code).toList ++ k = k := by rw [f2]; rfl
      rw [hp] at hto
      exact hto
    | some c =>
      simp only at he
      obtain ⟨σ4, W4, tm4, ds4, k1, k2, k3, k4, k5, k6⟩ := hK _ _ _ _ _ _ he σ3 _ tm _ hup.1 ht3 hd3 b k cs hcalm (by simp only [hrd, hbr]; trivial)
      refine ⟨σ4, W4, tm4, ds4, k1, hall.trans k2, k3, k4, k5, .of_steps ?_ k6⟩
      have hp : (lp3.pending.map Item.code).toList ++ k = .code c :: k := by rw [f2]; rfl
      rw [hp] at hto
      exact hto
  cases st with
  | busy => exact absurd rfl hnb
  | ready => exact fin _ _ _ he
  | done => exact fin _ _ _ he
  | exhausted => exact fin _ _ _ he

end Go.Eng

namespace Go.Eng
open Go
variable [Env]

variable {P : Program} {base : Nat} {σ : Sg} {A : AS} {W : World} {t : T Value} {n : Nat} {a : Act}

theorem aPure_same {o : Oper} {r : ANext} {A1 : AS} (e : aPure P o t A = some (r, A1)) : A1 = A := by
  unfold aPure at e
  cases hc : allClosed P t o.op.operands.toList with
  | false => rw [hc] at e; simp at e
  | true =>
    rw [hc] at e
    simp only [cond_true] at e
    split at e <;> try (simp at e; done)
    rename_i v hv
    cases hcv : closedV v with
    | false => rw [hcv] at e; simp at e
    | true => rw [hcv] at e; simp at e; exact e.2.symm
theorem okA_same {o : Option Value} {r : ANext} {A1 : AS} (e : okA A o = some (r, A1)) : A1 = A := (okA_inv e).choose_spec.2.2

theorem convInt_same {src dst : TypeId} {i : Int} {r : ANext} {A1 : AS} (e : convInt P src dst i A = some (r, A1)) : A1 = A := by
  unfold convInt at e
  split at e <;> simp at e
  exact e.2.symm
theorem bif_same {c : Bool} {x r : ANext} {A1 : AS} (e : (bif c then some (x, A) else none) = some (r, A1)) : A1 = A := by
  cases c
  · simp at e
  · simp at e; exact e.2.symm
theorem aConvert_same {src dst : TypeId} {v : Value} {r : ANext} {A1 : AS} (hd : isSliceD (P.underlying dst) = false) (e : aConvert P src dst v A = some (r, A1)) : A1 = A := by
  unfold aConvert at e
  split at e <;> try (simp at e; done)
  · split at e <;> try (simp at e; done)
    · split at e <;> simp at e
      exact e.2.symm
    · split at e <;> simp at e
      exact e.2.symm
  · rename_i hq; rw [hq] at hd; simp [isSliceD] at hd
  · rename_i hq; rw [hq] at hd; simp [isSliceD] at hd
  · split at e <;> try (simp at e; done)
    exact bif_same e
  · split at e <;> try (simp at e; done)
    exact bif_same e

theorem aBuiltin_same {b : Builtin} {ts : List TypeId} {args : List Value} {r : ANext} {A1 : AS} (hb : (match b with | .len | .cap | .max | .min | .unsafeSliceData => false | _ => true) = false) (e : aBuiltin P b ts args A = some (r, A1)) : A1 = A := by
  unfold aBuiltin at e
  split at e <;> try (simp at e; done)
  · simp at hb
  · split at e <;> try (simp at e; done)
    split at e <;> try (simp at e; done)
    · simp at e; exact e.2.symm
    · split at e <;> simp at e; exact e.2.symm
    · split at e <;> simp at e; exact e.2.symm
  · simp at hb
  · simp at hb
  · split at e <;> try (simp at e; done)
    split at e <;> simp at e
    exact e.2.symm
  · simp at hb
  · split at e <;> simp at e
    exact e.2.symm

/-- An operation that neither acts nor makes memory leaves all as it is, and calls nothing. -/
theorem aOp_quiet {o : Oper} {r : ANext} {A1 : AS} (h1 : actsOn P o = false) (h2 : makesMem P o = false) (e : aOp P o t A = some (r, A1)) : A1 = A := by
  cases ho : o.op with
  | move x => simp only [aOp, ho] at e; exact okA_same e
  | assign x => simp only [aOp, ho] at e; exact okA_same e
  | pick c x y =>
    simp only [aOp, ho] at e
    unfold xPick pickV at e
    split at e <;> try (simp at e; done)
    split at e <;> simp at e
    exact e.2.symm
  | alloc ty => simp [makesMem, ho] at h2
  | box ty x => simp [makesMem, ho] at h2
  | build ty ps =>
    simp only [aOp, ho] at e
    unfold xBuild at e
    split at e <;> try (simp at e; done)
    exact okA_same e
  | buildSlice ty k ps => simp [makesMem, ho] at h2
  | load ty x =>
    simp only [aOp, ho] at e
    unfold xLoad loadV at e
    split at e <;> try (simp at e; done)
    exact okA_same e
  | store ty x y => simp [actsOn, ho] at h1
  | nilCheck x =>
    simp only [aOp, ho] at e
    unfold xNil nilV at e
    split at e <;> simp at e <;> exact e.2.symm
  | binOp op ty x y yt =>
    simp only [aOp, ho] at e
    unfold xBin binV at e
    split at e <;> try (simp at e; done)
    split at e
    · simp at e; exact e.2.symm
    · unfold binSlow at e
      split at e
      · split at e
        · simp at e; exact e.2.symm
        · exact aPure_same e
      · split at e
        · simp at e; exact e.2.symm
        · exact aPure_same e
      · exact aPure_same e
  | makeInterface ty x =>
    simp only [aOp, ho] at e
    unfold xMakeIface at e
    split at e <;> simp at e
    exact e.2.symm
  | makeFunc fn x y =>
    simp only [aOp, ho] at e
    unfold xMakeFunc at e
    split at e <;> simp at e
    exact e.2.symm
  | makeMap ty q =>
    cases q with
    | none => simp [makesMem, ho] at h2
    | some x => simp only [aOp, ho] at e; exact aPure_same e
  | makeSlice ty x y => simp [makesMem, ho] at h2
  | slice ty x lo hi mx =>
    simp only [aOp, ho] at e
    unfold xSlice at e
    split at e
    · generalize optV P t lo = wlo at e
      generalize optV P t hi = whi at e
      generalize optV P t mx = wmx at e
      unfold strSlice at e
      split at e
      · split at e
        · simp at e; exact e.2.symm
        · exact aPure_same e
      · exact aPure_same e
    · exact aPure_same e
    · split at e <;> try (simp at e; done)
      exact okA_same e
    · simp at e
  | fieldAddr s x f =>
    simp only [aOp, ho] at e
    unfold xField fieldV at e
    split at e <;> try (simp at e; done)
    exact okA_same e
  | indexAddr ty x ix =>
    simp only [aOp, ho] at e
    unfold xIndexAddr indexV at e
    split at e <;> try (simp at e; done)
    exact okA_same e
  | lookup ty x ix ok =>
    simp only [aOp, ho] at e
    unfold xLookup lookupV at e
    split at e <;> try (simp at e; done)
    split at e <;> try (simp at e; done)
    split at e <;> try (simp at e; done)
    · simp at e; exact e.2.symm
    · split at e <;> try (simp at e; done)
      exact bif_same e
  | mapUpdate ty m k x => simp [actsOn, ho] at h1
  | insert ty m k x => simp [actsOn, ho] at h1
  | range ty x => simp [actsOn, ho] at h1
  | next x b => simp [actsOn, ho] at h1
  | extract x i =>
    simp only [aOp, ho] at e
    unfold xExtract extractV at e
    split at e <;> try (simp at e; done)
    exact okA_same e
  | typeAssert x xt ty ok =>
    simp only [aOp, ho] at e
    unfold xAssert assertV at e
    split at e <;> try (simp at e; done)
    split at e <;> try (simp at e; done)
    rename_i tt v d hx hu d2 hno
    cases hb : Nat.beq tt ty with
    | true => rw [hb] at e; simp at e; exact e.2.symm
    | false =>
      rw [hb] at e
      simp only [cond_false] at e
      cases ok with
      | false => simp at e
      | true =>
        simp only [cond_true] at e
        split at e <;> try (simp at e; done)
        split at e <;> try (simp at e; done)
        exact bif_same e
  | convert src dst x =>
    have hst : strToRow P src dst = false := by simpa [makesMem, ho] using h2
    have hd : isSliceD (P.underlying dst) = false := by
      have h1 : (isSliceD (P.underlying dst) && !isStrD (P.underlying src)) = false := by simpa only [actsOn, ho] using h1
      unfold strToRow at hst
      cases hq : isSliceD (P.underlying dst) with
      | false => rfl
      | true => rw [hq] at h1 hst; cases hr : isStrD (P.underlying src) <;> simp [hr] at h1 hst
    simp only [aOp, ho] at e
    have slow : ∀ v, convSlow P o src dst v t A = some (r, A1) → A1 = A := by
      intro v e
      unfold convSlow at e
      cases hc : closedV v with
      | false => rw [hc] at e; exact aConvert_same hd e
      | true =>
        rw [hc] at e
        simp only [cond_true] at e
        split at e
        · rename_i q hq; simp at e; subst e; exact aPure_same hq
        · exact aConvert_same hd e
    unfold xConvert at e
    rw [hst] at e
    simp only [cond_false] at e
    unfold convV at e
    split at e
    · split at e
      · rename_i q hq; simp at e; subst e; exact convInt_same hq
      · exact slow _ e
    · exact slow _ e
    · simp at e
  | call c =>
    simp only [actsOn, ho] at h1
    simp only [aOp, ho] at e
    cases hc : c.callee with
    | builtin b =>
      rw [hc] at h1
      simp only [xCall, hc] at e
      unfold xBuiltin builtinV at e
      split at e <;> try (simp at e; done)
      split at e
      · simp at e; exact e.2.symm
      · split at e
        · rename_i q hq; simp at e; subst e; exact aPure_same hq
        · exact aBuiltin_same h1 e
    | value f => rw [hc] at h1; simp at h1
    | invoke rv nm => rw [hc] at h1; simp at h1
  | field s x f =>
    simp only [aOp, ho] at e
    unfold xFieldOf fieldOfV at e
    split at e
    · split at e <;> try (simp at e; done)
      split at e <;> try (simp at e; done)
      obtain ⟨_, _, _, rfl⟩ := okA_inv e
      rfl
    · exact aPure_same e
  | index ty x ix =>
    simp only [aOp, ho] at e
    unfold xIndex indexStr at e
    split at e
    · split at e <;> simp at e
      exact e.2.symm
    · exact aPure_same e
  | unOp op ty x =>
    simp only [aOp, ho] at e
    unfold xUn at e
    cases op with
    | not =>
      simp only at e
      unfold notV at e
      split at e <;> simp at e
      exact e.2.symm
    | _ => exact aPure_same e
  | select cs b => simp [aOp, ho] at e
  | defer c => simp [aOp, ho] at e
  | go c => simp [aOp, ho] at e
  | _ => simp only [aOp, ho] at e; exact aPure_same e


/-- What a maker of memory does: one new block. -/
def Makes (P : Program) (σ : Sg) (W : World) (run : Result Next) (nn : Nat) (v : Value) (ob : AObj) : Prop :=
  ∃ m o' W1 v', run = .ok (.value v') W1 ∧ W1.heap = W.heap.push o' ∧ m.c = W.heap.size ∧ OR σ m ob o' ∧ (∀ τ : Sg, σ.le τ → τ nn = some m → VR τ v v') ∧ Rest W W1

theorem newC_get {nn : Nat} {v0 : Value} {tr : T Value} {size : Nat} {z : List Value} {u : Nat} {e : TypeId} {fz : Nat × Nat} {v : Value} {A1 : AS} {ob : AObj} {h : T AObj} {lo : Nat}
    (hn : newC ⟨h, nn, lo⟩ v0 tr size z u e fz = some (.value v, A1)) (hg : A1.h.get nn = some ob) : size ≤ 2 ^ 60 ∧ v = v0 ∧ ob = .cells tr size z u e fz := by
  obtain ⟨h1, h2, rfl⟩ := newC_inv hn
  refine ⟨h1, by simpa using h2, ?_⟩
  rcases T.set_get _ _ _ _ _ hg with ⟨_, q⟩ | ⟨q, _⟩
  · exact q.symm
  · exact absurd rfl q

theorem cells_OR {tr : T Value} {size : Nat} {z : List Value} {u : Nat} {e : TypeId} {cs : Array Value} {fz : Nat × Nat} (W : World) (h60 : size ≤ 2 ^ 60) (hs : size ≤ cs.size)
    (hc : ∀ i v, i < size → cellF tr z i = some v → ∃ v', cs[i]? = some v' ∧ VR σ v v') : OR σ ⟨W.heap.size, 0, cs.size, u⟩ (.cells tr size z u e fz) (.cells cs e) :=
  ⟨cs, (0, 0), rfl, rfl, rfl, by simpa using hs, h60, fun i v hi hv => by
    obtain ⟨v', q1, q2⟩ := hc i v hi hv
    exact ⟨v', by simpa using q1, q2⟩, fun _ => rfl, fun i _ h2 => by simp at h2, fun _ => rfl, .inr (Nat.le_refl _)⟩

theorem mk_sound {h0 : T AObj} {lo0 : Nat} {o : Oper} {nn : Nat} {v : Value} {A1 : AS} {ob : AObj} (hm : makesMem P o = true) (h : R P base σ A W) (ht : TR σ t n a.tmps) (e : aOp P o t ⟨h0, nn, lo0⟩ = some (.value v, A1)) (hg : A1.h.get nn = some ob) :
    Makes P σ W ((execOp a.eval o).run P W) nn v ob := by
  cases ho : o.op with
  | alloc ty =>
    simp only [aOp, ho] at e
    unfold xAlloc at e
    split at e <;> try (simp at e; done)
    rename_i z hz
    obtain ⟨h60, rfl, rfl⟩ := newC_get e hg
    obtain ⟨zv, hr, hcl, hzz⟩ := run_zeroValue ty hz W
    have hcc : VRs σ z z := by rw [← hzz]; exact (closed_VR σ zv hcl).cells
    refine ⟨_, _, _, .pointer (some ⟨W.heap.size, 0, none⟩), by simp [execOp, ho, Instr.alloc, hr, newVar, run_newRow]; rfl, rfl, rfl, cells_OR W h60 (by rw [← Array.length_toList, hzz]; exact Nat.le_refl _) (fun i v hi hv => ?_), fun τ hle hτ => ?_, by exact ⟨rfl, rfl, rfl⟩⟩
    · rcases cellF_lt hv with hq | ⟨_, hq⟩
      · simp [T.get_leaf] at hq
      · rw [nth_eq, Nat.mod_eq_of_lt hi] at hq
        obtain ⟨v', q1, q2⟩ := hcc.get i v hq
        exact ⟨v', by rw [← Array.getElem?_toList, hzz]; exact q1, q2⟩
    · have := VR.ptr (o := 0) hτ
      simpa using this
  | box ty x =>
    simp only [aOp, ho] at e
    unfold xBox boxV at e
    split at e <;> try (simp at e; done)
    rename_i u hu
    obtain ⟨h60, rfl, rfl⟩ := newC_get e hg
    have hu' := eval_sound h ht hu
    have hl := hu'.cells
    have hlen := hl.length
    simp only [Array.length_toList] at hlen
    refine ⟨_, _, _, .pointer (some ⟨W.heap.size, 0, none⟩), by simp [execOp, ho, Instr.box, newVar, run_newRow]; rfl, rfl, rfl, cells_OR W h60 (by omega) (fun i u hi hu => ?_), fun τ hle hτ => ?_, by exact ⟨rfl, rfl, rfl⟩⟩
    · obtain ⟨v', q1, q2⟩ := hl.leaf_cell i u (by simpa using hi) hu
      exact ⟨v', by simpa using q1, q2⟩
    · have := VR.ptr (o := 0) hτ
      simpa using this
  | makeMap ty q =>
    cases q with
    | some x => simp [makesMem, ho] at hm
    | none =>
      simp only [aOp, ho] at e
      unfold xMakeMap at e
      simp at e; obtain ⟨rfl, rfl⟩ := e
      have hob : ob = .map [] 0 := by
        rcases T.set_get _ _ _ _ _ hg with ⟨_, q⟩ | ⟨q, _⟩
        · exact q.symm
        · exact absurd rfl q
      subst hob
      exact ⟨⟨W.heap.size, 0, 0, 0⟩, .map #[] 0, { W with heap := W.heap.push (.map #[] 0) }, .map (some W.heap.size), by simp [execOp, ho, Instr.makeMap, newObj, Sem.run], rfl, rfl, ⟨#[], rfl, .nil⟩, fun τ hle hτ => .map hτ, by exact ⟨rfl, rfl, rfl⟩⟩
  | buildSlice ty len parts =>
    simp only [aOp, ho] at e
    unfold xBuildSlice sliceOf at e
    split at e <;> try (simp at e; done)
    rename_i ps elem hps hu
    split at e <;> try (simp at e; done)
    rename_i sz z hsz hz
    cases hcond : Nat.ble (len * sz) (2 ^ 24) with
    | false => rw [hcond] at e; simp at e
    | true =>
    rw [hcond] at e; simp only [cond_true] at e
    have hcond := Nat.le_of_ble_eq_true hcond
    split at e <;> try (simp at e; done)
    rename_i tr htr
    obtain ⟨h60, rfl, rfl⟩ := newC_get e hg
    have hp := evalParts_sound h ht hps
    have hparts : (parts.map fun (i, x) => (i, a.eval x)).toList = parts.toList.map fun x => (x.1, a.eval x.2) := by simp
    obtain ⟨zv, hr, hcl, hzz⟩ := run_zeroValue elem hz W
    obtain ⟨zc, hzc, hzr⟩ : ∃ zc : Array Value, (len * sz ≠ 0 → zc.toList = z) ∧ ((len * sz = 0 ∧ zc = #[]) ∨ (len * sz ≠ 0 ∧ zc = zv.cells)) := by
      by_cases h0 : len * sz = 0
      · exact ⟨#[], fun q => absurd h0 q, .inl ⟨h0, rfl⟩⟩
      · exact ⟨zv.cells, fun _ => hzz, .inr ⟨h0, rfl⟩⟩
    obtain ⟨cs', q1, q2, q3⟩ := parts_sound (σ := σ) (z := z) h60 hp (cs := (Array.range (len * sz)).map (zc[· % zc.size]!)) (by simp) (fun i v hi hv =>
      pattern_cell (hzc (by omega)) (zeroP_closed hz) hi hv) htr
    refine ⟨_, _, { W with heap := W.heap.push (.cells cs' elem) }, .slice (some ⟨W.heap.size, 0, none⟩) len len, ?_, rfl, rfl, cells_OR W h60 (by omega) q3, fun τ hle hτ => ?_, by exact ⟨rfl, rfl, rfl⟩⟩
    · simp only [execOp, ho, Instr.buildSlice, Sem.run_bind, run_underlying ty hu, Result.andThen_ok, run_sizeOf elem hsz]
      rw [if_neg (by omega)]
      rcases hzr with ⟨h0, rfl⟩ | ⟨h0, rfl⟩
      · rw [if_pos h0]; simp only [Sem.run_bind, Sem.run_pure, Result.andThen_ok]; rw [hparts]; simp only [q1, Sem.run_bind, run_newRow, Result.andThen_ok, Sem.run_pure]
      · rw [if_neg h0]; simp only [Sem.run_bind, Sem.run_pure, Result.andThen_ok, hr]; rw [hparts]; simp only [q1, Sem.run_bind, run_newRow, Result.andThen_ok, Sem.run_pure]
    · exact .slice hτ (Nat.le_refl _) (Nat.le_refl _) (.inl rfl) (.inl (by simp))
  | makeSlice ty x y =>
    simp only [aOp, ho] at e
    unfold xMakeSlice makeSliceV at e
    split at e <;> try (simp at e; done)
    rename_i l c elem hl hc hu
    split at e <;> try (simp at e; done)
    rename_i inf z hinf hz
    cases hcond : (Nat.ble l c && Nat.ble (c * inf.bytes) (2 ^ 40) && Nat.ble c (2 ^ 40)) with
    | false => rw [hcond] at e; simp at e
    | true =>
      rw [hcond] at e
      simp only [cond_true] at e
      simp only [Bool.and_eq_true] at hcond
      obtain ⟨⟨h1, h2⟩, h3⟩ := hcond
      have h1 := Nat.le_of_ble_eq_true h1
      have h2 := Nat.le_of_ble_eq_true h2
      have h3 := Nat.le_of_ble_eq_true h3
      obtain ⟨h60, rfl, rfl⟩ := newC_get e hg
      obtain ⟨k, hk⟩ := bind_natOf hl
      obtain ⟨k', hk'⟩ := bind_natOf hc
      have ex : a.eval x = .int k (.ofNat l) := (eval_sound h ht hk).eq_of_closed rfl
      have ey : a.eval y = .int k' (.ofNat c) := (eval_sound h ht hk').eq_of_closed rfl
      have hsz : sizeP P elem = some inf.size := by simp [sizeP, hinf]
      obtain ⟨zv, hr, hcl, hzz⟩ := run_zeroValue elem hz W
      have wl : IntKind.i64.wrap (Int.ofNat l) = (l : Int) := wrap_i64 l (by omega)
      have wc : IntKind.i64.wrap (Int.ofNat c) = (c : Int) := wrap_i64 c (by omega)
      have hb : ¬ ((inf.bytes : Int) * (c : Int) > 2 ^ 48) := by
        have : (inf.bytes * c : Nat) ≤ 2 ^ 40 := by rw [Nat.mul_comm]; exact h2
        have h' : ((inf.bytes * c : Nat) : Int) ≤ ((2 ^ 40 : Nat) : Int) := Int.ofNat_le.2 this
        rw [Int.natCast_mul] at h'
        have : ((2 ^ 40 : Nat) : Int) ≤ 2 ^ 48 := by decide
        omega
      obtain ⟨zc, hzc, hzr⟩ : ∃ zc : Array Value, (c * inf.size ≠ 0 → zc.toList = z) ∧ ((c * inf.size = 0 ∧ zc = #[]) ∨ (c * inf.size ≠ 0 ∧ zc = zv.cells)) := by
        by_cases h0 : c * inf.size = 0
        · exact ⟨#[], fun q => absurd h0 q, .inl ⟨h0, rfl⟩⟩
        · exact ⟨zv.cells, fun _ => hzz, .inr ⟨h0, rfl⟩⟩
      refine ⟨_, _, { W with heap := W.heap.push (.cells ((Array.range (c * inf.size)).map (zc[· % zc.size]!)) elem) }, .slice (some ⟨W.heap.size, 0, none⟩) l c, ?_, rfl, rfl,
        cells_OR W h60 (by simp) (fun i v hi hv => pattern_cell (hzc (by omega)) (zeroP_closed hz) hi hv), fun τ hle hτ => ?_, by exact ⟨rfl, rfl, rfl⟩⟩
      · have q1 : ¬ ((c : Int) < 0) := by omega
        have q2 : ¬ ((l : Int) < 0) := by omega
        have q3 : ¬ ((l : Int) > (c : Int)) := by omega
        simp only [execOp, ho, Instr.makeSlice, ex, ey, asInt, asIntOf, Sem.run_bind, Sem.run_pure, run_underlying ty hu, run_typeInfo elem hinf, Result.andThen_ok, wl, wc]
        simp only [q1, q2, q3, hb, decide_false, Bool.or_false, Bool.false_eq_true, if_false, Int.toNat_natCast, run_askRoom, Sem.run_bind, Result.andThen_ok, run_sizeOf elem hsz]
        rcases hzr with ⟨h0, rfl⟩ | ⟨h0, rfl⟩
        · rw [if_pos h0]; simp only [Sem.run_bind, Sem.run_pure, Result.andThen_ok, run_newRow]
        · rw [if_neg h0]; simp only [Sem.run_bind, Sem.run_pure, Result.andThen_ok, run_newRow, hr]
      · exact .slice hτ h1 (Nat.le_refl _) (.inl rfl) (.inl (by simp))
  | convert src dst x =>
    have hst : strToRow P src dst = true := by simpa [makesMem, ho] using hm
    simp only [aOp, ho] at e
    unfold xConvert at e
    rw [hst] at e
    simp only [cond_true] at e
    unfold strToRow at hst
    simp only [Bool.and_eq_true] at hst
    have hs : P.underlying src = some .string := by
      have := hst.1
      unfold isStrD at this
      split at this <;> simp_all
    obtain ⟨el, hd⟩ : ∃ el, P.underlying dst = some (.slice el) := by
      have := hst.2
      unfold isSliceD at this
      split at this <;> simp_all
    unfold newStr at e
    split at e <;> try (simp at e; done)
    rename_i s hx
    simp only [aConvert, hs, hd] at e
    split at e <;> try (simp at e; done)
    rename_i he
    obtain ⟨h60, rfl, rfl⟩ := newC_get e hg
    have hw : a.eval x = .string s := (eval_sound h ht hx).eq_of_closed rfl
    obtain ⟨cap, o', W1, q1, q2, q3, hle, q4⟩ := strBytes_run hs hd he h60 σ W
    refine ⟨_, o', W1, .slice (some ⟨W.heap.size, 0, none⟩) s.size cap, by simp only [execOp, ho, hw, Sem.run_bind, q1, Result.andThen_ok]; rfl, q2, rfl, q3, fun τ hle2 hτ => .slice hτ (Nat.le_refl _) hle (.inr (by simp)) (.inl rfl), q4⟩
  | _ => simp [makesMem, ho] at hm

end Go.Eng
