/- Part of an abstract machine that runs the program's code in Lean's kernel, and of the proof that what it answers every run of the model answers (Go.Eng; program-independent). No condition. -/
import Derived.Test.YtdafgjfijdijlaaGreatDoorE7
namespace Go.Eng
open Go

variable {P : Program} {base : Nat} {σ : Sg} {A : AS} {W : World} {t : T Value} {n : Nat} {a : Act}

/-- What an operation's run must be, where the abstract one answers r and leaves A1. -/
def OpSim (P : Program) (base : Nat) (σ : Sg) (A : AS) (W : World) (run : Result Next) (r : ANext) (A1 : AS) : Prop := match r with
  | .value v => ∃ σ1 W1 v', (run = .ok (.value v') W1 ∨ (run = .ok .skip W1 ∧ v' = undef)) ∧ R P base σ1 A1 W1 ∧ Ext A σ W A1 σ1 W1 ∧ VR σ1 v v'
  | .enter f args => ∃ args', run = (callFunc f ⟨args'⟩).run P W ∧ VRs σ args args' ∧ A1 = A
  | .yield l args => ∃ m args', σ l = some m ∧ run = (Instr.yield m.c ⟨args'⟩).run P W ∧ VRs σ args args' ∧ A1 = A

theorem sim_value {run : Result Next} {v v' : Value} (h : R P base σ A W) (hr : run = .ok (.value v') W) (hv : VR σ v v') : OpSim P base σ A W run (.value v) A :=
  ⟨σ, W, v', .inl hr, h, Ext.refl _ _ _, hv⟩

theorem eval_sound (h : R P base σ A W) (ht : TR σ t n a.tmps) {x : Operand} {v : Value} (hx : aEval P x t = some v) : VR σ v (a.eval x) := by
  cases x with
  | tmp i =>
    obtain ⟨v', e1, e2⟩ := ht.2 i v hx
    simp [Act.eval, e1]; exact e2
  | const c =>
    simp only [aEval, constV] at hx
    cases hc : closedV c with
    | false => simp [hc] at hx
    | true => simp [hc] at hx; subst hx; exact closed_VR σ c hc
  | global g =>
    simp only [aEval, globV] at hx
    cases hc : Nat.blt g P.globals.size with
    | false => simp [hc] at hx
    | true =>
      simp [hc] at hx; subst hx
      obtain ⟨m, e1, e2, e3⟩ := h.glob g (by simpa [Nat.blt, Nat.succ_le_iff] using hc)
      have := VR.ptr (o := 0) e1
      rw [e2, e3] at this; exact this
  | func f => simp [aEval] at hx; subst hx; exact closed_VR σ _ (by simp [closedV, closedVs])

theorem evals_sound (h : R P base σ A W) (ht : TR σ t n a.tmps) : ∀ {l : List Operand} {vs : List Value}, evals P t l = some vs → VRs σ vs (l.map a.eval)
  | [], vs, e => by simp [evals] at e; subst e; exact .nil
  | x :: l, vs, e => by
    simp only [evals] at e
    cases h1 : aEval P x t with
    | none => simp [h1] at e
    | some v =>
      simp only [h1] at e
      cases h2 : evals P t l with
      | none => simp [h2] at e
      | some vs' => simp [h2] at e; subst e; exact .cons (eval_sound h ht h1) (evals_sound h ht h2)

theorem pureRun_bind {α β : Type} : ∀ (s : Sem α) (f : α → Sem β), pureRun P (s.bind f) = (pureRun P s).bind fun a => pureRun P (f a)
  | .pure a, f => rfl
  | .program k, f => by simp only [Sem.bind, pureRun]; exact pureRun_bind (k P) f
  | .mark m k, f => by simp only [Sem.bind, pureRun]; exact pureRun_bind k f
  | .choose q k, f => by
    simp only [Sem.bind, pureRun]
    split
    · exact pureRun_bind (k 0) f
    · rfl
  | .load .., f => rfl
  | .store .., f => rfl
  | .new .., f => rfl
  | .shape .., f => rfl
  | .freeze .., f => rfl
  | .frozen .., f => rfl
  | .getObj .., f => rfl
  | .setObj .., f => rfl
  | .sys .., f => rfl
  | .halt .., f => rfl
theorem pureRun_bind' {α β : Type} (s : Sem α) (f : α → Sem β) : pureRun P (s >>= f) = (pureRun P s).bind fun a => pureRun P (f a) := pureRun_bind s f
theorem pureRun_pure {α : Type} (x : α) : pureRun P (pure x : Sem α) = some x := rfl
theorem pureRun_program : pureRun P program = some P := rfl
theorem pureRun_halt {α : Type} (h : Halt) : pureRun P (.halt h : Sem α) = none := rfl

/-- A pure operation. -/
theorem allClosed_spec (h : R P base σ A W) (ht : TR σ t n a.tmps) : ∀ {l : List Operand}, allClosed P t l = true → ∀ x ∈ l, (aEval P x t).getD undef = a.eval x
  | [], _, x, hx => by simp at hx
  | y :: l, e, x, hx => by
    simp only [allClosed, Bool.and_eq_true] at e
    rcases List.mem_cons.1 hx with rfl | hx
    · cases h1 : aEval P x t with
      | none => simp [h1] at e
      | some v =>
        simp only [h1] at e
        simp only [Option.getD_some]
        exact ((eval_sound h ht h1).eq_of_closed e.1).symm
    · exact allClosed_spec h ht e.2 x hx
theorem pure_sound {o : Oper} {r : ANext} {A1 : AS} (hs : ∀ cs b, o.op ≠ .select cs b) (h : R P base σ A W) (ht : TR σ t n a.tmps) (e : aPure P o t A = some (r, A1)) :
    OpSim P base σ A W ((execOp a.eval o).run P W) r A1 := by
  unfold aPure at e
  cases hc : allClosed P t o.op.operands.toList with
  | false => simp [hc] at e
  | true =>
    simp only [hc, cond_true] at e
    have heq : execOp (fun x => (aEval P x t).getD undef) o = execOp a.eval o :=
      execOp_congr o hs fun x hx => allClosed_spec h ht hc x (by simpa using hx)
    rw [heq] at e
    split at e <;> try (simp at e; done)
    rename_i v hv
    cases hcv : closedV v with
    | false => simp [hcv] at e
    | true =>
      simp [hcv] at e
      obtain ⟨rfl, rfl⟩ := e
      exact sim_value h (pureRun_run _ _ hv W) (closed_VR σ v hcv)

theorem okA_inv {o : Option Value} {r : ANext} {A1 : AS} (e : okA A o = some (r, A1)) : ∃ v, o = some v ∧ r = .value v ∧ A1 = A := by
  unfold okA at e
  cases o with
  | none => simp at e
  | some v => simp at e; exact ⟨v, rfl, e.1.symm, e.2.symm⟩

theorem move_sound {x : Operand} {r : ANext} {A1 : AS} (h : R P base σ A W) (ht : TR σ t n a.tmps) (e : xMove P x t A = some (r, A1)) :
    OpSim P base σ A W (.ok (.value (a.eval x)) W) r A1 := by
  obtain ⟨v, e1, rfl, rfl⟩ := okA_inv e
  exact sim_value h rfl (eval_sound h ht e1)

theorem pick_sound {c x y : Operand} {r : ANext} {A1 : AS} (h : R P base σ A W) (ht : TR σ t n a.tmps) (e : xPick P c x y t A = some (r, A1)) :
    OpSim P base σ A W ((do pure (.value (if ← asBool (a.eval c) then a.eval x else a.eval y)) : Sem Next).run P W) r A1 := by
  unfold xPick pickV at e
  split at e <;> try (simp at e; done)
  rename_i b hb
  split at e <;> try (simp at e; done)
  rename_i u v hu hv
  simp at e
  obtain ⟨rfl, rfl⟩ := e
  have hb' := eval_sound h ht hb
  have : a.eval c = .bool b := hb'.eq_of_closed rfl
  refine sim_value (v' := if b then a.eval x else a.eval y) h (by simp [this, asBool]) ?_
  cases b
  · simpa using eval_sound h ht hv
  · simpa using eval_sound h ht hu

theorem newC_inv {v : Value} {tr : T Value} {size : Nat} {z : List Value} {u : Nat} {e : TypeId} {fz : Nat × Nat} {r : ANext} {A1 : AS} (h : newC A v tr size z u e fz = some (r, A1)) :
    size ≤ 2 ^ 60 ∧ r = .value v ∧ A1 = A.new (.cells tr size z u e fz) := by
  unfold newC at h
  cases hc : Nat.ble size (2 ^ 60) with
  | false => simp [hc] at h
  | true => simp [hc] at h; exact ⟨Nat.le_of_ble_eq_true hc, h.1.symm, h.2.symm⟩

/-- A new block of cells, whole. -/
theorem R.newCells {tr : T Value} {size : Nat} {z : List Value} {u : Nat} {e : TypeId} {cs : Array Value} {fz : Nat × Nat} (h : R P base σ A W) (h60 : size ≤ 2 ^ 60) (hs : size ≤ cs.size)
    (hc : ∀ i v, i < size → cellF tr z i = some v → ∃ v', cs[i]? = some v' ∧ VR σ v v') :
    ∃ m, m.c = W.heap.size ∧ m.δ = 0 ∧ m.u = u ∧ m.N = cs.size ∧ σ A.nx = none ∧
      R P base (σ.add A.nx m) (A.new (.cells tr size z u e fz)) { W with heap := W.heap.push (.cells cs e) } ∧
      Ext A σ W (A.new (.cells tr size z u e fz)) (σ.add A.nx m) { W with heap := W.heap.push (.cells cs e) } := by
  refine ⟨⟨W.heap.size, 0, cs.size, u⟩, rfl, rfl, rfl, rfl, h.fresh _ (Nat.le_refl _), ?_⟩
  refine h.new (o' := .cells cs e) rfl rfl ⟨cs, (0, 0), rfl, rfl, rfl, by simpa using hs, h60, fun i v hi hv => ?_, fun _ => rfl, fun i _ h2 => by simp at h2, fun _ => rfl, .inr (Nat.le_refl _)⟩
  obtain ⟨v', a, b⟩ := hc i v hi hv
  exact ⟨v', by simpa using a, b⟩

theorem run_newRow (e : TypeId) (cs : Array Value) (W : World) : (newRow e cs).run P W = .ok ⟨W.heap.size, 0, none⟩ { W with heap := W.heap.push (.cells cs e) } := by
  simp [newRow, newObj, Sem.run, Bind.bind, Sem.bind, pure]

theorem VRs.setAll_cell {l l' : List Value} (hl : VRs σ l l') (h60 : l.length ≤ 2 ^ 60) (i : Nat) (v : Value) (hi : i < l.length) (hv : cellF (T.setAll .leaf 0 l) [] i = some v) : ∃ v', l'[i]? = some v' ∧ VR σ v v' := by
  have hat := T.setAll_at l (.leaf : T Value) 0 i (by omega)
  rw [if_pos (by omega)] at hat
  rcases cellF_lt hv with hq | ⟨_, hq⟩
  · rw [hat] at hq; exact hl.get _ _ (by simpa using hq)
  · simp [nth] at hq

theorem alloc_sound {e : TypeId} {r : ANext} {A1 : AS} (h : R P base σ A W) (he : xAlloc P e t A = some (r, A1)) :
    OpSim P base σ A W ((do pure (.value (← Instr.alloc e true (.tuple #[]))) : Sem Next).run P W) r A1 := by
  unfold xAlloc at he
  split at he <;> try (simp at he; done)
  rename_i z hz
  obtain ⟨h60, rfl, rfl⟩ := newC_inv he
  obtain ⟨zv, hr, hcl, hzz⟩ := run_zeroValue e hz W
  have hcc : VRs σ z z := by rw [← hzz]; exact (closed_VR σ zv hcl).cells
  obtain ⟨m, m1, m2, m3, m4, m5, h1, h2⟩ := h.newCells (tr := .leaf) (size := z.length) (z := z) (u := z.length) (e := e) (cs := zv.cells) h60 (by rw [← Array.length_toList, hzz]; exact Nat.le_refl _) (fun i v hi hv => by
    rcases cellF_lt hv with hq | ⟨_, hq⟩
    · simp [T.get_leaf] at hq
    · rw [nth_eq, Nat.mod_eq_of_lt hi] at hq
      obtain ⟨v', q1, q2⟩ := hcc.get i v hq
      exact ⟨v', by rw [← Array.getElem?_toList, hzz]; exact q1, q2⟩)
  refine ⟨_, _, .pointer (some ⟨W.heap.size, 0, none⟩), .inl ?_, h1, h2, ?_⟩
  · simp [Instr.alloc, hr, newVar, run_newRow]
  · have := VR.ptr (o := 0) (Sg.add_at σ A.nx m)
    rw [m1, m2] at this; exact this

theorem box_sound {e : TypeId} {x : Operand} {r : ANext} {A1 : AS} (h : R P base σ A W) (ht : TR σ t n a.tmps) (he : xBox P e x t A = some (r, A1)) :
    OpSim P base σ A W ((do pure (.value (← Instr.box e (a.eval x))) : Sem Next).run P W) r A1 := by
  unfold xBox boxV at he
  split at he <;> try (simp at he; done)
  rename_i v hv
  obtain ⟨h60, rfl, rfl⟩ := newC_inv he
  have hv' := eval_sound h ht hv
  have hl := hv'.cells
  have hlen := hl.length
  simp only [Array.length_toList] at hlen
  obtain ⟨m, m1, m2, m3, m4, m5, h1, h2⟩ := h.newCells (tr := T.setAll .leaf 0 v.cells.toList) (size := v.cells.size) (z := []) (u := v.cells.size) (e := e) (cs := (a.eval x).cells) h60 (by omega) (fun i u hi hu => by
    obtain ⟨v', q1, q2⟩ := hl.setAll_cell (by simpa using h60) i u (by simpa using hi) hu
    exact ⟨v', by simpa using q1, q2⟩)
  refine ⟨_, _, .pointer (some ⟨W.heap.size, 0, none⟩), .inl ?_, h1, h2, ?_⟩
  · simp [Instr.box, newVar, run_newRow]
  · have := VR.ptr (o := 0) (Sg.add_at σ A.nx m)
    rw [m1, m2] at this; exact this

theorem xload_sound {ty : TypeId} {x : Operand} {r : ANext} {A1 : AS} (h : R P base σ A W) (ht : TR σ t n a.tmps) (he : xLoad P ty x t A = some (r, A1)) :
    OpSim P base σ A W ((do pure (.value (← Instr.loadAt ty (a.eval x))) : Sem Next).run P W) r A1 := by
  unfold xLoad loadV at he
  split at he <;> try (simp at he; done)
  rename_i v hv
  obtain ⟨u, e1, rfl, rfl⟩ := okA_inv he
  obtain ⟨u', e2, e3⟩ := load_sound h (eval_sound h ht hv) e1
  exact sim_value h (by simp [e2]) e3

theorem xstore_sound {ty : TypeId} {x y : Operand} {r : ANext} {A1 : AS} (h : R P base σ A W) (ht : TR σ t n a.tmps) (he : xStore P ty x y t A = some (r, A1)) :
    OpSim P base σ A W ((do Instr.storeAt ty (a.eval x) (a.eval y); pure .skip : Sem Next).run P W) r A1 := by
  unfold xStore storeV at he
  split at he <;> try (simp at he; done)
  rename_i v w hv hw
  split at he <;> try (simp at he; done)
  rename_i A' hA
  simp at he
  obtain ⟨rfl, rfl⟩ := he
  obtain ⟨W1, e1, e2, e3⟩ := store_sound h (eval_sound h ht hv) (eval_sound h ht hw) hA
  exact ⟨σ, W1, undef, .inr ⟨by simp [e1], rfl⟩, e2, e3, closed_VR σ _ (by simp [undef, closedV, closedVs])⟩

theorem shiftA_eq (b o k : Nat) : shiftA ⟨b, o, none⟩ k = ⟨b, o + k, none⟩ := by cases k <;> rfl
theorem add_eq (b o k : Nat) : (⟨b, o, none⟩ : Addr).add k = ⟨b, o + k, none⟩ := by
  unfold Addr.add
  by_cases h : k = 0 <;> simp [h]

theorem field_sound {s : TypeId} {x : Operand} {f : Nat} {r : ANext} {A1 : AS} (h : R P base σ A W) (ht : TR σ t n a.tmps) (he : xField P s x f t A = some (r, A1)) :
    OpSim P base σ A W ((do pure (.value (← Instr.fieldAt s (a.eval x) f)) : Sem Next).run P W) r A1 := by
  unfold xField fieldV at he
  split at he <;> try (simp at he; done)
  rename_i v hv
  obtain ⟨u, e1, rfl, rfl⟩ := okA_inv he
  have hv' := eval_sound h ht hv
  unfold aFieldAddr at e1
  split at e1 <;> try (simp at e1; done)
  rename_i fields b off hu
  split at e1 <;> try (simp at e1; done)
  rename_i fl hfl
  split at e1 <;> try (simp at e1; done)
  rename_i k hk
  simp at e1; subst e1
  generalize a.eval x = w at hv'
  cases hv' with
  | atom q => simp [atomV] at q
  | @ptr _ _ m hb =>
  refine sim_value (v' := .pointer (some ⟨m.c, off + fl.offset + m.δ, none⟩)) h ?_ ?_
  · simp [Instr.fieldAt, run_underlying s hu, hfl, Instr.sureAddr, fieldPlace, run_sizeOf _ hk, add_eq]
    omega
  · rw [shiftA_eq]; exact .ptr hb

theorem intOf_inv {v : Value} {i : Int} (h : intOf v = some i) : ∃ k, v = .int k i := by
  cases v <;> simp [intOf] at h
  subst h; exact ⟨_, rfl⟩

theorem index_sound {ty : TypeId} {x ix : Operand} {r : ANext} {A1 : AS} (h : R P base σ A W) (ht : TR σ t n a.tmps) (he : xIndexAddr P ty x ix t A = some (r, A1)) :
    OpSim P base σ A W ((do pure (.value (← Instr.indexAt ty (a.eval x) (a.eval ix))) : Sem Next).run P W) r A1 := by
  unfold xIndexAddr indexV at he
  split at he <;> try (simp at he; done)
  rename_i v iv hv hiv
  obtain ⟨u, e1, rfl, rfl⟩ := okA_inv he
  have hv' := eval_sound h ht hv
  have hi' := eval_sound h ht hiv
  unfold aIndexAddr at e1
  split at e1 <;> try (simp at e1; done)
  · rename_i i len elem b off hio hu
    obtain ⟨k, rfl⟩ := intOf_inv hio
    have hie : a.eval ix = .int k (.ofNat i) := hi'.eq_of_closed rfl
    cases hlt : Nat.blt i len with
    | false => simp [hlt] at e1
    | true =>
      simp only [hlt, cond_true] at e1
      split at e1 <;> try (simp at e1; done)
      rename_i sz hsz
      simp at e1; subst e1
      have hlt' : i < len := by simpa [Nat.blt, Nat.succ_le_iff] using hlt
      generalize a.eval x = w at hv'
      cases hv' with
      | atom q => simp [atomV] at q
      | @ptr _ _ m hb =>
      refine sim_value (v' := .pointer (some ⟨m.c, off + i * sz + m.δ, none⟩)) h ?_ ?_
      · have h0 : (0 : Int) ≤ Int.ofNat i ∧ Int.ofNat i < (len : Int) := ⟨Int.natCast_nonneg i, by simpa using hlt'⟩
        simp [Instr.indexAt, asIntOf, hie, run_underlying ty hu, Instr.sureAddr, run_sizeOf _ hsz, add_eq, hlt']
        omega
      · rw [shiftA_eq]; exact .ptr hb
  · rename_i i elem b off len cap hio hu
    obtain ⟨k, rfl⟩ := intOf_inv hio
    have hie : a.eval ix = .int k (.ofNat i) := hi'.eq_of_closed rfl
    cases hlt : Nat.blt i len with
    | false => simp [hlt] at e1
    | true =>
      simp only [hlt, cond_true] at e1
      split at e1 <;> try (simp at e1; done)
      rename_i sz hsz
      simp at e1; subst e1
      have hlt' : i < len := by simpa [Nat.blt, Nat.succ_le_iff] using hlt
      generalize a.eval x = w at hv'
      cases hv' with
      | atom q => simp [atomV] at q
      | @slice _ _ o' _ _ cap' m hb c1 c2 c3 c4 =>
      have hoff : o' = off + m.δ := by rcases c4 with c4 | ⟨c4, _⟩ <;> omega
      subst hoff
      refine sim_value (v' := .pointer (some ⟨m.c, off + i * sz + m.δ, none⟩)) h ?_ ?_
      · simp [Instr.indexAt, asIntOf, hie, run_underlying ty hu, Instr.sureAddr, run_sizeOf _ hsz, add_eq, hlt']
        omega
      · rw [shiftA_eq]; exact .ptr hb

theorem nil_sound {x : Operand} {r : ANext} {A1 : AS} {o : Oper} (ho : o.op = .nilCheck x) (h : R P base σ A W) (ht : TR σ t n a.tmps) (he : xNil P x t A = some (r, A1)) :
    OpSim P base σ A W ((execOp a.eval o).run P W) r A1 := by
  unfold xNil nilV at he
  split at he <;> try (simp at he; done)
  · rename_i ad hv
    simp at he; obtain ⟨rfl, rfl⟩ := he
    have hv' := eval_sound h ht hv
    have : ∃ ad', a.eval x = .pointer (some ad') := by
      generalize a.eval x = w at hv'
      cases hv' with
      | atom q => simp [atomV] at q
      | ptr hb => exact ⟨_, rfl⟩
    obtain ⟨ad', hw⟩ := this
    exact sim_value (v' := a.eval x) h (by simp [execOp, ho, hw]) hv'
  · rename_i f u w hv
    simp at he; obtain ⟨rfl, rfl⟩ := he
    have hv' := eval_sound h ht hv
    have : ∃ u' w', a.eval x = .func (.func f) u' w' := by
      generalize a.eval x = q at hv'
      cases hv' with
      | atom q => simp [atomV] at q
      | func n b c => exact ⟨_, _, rfl⟩
    obtain ⟨u', w', hw⟩ := this
    exact sim_value (v' := a.eval x) h (by simp [execOp, ho, hw]) hv'
  · rename_i ty v hv
    simp at he; obtain ⟨rfl, rfl⟩ := he
    have hv' := eval_sound h ht hv
    have : ∃ v', a.eval x = .iface ty v' := by
      generalize a.eval x = q at hv'
      cases hv' with
      | atom q => simp [atomV] at q
      | iface b => exact ⟨_, rfl⟩
    obtain ⟨v', hw⟩ := this
    exact sim_value (v' := a.eval x) h (by simp [execOp, ho, hw]) hv'

theorem extract_sound {x : Operand} {i : Nat} {r : ANext} {A1 : AS} (h : R P base σ A W) (ht : TR σ t n a.tmps) (he : xExtract P x i t A = some (r, A1)) :
    OpSim P base σ A W ((do pure (.value (← Instr.extract (a.eval x) i)) : Sem Next).run P W) r A1 := by
  unfold xExtract extractV at he
  split at he <;> try (simp at he; done)
  rename_i l hv
  obtain ⟨u, e1, rfl, rfl⟩ := okA_inv he
  have hv' := eval_sound h ht hv
  generalize a.eval x = w at hv'
  cases hv' with
  | atom q => simp [atomV] at q
  | @tuple _ l' hl =>
  rw [nth_eq] at e1
  obtain ⟨u', q1, q2⟩ := hl.get i u e1
  exact sim_value h (by simp [Instr.extract, q1]) q2

theorem iface_sound {ty : TypeId} {x : Operand} {r : ANext} {A1 : AS} (h : R P base σ A W) (ht : TR σ t n a.tmps) (he : xMakeIface P ty x t A = some (r, A1)) :
    OpSim P base σ A W ((do pure (.value (← Instr.makeInterface ty (a.eval x))) : Sem Next).run P W) r A1 := by
  unfold xMakeIface at he
  split at he <;> try (simp at he; done)
  rename_i v d hno hv hu
  simp at he; obtain ⟨rfl, rfl⟩ := he
  refine sim_value (v' := .iface ty (a.eval x)) h ?_ (.iface (eval_sound h ht hv))
  simp only [Instr.makeInterface, Sem.run_bind, run_underlying ty hu, Result.andThen_ok]
  cases d <;> first | rfl | (exfalso; exact hno _ _ rfl rfl) | (exfalso; exact hno _ rfl rfl) | (exfalso; exact hno rfl)

theorem makeFunc_sound {fn : Fn} {first captured : Array Operand} {r : ANext} {A1 : AS} (h : R P base σ A W) (ht : TR σ t n a.tmps) (he : xMakeFunc P fn first captured t A = some (r, A1)) :
    OpSim P base σ A W ((do pure (.value (← Instr.makeFunc fn (first.map a.eval) (captured.map a.eval))) : Sem Next).run P W) r A1 := by
  unfold xMakeFunc at he
  split at he <;> try (simp at he; done)
  rename_i gn x1 x2 x3 u v hno hu hv
  simp at he; obtain ⟨rfl, rfl⟩ := he
  refine sim_value (v' := .func gn ⟨first.toList.map a.eval⟩ ⟨captured.toList.map a.eval⟩) h ?_ (.func (fun l e => hno l e) (evals_sound h ht hu) (evals_sound h ht hv))
  have e1 : first.map a.eval = ⟨first.toList.map a.eval⟩ := by apply Array.toList_inj.1; simp
  have e2 : captured.map a.eval = ⟨captured.toList.map a.eval⟩ := by apply Array.toList_inj.1; simp
  simp [Instr.makeFunc, e1, e2]

theorem makeMap_sound {ty : TypeId} {r : ANext} {A1 : AS} (h : R P base σ A W) (he : xMakeMap t A = some (r, A1)) :
    OpSim P base σ A W ((do pure (.value (← Instr.makeMap ty none)) : Sem Next).run P W) r A1 := by
  unfold xMakeMap at he
  simp at he; obtain ⟨rfl, rfl⟩ := he
  obtain ⟨h1, h2⟩ := h.new (o := .map [] 0) (o' := .map #[] 0) (m := ⟨W.heap.size, 0, 0, 0⟩) (W1 := { W with heap := W.heap.push (.map #[] 0) }) rfl rfl ⟨#[], rfl, .nil⟩
  refine ⟨_, _, .map (some W.heap.size), .inl ?_, h1, h2, ?_⟩
  · simp [Instr.makeMap, newObj, Sem.run]
  · exact .map (Sg.add_at σ A.nx _)

theorem not_sound {o : Oper} {op : UnOp} {ty : TypeId} {x : Operand} {r : ANext} {A1 : AS} (ho : o.op = .unOp op ty x) (h : R P base σ A W) (ht : TR σ t n a.tmps) (he : xUn P o op x t A = some (r, A1)) :
    OpSim P base σ A W ((execOp a.eval o).run P W) r A1 := by
  unfold xUn at he
  split at he
  · unfold notV at he
    split at he <;> try (simp at he; done)
    rename_i b hb
    simp at he; obtain ⟨rfl, rfl⟩ := he
    have : a.eval x = .bool b := (eval_sound h ht hb).eq_of_closed rfl
    exact sim_value (v' := .bool (!b)) h (by simp [execOp, ho, this, Op.unary]) (.atom rfl)
  · exact pure_sound (by rw [ho]; simp) h ht he

end Go.Eng
