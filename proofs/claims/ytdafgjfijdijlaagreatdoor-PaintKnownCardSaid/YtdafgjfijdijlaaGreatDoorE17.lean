/- Part of an abstract machine that runs the program's code in Lean's kernel, and of the proof that what it answers every run of the model answers (Go.Eng; program-independent). No condition. -/
import Derived.Test.YtdafgjfijdijlaaGreatDoorE16
namespace Go.Eng
open Go

variable {P : Program} {base : Nat} {σ : Sg} {A : AS} {W : World}

theorem runOps_nil (ih : Task → Out) (ops : Array Oper) (n : Nat) (t : T Value) (A : AS) : runOps P ih ops n [] t A = some (t, A) := rfl
theorem runOps_cons (ih : Task → Out) (ops : Array Oper) (n : Nat) (o : Oper) (l : List Oper) (t : T Value) (A : AS) : runOps P ih ops n (o :: l) t A = opThen P ih n o (runOps P ih ops n l) t A (wantedA ops o t) := rfl

theorem runOps_sound {ih : Task → Out} (hC : CallOK P base ih) (hY : YieldOK P base ih) {ops : Array Oper} {n : Nat} : ∀ (l : List Oper) (j : Nat), (∀ i, l[i]? = ops[j + i]?) →
    ∀ {t t1 : T Value} {A A1 : AS}, runOps P ih ops n l t A = some (t1, A1) → ∀ {σ : Sg} {W : World} {tm : Array Value}, R P base σ A W → TR σ t n tm →
    ∀ (b : Frame) (ds : List Deferred) (k : List Item) (cs : List Frame), ∃ σ1 W1 tm1, R P base σ1 A1 W1 ∧ Ext A σ W A1 σ1 W1 ∧ TR σ1 t1 n tm1 ∧
      Steps P (lone (atR b tm ds (.inRegion ops (List.range' j l.length) :: k)) cs W) (lone (atR b tm1 ds (.inRegion ops [] :: k)) cs W1)
  | [], j, _, t, t1, A, A1, e, σ, W, tm, h, ht, b, ds, k, cs => by
    rw [runOps_nil] at e
    simp at e; obtain ⟨rfl, rfl⟩ := e
    exact ⟨σ, W, tm, h, Ext.refl _ _ _, ht, Steps.refl _ _⟩
  | o :: l, j, hl, t, t1, A, A1, e, σ, W, tm, h, ht, b, ds, k, cs => by
    rw [runOps_cons] at e
    have ho : ops[j]? = some o := by simpa using (hl 0).symm
    have hl' : ∀ i, l[i]? = ops[j + 1 + i]? := fun i => by have := hl (i + 1); simpa [Nat.add_assoc, Nat.add_comm 1 i] using this
    simp only [List.length_cons, List.range'_succ]
    cases hw : wantedA ops o t with
    | none => rw [hw] at e; simp [opThen] at e
    | some w =>
      rw [hw] at e
      have hwt := wanted_sound ht hw
      cases w with
      | true =>
        simp only [opThen] at e
        cases hv : opVal P ih o t A with
        | none => rw [hv] at e; simp [valThen] at e
        | some q =>
          obtain ⟨v, A2⟩ := q
          rw [hv] at e
          simp only [valThen] at e
          obtain ⟨σ1, W1, v', h1, h2, h3, h4⟩ := op_step hC hY hv h ht (b := b) (ds := ds) (k := k) (cs := cs) (ops := ops) (i := j) (rest := List.range' (j + 1) l.length) ho hwt
          cases hp : putT t n o.dst v with
          | none => rw [hp] at e; simp [putThen] at e
          | some t2 =>
            rw [hp] at e
            simp only [putThen] at e
            obtain ⟨σ2, W2, tm2, k1, k2, k3, k4⟩ := runOps_sound hC hY l (j + 1) hl' e h1 (putT_sound (ht.mono h2.le) h3 hp) b ds k cs
            exact ⟨σ2, W2, tm2, k1, h2.trans k2, k3, h4.trans k4⟩
      | false =>
        simp only [opThen] at e
        cases hp : putT t n o.dst undef with
        | none => rw [hp] at e; simp [putThen] at e
        | some t2 =>
          rw [hp] at e
          simp only [putThen] at e
          have hst := st_op_skip (P := P) (W := W) (b := b) (tm := tm) (ds := ds) (k := k) (cs := cs) (ops := ops) (i := j) (rest := List.range' (j + 1) l.length) (by rw [ho]; simpa using hwt)
          rw [ho] at hst
          obtain ⟨σ2, W2, tm2, k1, k2, k3, k4⟩ := runOps_sound hC hY l (j + 1) hl' e h (putT_sound ht (closed_VR σ undef (by simp [undef, closedV, closedVs])) hp) b ds k cs
          exact ⟨σ2, W2, tm2, k1, k2, k3, .head hst k4⟩

/-- Of regions whose order is drawn. -/
def DrawOK (P : Program) (base : Nat) (ih : Task → Out) : Prop := ∀ ops n t A t1 A1, runDraw P ih ops n t A = some (t1, A1) → ∀ σ W tm, R P base σ A W → TR σ t n tm →
  ∀ (id : Nat) (b : Frame) (ds : List Deferred) (k : List Item) (cs : List Frame), ∃ σ1 W1 tm1, R P base σ1 A1 W1 ∧ Ext A σ W A1 σ1 W1 ∧ TR σ1 t1 n tm1 ∧
    Steps P (lone (atR b tm ds (.code (.region id ops true) :: k)) cs W) (lone (atR b tm1 ds k) cs W1)

theorem reg_ok {ih : Task → Out} (hC : CallOK P base ih) (hY : YieldOK P base ih) (hD : DrawOK P base ih) {ops : Array Oper} {draw : Bool} {F : Fm} {t1 : T Value} {A1 : AS} (e : runReg P ops draw ih F A = some (t1, A1)) {tm : Array Value}
    (h : R P base σ A W) (ht : TR σ F.t F.n tm) (id : Nat) (b : Frame) (ds : List Deferred) (k : List Item) (cs : List Frame) : ∃ σ1 W1 tm1, R P base σ1 A1 W1 ∧ Ext A σ W A1 σ1 W1 ∧ TR σ1 t1 F.n tm1 ∧
      Steps P (lone (atR b tm ds (.code (.region id ops draw) :: k)) cs W) (lone (atR b tm1 ds k) cs W1) := by
  cases draw with
  | true => exact hD _ _ _ _ _ _ e σ W tm h ht id b ds k cs
  | false =>
    obtain ⟨σ1, W1, tm1, h1, h2, h3, h4⟩ := runOps_sound hC hY ops.toList 0 (fun i => by simp) e h ht b ds k cs
    refine ⟨σ1, W1, tm1, h1, h2, h3, .head st_region ?_⟩
    have : List.range' 0 ops.toList.length = List.range ops.size := by rw [List.range_eq_range']; simp
    rw [this] at h4
    exact h4.trans (.one st_region_end)

/-- A machine that stands elsewhere than where it set out has made a step. -/
theorem steps_tail {m1 m2 m' : Machine} (hs : Go.step P m1 = Go.step P m2) (h : Steps P m2 m') (hne : m' ≠ m2) : Steps P m1 m' := by
  obtain ⟨n, hn⟩ := h
  cases n with
  | zero => simp [runN] at hn; exact absurd hn.symm hne
  | succ n => exact ⟨n + 1, by simp only [runN] at hn ⊢; rw [hs]; exact hn⟩
theorem lone_inj {f1 f2 : Frame} {c1 c2 : List Frame} {w1 w2 : World} (h : lone f1 c1 w1 = lone f2 c2 w2) : f1 = f2 := by
  simp only [lone, Machine.mk.injEq] at h
  have h2 : f1 = f2 ∧ c1 = c2 := by simpa using h.2.1
  exact h2.1

theorem code_ok {kn : Kn} {ih : Task → Out} (hK : CodeOK P base ih) (hC : CallOK P base ih) (hY : YieldOK P base ih) (hD : DrawOK P base ih)
    (hR : ∀ f params assign body F A e F1 A1, cRange P f params assign body ih F A = .code e F1 A1 → ∀ σ W tm ds, R P base σ A W → TR σ F.t F.n tm → DR σ F.ds ds →
      ∀ b k cs, RD σ F.rd b.roundOf → ∃ σ1 W1 tm1 ds1, R P base σ1 A1 W1 ∧ Ext A σ W A1 σ1 W1 ∧ TR σ1 F1.t F1.n tm1 ∧ F1.rd = F.rd ∧ DR σ1 F1.ds ds1 ∧ Arr P (lone (atR b tm ds (.code (.rangeFunc f params assign body) :: k)) cs W) b k cs e tm1 ds1 W1) :
    CodeOK P base (step P kn ih) := by
  intro c F A e F1 A1 he σ W tm ds h ht hd b k cs hr
  replace he : codeStep P c ih F A = .code e F1 A1 := he
  have seqLike : ∀ (a b' : Code), seqThen ih b' (ih (.code a F A)) = .code e F1 A1 → (∀ W, Go.step P (lone (atR b tm ds (.code c :: k)) cs W) = .next (lone (atR b tm ds (.code a :: .code b' :: k)) cs W)) →
      ∃ σ1 W1 tm1 ds1, R P base σ1 A1 W1 ∧ Ext A σ W A1 σ1 W1 ∧ TR σ1 F1.t F1.n tm1 ∧ F1.rd = F.rd ∧ DR σ1 F1.ds ds1 ∧ Arr P (lone (atR b tm ds (.code c :: k)) cs W) b k cs e tm1 ds1 W1 := by
    intro a b' he hst
    cases hq : ih (.code a F A) with
    | val v A2 => rw [hq] at he; simp [seqThen] at he
    | none => rw [hq] at he; simp [seqThen] at he
    | code e2 F2 A2 =>
      rw [hq] at he
      obtain ⟨σ1, W1, tm1, ds1, h1, h2, h3, h4, h5, h6⟩ := hK _ _ _ _ _ _ hq σ W tm ds h ht hd b (.code b' :: k) cs hr
      cases e2 with
      | normal =>
        simp only [seqThen] at he
        obtain ⟨σ2, W2, tm2, ds2, k1, k2, k3, k4, k5, k6⟩ := hK _ _ _ _ _ _ he σ1 W1 tm1 ds1 h1 h3 h5 b k cs (by rw [h4]; exact hr.mono h2.le)
        exact ⟨σ2, W2, tm2, ds2, k1, h2.trans k2, k3, by rw [k4, h4], k5, .of_steps ((Steps.one (hst W)).trans h6) k6⟩
      | exit id =>
        simp [seqThen] at he
        obtain ⟨rfl, rfl, rfl⟩ := he
        obtain ⟨k', q1, q2⟩ := h6
        exact ⟨σ1, W1, tm1, ds1, h1, h2, h3, h4, h5, k', (Steps.one (hst W)).trans q1, q2⟩
      | ret =>
        simp [seqThen] at he
        obtain ⟨rfl, rfl, rfl⟩ := he
        obtain ⟨k', q1⟩ := h6
        exact ⟨σ1, W1, tm1, ds1, h1, h2, h3, h4, h5, k', (Steps.one (hst W)).trans q1⟩
  cases c with
  | skip =>
    simp [codeStep] at he; obtain ⟨rfl, rfl, rfl⟩ := he
    exact ⟨σ, W, tm, ds, h, Ext.refl _ _ _, ht, rfl, hd, .one st_skip⟩
  | label l =>
    simp [codeStep] at he; obtain ⟨rfl, rfl, rfl⟩ := he
    exact ⟨σ, W, tm, ds, h, Ext.refl _ _ _, ht, rfl, hd, .one st_label⟩
  | region id ops draw =>
    simp only [codeStep] at he
    cases hq : runReg P ops draw ih F A with
    | none => rw [hq] at he; simp [regDone] at he
    | some q =>
      obtain ⟨t2, A2⟩ := q
      rw [hq] at he
      simp [regDone] at he; obtain ⟨rfl, rfl, rfl⟩ := he
      obtain ⟨σ1, W1, tm1, h1, h2, h3, h4⟩ := reg_ok hC hY hD hq h ht id b ds k cs
      exact ⟨σ1, W1, tm1, ds, h1, h2, h3, rfl, hd.mono h2.le, h4⟩
  | seq a b' =>
    simp only [codeStep] at he
    unfold cSeq at he
    cases a with
    | region id ops draw =>
      simp only at he
      cases hq : runReg P ops draw ih F A with
      | none => rw [hq] at he; simp [regThen] at he
      | some q =>
        obtain ⟨t2, A2⟩ := q
        rw [hq] at he
        simp only [regThen] at he
        obtain ⟨σ1, W1, tm1, h1, h2, h3, h4⟩ := reg_ok hC hY hD hq h ht id b ds (.code b' :: k) cs
        obtain ⟨σ2, W2, tm2, ds2, k1, k2, k3, k4, k5, k6⟩ := hK _ _ _ _ _ _ he σ1 W1 tm1 ds h1 h3 (hd.mono h2.le) b k cs (hr.mono h2.le)
        exact ⟨σ2, W2, tm2, ds2, k1, h2.trans k2, k3, k4, k5, .of_steps (.head st_seq h4) k6⟩
    | _ => exact seqLike _ _ he (fun W => st_seq)
  | cond cc a b' =>
    simp only [codeStep] at he
    cases hv : aEval P cc F.t with
    | none => rw [hv] at he; simp [condThen] at he
    | some v =>
      rw [hv] at he
      have hev := eval_sound (a := ⟨tm, ds⟩) h ht hv
      cases v with
      | bool x =>
        have hx : Act.eval ⟨tm, ds⟩ cc = .bool x := hev.eq_of_closed rfl
        have hst := st_cond (P := P) (W := W) (b := b) (tm := tm) (ds := ds) (k := k) (cs := cs) (c := cc) (x := a) (y := b') (t := x) (by rw [eval_atR]; exact hx)
        cases x with
        | true =>
          simp only [condThen] at he
          obtain ⟨σ1, W1, tm1, ds1, h1, h2, h3, h4, h5, h6⟩ := hK _ _ _ _ _ _ he σ W tm ds h ht hd b k cs hr
          exact ⟨σ1, W1, tm1, ds1, h1, h2, h3, h4, h5, .of_steps (.one hst) h6⟩
        | false =>
          simp only [condThen] at he
          obtain ⟨σ1, W1, tm1, ds1, h1, h2, h3, h4, h5, h6⟩ := hK _ _ _ _ _ _ he σ W tm ds h ht hd b k cs hr
          exact ⟨σ1, W1, tm1, ds1, h1, h2, h3, h4, h5, .of_steps (.one hst) h6⟩
      | _ => simp [condThen] at he
  | block id bo =>
    simp only [codeStep] at he
    cases hq : ih (.code bo F A) with
    | val v A2 => rw [hq] at he; simp [blockThen] at he
    | none => rw [hq] at he; simp [blockThen] at he
    | code e2 F2 A2 =>
      rw [hq] at he
      obtain ⟨σ1, W1, tm1, ds1, h1, h2, h3, h4, h5, h6⟩ := hK _ _ _ _ _ _ hq σ W tm ds h ht hd b (.inBlock id :: k) cs hr
      cases e2 with
      | normal =>
        simp [blockThen] at he; obtain ⟨rfl, rfl, rfl⟩ := he
        exact ⟨σ1, W1, tm1, ds1, h1, h2, h3, h4, h5, (Steps.head st_block h6).trans (.one st_inBlock)⟩
      | ret =>
        simp [blockThen] at he; obtain ⟨rfl, rfl, rfl⟩ := he
        obtain ⟨k', q1⟩ := h6
        exact ⟨σ1, W1, tm1, ds1, h1, h2, h3, h4, h5, k', .head st_block q1⟩
      | exit j =>
        simp only [blockThen] at he
        obtain ⟨k', q1, q2⟩ := h6
        cases hj : Nat.beq j id with
        | true =>
          rw [hj] at he
          simp at he; obtain ⟨rfl, rfl, rfl⟩ := he
          have hj := Nat.eq_of_beq_eq_true hj
          subst hj
          exact ⟨σ1, W1, tm1, ds1, h1, h2, h3, h4, h5, (Steps.head st_block q1).trans (.one (st_exit (by rw [q2]; simp [exitTo])))⟩
        | false =>
          rw [hj] at he
          simp at he; obtain ⟨rfl, rfl, rfl⟩ := he
          refine ⟨σ1, W1, tm1, ds1, h1, h2, h3, h4, h5, k', .head st_block q1, ?_⟩
          rw [q2]
          have : (id == j) = false := by
            cases hb : (id == j) with
            | false => rfl
            | true => rw [beq_iff_eq] at hb; subst hb; simp at hj
          simp [exitTo, this]
  | loop bo =>
    simp only [codeStep] at he
    cases hq : ih (.code bo F A) with
    | val v A2 => rw [hq] at he; simp [seqThen] at he
    | none => rw [hq] at he; simp [seqThen] at he
    | code e2 F2 A2 =>
      rw [hq] at he
      obtain ⟨σ1, W1, tm1, ds1, h1, h2, h3, h4, h5, h6⟩ := hK _ _ _ _ _ _ hq σ W tm ds h ht hd b (.inLoop bo :: k) cs hr
      cases e2 with
      | normal =>
        simp only [seqThen] at he
        obtain ⟨σ2, W2, tm2, ds2, k1, k2, k3, k4, k5, k6⟩ := hK _ _ _ _ _ _ he σ1 W1 tm1 ds1 h1 h3 h5 b k cs (by rw [h4]; exact hr.mono h2.le)
        have hto : Go.step P (lone (atR b tm1 ds1 (.inLoop bo :: k)) cs W1) = Go.step P (lone (atR b tm1 ds1 (.code (.loop bo) :: k)) cs W1) := by rw [st_inLoop, st_loop]
        have hlen : ∀ (tm : Array Value) (ds : List Deferred) (td : List Item) (W : World), (∀ x, td ≠ .code (.loop x) :: k) → lone (atR b tm ds td) cs W ≠ lone (atR b tm1 ds1 (.code (.loop bo) :: k)) cs W1 := by
          intro tm ds td W hne heq
          have := congrArg Frame.todo (lone_inj heq)
          exact hne bo this
        refine ⟨σ2, W2, tm2, ds2, k1, h2.trans k2, k3, by rw [k4, h4], k5, .of_steps (Steps.head st_loop h6) ?_⟩
        cases e with
        | normal => exact steps_tail hto k6 (hlen _ _ _ _ fun x hx => by have := congrArg List.length hx; simp at this)
        | exit id => obtain ⟨k', q1, q2⟩ := k6; exact ⟨k', steps_tail hto q1 (hlen _ _ _ _ fun x hx => by simp at hx), q2⟩
        | ret => obtain ⟨k', q1⟩ := k6; exact ⟨k', steps_tail hto q1 (hlen _ _ _ _ fun x hx => by simp at hx)⟩
      | exit id =>
        simp [seqThen] at he; obtain ⟨rfl, rfl, rfl⟩ := he
        obtain ⟨k', q1, q2⟩ := h6
        exact ⟨σ1, W1, tm1, ds1, h1, h2, h3, h4, h5, k', .head st_loop q1, q2⟩
      | ret =>
        simp [seqThen] at he; obtain ⟨rfl, rfl, rfl⟩ := he
        obtain ⟨k', q1⟩ := h6
        exact ⟨σ1, W1, tm1, ds1, h1, h2, h3, h4, h5, k', .head st_loop q1⟩
  | scope bo =>
    simp only [codeStep] at he
    obtain ⟨σ1, W1, tm1, ds1, h1, h2, h3, h4, h5, h6⟩ := hK _ _ _ _ _ _ he σ W tm ds h ht hd b (.inScope bo :: k) cs hr
    refine ⟨σ1, W1, tm1, ds1, h1, h2, h3, h4, h5, ?_⟩
    cases e with
    | normal => exact (Steps.head st_scope h6).trans (.one st_inScope)
    | exit id => obtain ⟨k', q1, q2⟩ := h6; exact ⟨k', .head st_scope q1, q2⟩
    | ret => obtain ⟨k', q1⟩ := h6; exact ⟨k', .head st_scope q1⟩
  | exit id =>
    simp [codeStep] at he; obtain ⟨rfl, rfl, rfl⟩ := he
    exact ⟨σ, W, tm, ds, h, Ext.refl _ _ _, ht, rfl, hd, k, Steps.refl _ _, rfl⟩
  | ret =>
    simp [codeStep] at he; obtain ⟨rfl, rfl, rfl⟩ := he
    exact ⟨σ, W, tm, ds, h, Ext.refl _ _ _, ht, rfl, hd, k, Steps.refl _ _⟩
  | rangeFunc f params assign body => exact hR _ _ _ _ _ _ _ _ _ he σ W tm ds h ht hd b k cs hr
  | goto l => simp [codeStep] at he
  | refuse w => simp [codeStep] at he

end Go.Eng
