/- Part of an abstract machine that runs the program's code in Lean's kernel, and of the proof that what it answers every run of the model answers (Go.Eng; program-independent). No condition. -/
import Derived.Test.YtdafgjfijdijlaaGreatDoorE15
import Derived.Control
namespace Go.Eng
open Go

variable {P : Program} {base : Nat} {σ : Sg} {A : AS} {W : World}

/-! The machine's steps, in any frame (a round's too). -/
def atR (b : Frame) (tm : Array Value) (ds : List Deferred) (todo : List Item) : Frame := { b with tmps := tm, defers := ds, todo := todo, mode := .run }
abbrev gor (fr : Frame) (cs : List Frame) : Goroutine := { frame := fr, callers := cs, status := .running, dying := none }

section steps
variable {b : Frame} {tm : Array Value} {ds : List Deferred} {k : List Item} {cs : List Frame}
theorem st_skip : Go.step P (lone (atR b tm ds (.code .skip :: k)) cs W) = .next (lone (atR b tm ds k) cs W) := step_lone_go (by simp [stepG, stepG.exec, atR])
theorem st_label {l : Nat} : Go.step P (lone (atR b tm ds (.code (.label l) :: k)) cs W) = .next (lone (atR b tm ds k) cs W) := step_lone_go (by simp [stepG, stepG.exec, atR])
theorem st_inBlock {id : Nat} : Go.step P (lone (atR b tm ds (.inBlock id :: k)) cs W) = .next (lone (atR b tm ds k) cs W) := step_lone_go (by simp [stepG, stepG.exec, atR])
theorem st_inScope {c : Code} : Go.step P (lone (atR b tm ds (.inScope c :: k)) cs W) = .next (lone (atR b tm ds k) cs W) := step_lone_go (by simp [stepG, stepG.exec, atR])
theorem st_seq {x y : Code} : Go.step P (lone (atR b tm ds (.code (.seq x y) :: k)) cs W) = .next (lone (atR b tm ds (.code x :: .code y :: k)) cs W) := step_lone_go (by simp [stepG, stepG.exec, atR])
theorem st_cond {c : Operand} {x y : Code} {t : Bool} (h : Frame.eval (atR b tm ds (.code (.cond c x y) :: k)) c = .bool t) :
    Go.step P (lone (atR b tm ds (.code (.cond c x y) :: k)) cs W) = .next (lone (atR b tm ds (.code (if t then x else y) :: k)) cs W) := step_lone_go (by
  simp only [atR] at h; simp [stepG, stepG.exec, atR, h])
theorem st_block {id : Nat} {c : Code} : Go.step P (lone (atR b tm ds (.code (.block id c) :: k)) cs W) = .next (lone (atR b tm ds (.code c :: .inBlock id :: k)) cs W) := step_lone_go (by simp [stepG, stepG.exec, atR])
theorem st_loop {c : Code} : Go.step P (lone (atR b tm ds (.code (.loop c) :: k)) cs W) = .next (lone (atR b tm ds (.code c :: .inLoop c :: k)) cs W) := step_lone_go (by simp [stepG, stepG.exec, atR])
theorem st_inLoop {c : Code} : Go.step P (lone (atR b tm ds (.inLoop c :: k)) cs W) = .next (lone (atR b tm ds (.code c :: .inLoop c :: k)) cs W) := step_lone_go (by simp [stepG, stepG.exec, atR])
theorem st_scope {c : Code} : Go.step P (lone (atR b tm ds (.code (.scope c) :: k)) cs W) = .next (lone (atR b tm ds (.code c :: .inScope c :: k)) cs W) := step_lone_go (by simp [stepG, stepG.exec, atR])
theorem st_exit {id : Nat} {k' : List Item} (h : exitTo id k = some k') : Go.step P (lone (atR b tm ds (.code (.exit id) :: k)) cs W) = .next (lone (atR b tm ds k') cs W) := step_lone_go (by simp [stepG, stepG.exec, atR, h])
theorem st_region {id : Nat} {ops : Array Oper} : Go.step P (lone (atR b tm ds (.code (.region id ops false) :: k)) cs W) = .next (lone (atR b tm ds (.inRegion ops (List.range ops.size) :: k)) cs W) :=
  step_lone_go (by simp [stepG, stepG.exec, atR])
theorem st_region_draw {id : Nat} {ops : Array Oper} : Go.step P (lone (atR b tm ds (.code (.region id ops true) :: k)) cs W) =
    .next (lone (atR b tm ds (.inRegion ops (Region.schedule (P.follows .mixedOrders) ops (W.tape W.drawn (.order b.fn id))) :: k)) cs { W with drawn := W.drawn + 1 }) :=
  step_lone_go (by simp [stepG, stepG.exec, atR, choose, Sem.run, Question.forced, Question.cut])
theorem st_region_end {ops : Array Oper} : Go.step P (lone (atR b tm ds (.inRegion ops [] :: k)) cs W) = .next (lone (atR b tm ds k) cs W) := step_lone_go (by simp [stepG, stepG.exec, atR])

def putA (tm : Array Value) (dst : Option Tmp) (v : Value) : Array Value := match dst with
  | some d => tm.setIfInBounds d v
  | none => tm
theorem finish_op {ops : Array Oper} {i : Nat} {rest : List Nat} (v : Value) : (atR b tm ds (.inRegion ops (i :: rest) :: k)).finish v = atR b (putA tm ((ops[i]?).bind (·.dst)) v) ds (.inRegion ops rest :: k) := by
  cases h : (ops[i]?).bind (·.dst) <;> simp [Frame.finish, atR, putA, h]
theorem st_op_skip {ops : Array Oper} {i : Nat} {rest : List Nat} (h : ((ops[i]?).map (Region.wanted · (yielded ops tm))).getD false = false) :
    Go.step P (lone (atR b tm ds (.inRegion ops (i :: rest) :: k)) cs W) = .next (lone (atR b (putA tm ((ops[i]?).bind (·.dst)) undef) ds (.inRegion ops rest :: k)) cs W) := by
  rw [← finish_op]
  exact step_lone_go (by simp only [atR] at *; simp [stepG, stepG.exec, h])
theorem eval_atR {todo : List Item} : Frame.eval (atR b tm ds todo) = Act.eval ⟨tm, ds⟩ := by funext x; cases x <;> rfl
theorem stepG_atR {ops : Array Oper} {i : Nat} {rest : List Nat} {o : Oper} (ho : ops[i]? = some o) (hw : Region.wanted o (yielded ops tm) = true) (hd : ∀ c, o.op ≠ .defer c) :
    stepG P true (gor (atR b tm ds (.inRegion ops (i :: rest) :: k)) cs) W = stepG.apply P true (atR b tm ds (.inRegion ops (i :: rest) :: k)) cs none (execOp (Act.eval ⟨tm, ds⟩) o) W := by
  have he := eval_atR (b := b) (tm := tm) (ds := ds) (todo := .inRegion ops (i :: rest) :: k)
  obtain ⟨dst, op, ty, pos, after, guard⟩ := o
  simp only [atR] at he ⊢
  simp only [stepG, stepG.exec, stepG.oper, Frame.oper?, ho, hw, Option.map_some, Option.getD_some, if_true, he]
  cases b.roundOf with
  | none => rfl
  | some l => cases op <;> first | rfl | exact absurd rfl (hd _)
end steps

/-! What comes of an operation's run. -/
section applies
variable {fr0 fr : Frame} {cs : List Frame} {W0 W1 : World} {s : Sem Next}
/-- A machine that carries out s for the frame fr. -/
def Does (P : Program) (fr0 : Frame) (cs : List Frame) (W0 : World) (fr : Frame) (s : Sem Next) (W : World) : Prop :=
  (stepG P true (gor fr0 cs) W0).bare = (stepG.apply P true fr cs none s W).bare
def plainTodo : List Item → Bool
  | .inRegion _ _ :: _ => true
  | .inRangeFunc _ :: _ => true
  | .code _ :: _ => true
  | _ => false
theorem does_value {v : Value} (h : Does P fr0 cs W0 fr s W) (hr : s.run P W = .ok (.value v) W1) : Go.step P (lone fr0 cs W0) = .next (lone (fr.finish v) cs W1) :=
  step_lone_go (by rw [h]; simp [stepG.apply, hr])
theorem does_skip (h : Does P fr0 cs W0 fr s W) (hr : s.run P W = .ok .skip W1) : Go.step P (lone fr0 cs W0) = .next (lone (fr.finish undef) cs W1) :=
  step_lone_go (by rw [h]; simp [stepG.apply, hr])
theorem does_enter {f : FuncId} {args : Array Value} (h : Does P fr0 cs W0 fr s W) (ht : plainTodo fr.todo = true) (hr : s.run P W = .ok (.enter f args) W1) :
    Go.step P (lone fr0 cs W0) = .next (lone (Frame.enter P f args .normal) (fr :: cs) W1) :=
  step_lone_go (by
    rw [h]
    simp only [stepG.apply, Sem.runT_eq, hr, GStep.bare_after]
    cases hk : fr.todo with
    | nil => rfl
    | cons x l => cases x <;> first | rfl | (simp [hk, plainTodo] at ht))
theorem does_round {l : Nat} {f : FuncId} {tmps : Array Value} {as_ bo : Code} (h : Does P fr0 cs W0 fr s W) (hr : s.run P W = .ok (.round l f tmps as_ bo) W1) :
    Go.step P (lone fr0 cs W0) = .next (lone (Frame.round l f tmps as_ bo .normal) (fr :: cs) W1) :=
  step_lone_go (by rw [h]; simp [stepG.apply, hr])
end applies

/-- How a piece of code is left. -/
def Arr (P : Program) (m : Machine) (b : Frame) (k : List Item) (cs : List Frame) (e : Ex) (tm : Array Value) (ds : List Deferred) (W : World) : Prop := match e with
  | .normal => Steps P m (lone (atR b tm ds k) cs W)
  | .exit id => ∃ k', Steps P m (lone (atR b tm ds (.code (.exit id) :: k')) cs W) ∧ exitTo id k' = exitTo id k
  | .ret => ∃ k', Steps P m (lone (atR b tm ds (.code .ret :: k')) cs W)
theorem Arr.of_steps {m m1 : Machine} {b : Frame} {k : List Item} {cs : List Frame} {e : Ex} {tm : Array Value} {ds : List Deferred} (h : Steps P m m1) (h' : Arr P m1 b k cs e tm ds W) : Arr P m b k cs e tm ds W := by
  cases e with
  | normal => exact h.trans h'
  | exit id => obtain ⟨k', a, c⟩ := h'; exact ⟨k', h.trans a, c⟩
  | ret => obtain ⟨k', a⟩ := h'; exact ⟨k', h.trans a⟩

/-- The deferred marks of a frame. -/
inductive DR (σ : Sg) : List Nat → List Deferred → Prop
  | nil : DR σ [] []
  | cons {d : Nat} {m : Im} {l : List Nat} {l' : List Deferred} : σ d = some m → DR σ l l' → DR σ (d :: l) ({ target := .collected m.c, args := #[] } :: l')
theorem DR.mono {σ τ : Sg} (h : σ.le τ) : ∀ {l : List Nat} {l' : List Deferred}, DR σ l l' → DR τ l l'
  | _, _, .nil => .nil
  | _, _, .cons a b => .cons (h _ _ a) (DR.mono h b)
def RD (σ : Sg) : Option Nat → Option Nat → Prop
  | none, none => True
  | some l, some c => ∃ m, σ l = some m ∧ m.c = c
  | _, _ => False
theorem RD.mono {σ τ : Sg} (h : σ.le τ) {x y : Option Nat} (r : RD σ x y) : RD τ x y := by
  cases x <;> cases y <;> first | exact r | (obtain ⟨m, a, b⟩ := r; exact ⟨m, h _ _ a, b⟩)

/-- Of code. -/
def CodeOK (P : Program) (base : Nat) (ih : Task → Out) : Prop := ∀ c F A e F1 A1, ih (.code c F A) = .code e F1 A1 → ∀ σ W tm ds, R P base σ A W → TR σ F.t F.n tm → DR σ F.ds ds →
  ∀ b k cs, RD σ F.rd b.roundOf → ∃ σ1 W1 tm1 ds1, R P base σ1 A1 W1 ∧ Ext A σ W A1 σ1 W1 ∧ TR σ1 F1.t F1.n tm1 ∧ F1.rd = F.rd ∧ DR σ1 F1.ds ds1 ∧ Arr P (lone (atR b tm ds (.code c :: k)) cs W) b k cs e tm1 ds1 W1
/-- Of a call, whoever makes it. -/
def CallOK (P : Program) (base : Nat) (ih : Task → Out) : Prop := ∀ f args A v A1, ih (.call f args A) = .val v A1 → ∀ σ W args', R P base σ A W → VRs σ args args' →
  ∀ fr0 cs W0 fr s, Does P fr0 cs W0 fr s W → s.run P W = (callFunc f ⟨args'⟩).run P W → plainTodo fr.todo = true →
  ∃ σ1 W1 v', R P base σ1 A1 W1 ∧ Ext A σ W A1 σ1 W1 ∧ VR σ1 v v' ∧ Steps P (lone fr0 cs W0) (lone (fr.finish v') cs W1)
/-- Of a round of a loop over a function. -/
def YieldOK (P : Program) (base : Nat) (ih : Task → Out) : Prop := ∀ l args A v A1, ih (.yield l args A) = .val v A1 → ∀ σ W args' m, R P base σ A W → VRs σ args args' → σ l = some m →
  ∀ fr0 cs W0 fr s, Does P fr0 cs W0 fr s W → s.run P W = (Instr.yield m.c ⟨args'⟩).run P W →
  ∃ σ1 W1 v', R P base σ1 A1 W1 ∧ Ext A σ W A1 σ1 W1 ∧ VR σ1 v v' ∧ Steps P (lone fr0 cs W0) (lone (fr.finish v') cs W1)

theorem aOp_noDefer {o : Oper} {t : T Value} {r : ANext × AS} (e : aOp P o t A = some r) : ∀ c, o.op ≠ .defer c := by
  intro c ho
  simp [aOp, ho] at e

/-- An operation in its region. -/
theorem op_step {ih : Task → Out} (hC : CallOK P base ih) (hY : YieldOK P base ih) {o : Oper} {t : T Value} {n : Nat} {v : Value} {A1 : AS} (e : opVal P ih o t A = some (v, A1)) (h : R P base σ A W) {tm : Array Value} (ht : TR σ t n tm)
    {b : Frame} {ds : List Deferred} {k : List Item} {cs : List Frame} {ops : Array Oper} {i : Nat} {rest : List Nat} (ho : ops[i]? = some o) (hw : Region.wanted o (yielded ops tm) = true) :
    ∃ σ1 W1 v', R P base σ1 A1 W1 ∧ Ext A σ W A1 σ1 W1 ∧ VR σ1 v v' ∧
      Steps P (lone (atR b tm ds (.inRegion ops (i :: rest) :: k)) cs W) (lone (atR b (putA tm o.dst v') ds (.inRegion ops rest :: k)) cs W1) := by
  unfold opVal at e
  cases hop : aOp P o t A with
  | none => rw [hop] at e; simp [afterOp] at e
  | some q =>
  obtain ⟨r, A2⟩ := q
  rw [hop] at e
  have hs := aOp_sound (a := ⟨tm, ds⟩) h ht hop
  have hdoes : Does P (atR b tm ds (.inRegion ops (i :: rest) :: k)) cs W (atR b tm ds (.inRegion ops (i :: rest) :: k)) (execOp (Act.eval ⟨tm, ds⟩) o) W := by
    unfold Does; rw [stepG_atR ho hw (aOp_noDefer hop)]
  have hfin : ∀ v', (atR b tm ds (.inRegion ops (i :: rest) :: k)).finish v' = atR b (putA tm o.dst v') ds (.inRegion ops rest :: k) := fun v' => by rw [finish_op, ho]; rfl
  cases r with
  | value u =>
    simp only [afterOp, Option.some.injEq, Prod.mk.injEq] at e
    obtain ⟨rfl, rfl⟩ := e
    obtain ⟨σ1, W1, v', hr, h1, h2, h3⟩ := hs
    refine ⟨σ1, W1, v', h1, h2, h3, ?_⟩
    rcases hr with hr | ⟨hr, rfl⟩
    · have := does_value hdoes hr; rw [hfin] at this; exact .one this
    · have := does_skip hdoes hr; rw [hfin] at this; exact .one this
  | enter f args =>
    simp only [afterOp] at e
    obtain ⟨args', hr, hv, rfl⟩ := hs
    cases hq : ih (.call f args A2) with
    | val u A3 =>
      rw [hq] at e
      simp only [valOf, Option.some.injEq, Prod.mk.injEq] at e
      obtain ⟨rfl, rfl⟩ := e
      obtain ⟨σ1, W1, v', h1, h2, h3, h4⟩ := hC _ _ _ _ _ hq σ W args' h hv _ cs W _ _ hdoes hr rfl
      rw [hfin] at h4
      exact ⟨σ1, W1, v', h1, h2, h3, h4⟩
    | code e' F A3 => rw [hq] at e; simp [valOf] at e
    | none => rw [hq] at e; simp [valOf] at e
  | yield l args =>
    simp only [afterOp] at e
    obtain ⟨m, args', hl, hr, hv, rfl⟩ := hs
    cases hq : ih (.yield l args A2) with
    | val u A3 =>
      rw [hq] at e
      simp only [valOf, Option.some.injEq, Prod.mk.injEq] at e
      obtain ⟨rfl, rfl⟩ := e
      obtain ⟨σ1, W1, v', h1, h2, h3, h4⟩ := hY _ _ _ _ _ hq σ W args' m h hv hl _ cs W _ _ hdoes hr
      rw [hfin] at h4
      exact ⟨σ1, W1, v', h1, h2, h3, h4⟩
    | code e' F A3 => rw [hq] at e; simp [valOf] at e
    | none => rw [hq] at e; simp [valOf] at e

theorem putT_sound {t t1 : T Value} {n : Nat} {tm : Array Value} {dst : Option Tmp} {v v' : Value} (ht : TR σ t n tm) (hv : VR σ v v') (e : putT t n dst v = some t1) : TR σ t1 n (putA tm dst v') := by
  unfold putT at e
  cases dst with
  | none => simp at e; subst e; exact ht
  | some d =>
    simp only [putSome] at e
    split at e <;> simp at e
    rename_i hlt
    subst e
    exact ht.set d (by simpa [Nat.blt, Nat.succ_le_iff] using hlt) hv

theorem wanted_sound {ops : Array Oper} {o : Oper} {t : T Value} {n : Nat} {tm : Array Value} {w : Bool} (ht : TR σ t n tm) (e : wantedA ops o t = some w) : Region.wanted o (yielded ops tm) = w := by
  unfold wantedA at e
  unfold Region.wanted
  cases hg : o.guard with
  | none => simp [hg] at e; simp [e]
  | some jw =>
    obtain ⟨j, want⟩ := jw
    simp only [hg] at e
    cases hd : (ops[j]?).bind (·.dst) with
    | none => simp [hd] at e
    | some d =>
      simp only [hd] at e
      unfold isBool at e
      split at e
      · rename_i b hb
        simp at e
        obtain ⟨v', q1, q2⟩ := ht.2 d _ hb
        have : v' = .bool b := q2.eq_of_closed rfl
        subst this
        have hy : yielded ops tm j = some b := by unfold yielded; rw [hd]; simp [q1]
        simp only [hy]
        rw [← e]; cases b <;> cases want <;> rfl
      · rename_i v hno hv
        simp at e; subst e
        obtain ⟨v', q1, q2⟩ := ht.2 d _ hv
        have : ∀ b, v' ≠ .bool b := by
          rintro b rfl
          cases q2 with
          | atom q => exact hno _ rfl
        have hy : yielded ops tm j = none := by
          unfold yielded; rw [hd]; simp only [Option.bind_some, q1]
          cases v' <;> first | rfl | exact absurd rfl (this _)
        simp only [hy]
        rfl
      · simp at e

end Go.Eng
