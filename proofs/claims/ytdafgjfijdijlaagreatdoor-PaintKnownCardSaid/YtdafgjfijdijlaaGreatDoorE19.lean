/- Part of an abstract machine that runs the program's code in Lean's kernel, and of the proof that what it answers every run of the model answers (Go.Eng; program-independent). No condition. -/
import Derived.Test.YtdafgjfijdijlaaGreatDoorE18
namespace Go.Eng
open Go

variable {P : Program} {base : Nat} {σ : Sg} {A : AS} {W : World}

theorem setArgs_sound {n : Nat} : ∀ {ps : List Tmp} {args args' : List Value} {t t1 : T Value} {tm : Array Value}, setArgs n t ps args = some t1 → VRs σ args args' → TR σ t n tm →
    ps.length = args'.length ∧ TR σ t1 n ((ps.zip args').foldl (fun tmps (x : Tmp × Value) => tmps.setIfInBounds x.1 x.2) tm)
  | [], [], args', t, t1, tm, e, ha, ht => by
    cases ha
    simp [setArgs] at e; subst e
    exact ⟨rfl, ht⟩
  | [], _ :: _, args', t, t1, tm, e, ha, ht => by simp [setArgs] at e
  | _ :: _, [], args', t, t1, tm, e, ha, ht => by simp [setArgs] at e
  | p :: ps, v :: vs, args', t, t1, tm, e, ha, ht => by
    obtain ⟨v', vs', rfl, hv, hvs⟩ := ha.snoc_inv
    simp only [setArgs] at e
    cases hp : Nat.blt p n with
    | false => rw [hp] at e; simp at e
    | true =>
      rw [hp] at e
      simp only [cond_true] at e
      obtain ⟨h1, h2⟩ := setArgs_sound e hvs (ht.set p (by simpa [Nat.blt, Nat.succ_le_iff] using hp) hv)
      exact ⟨by simp [h1], by simpa using h2⟩

section rounds
variable {b : Frame} {tm : Array Value} {ds : List Deferred} {k : List Item} {cs : List Frame} {c : Nat} {lp : Loop}
theorem st_beginRound (hb : b.roundOf = some c) (hw : W.heap[c]? = some (.loop lp)) (hs : lp.state = .ready) :
    Go.step P (lone (atR b tm ds (.beginRound :: k)) cs W) = .next (lone (atR b tm ds k) cs { W with heap := W.heap.setIfInBounds c (.loop { lp with state := .busy }) }) :=
  step_lone_go (by simp [stepG, stepG.exec, stepG.apply, atR, hb, Instr.beginRound, Instr.getLoop, getObj, setObj, Sem.run, hw, hs, Frame.finish])
theorem st_round_end {fr : Frame} (hb : b.roundOf = some c) (hk : b.kind = .normal) (hw : W.heap[c]? = some (.loop lp)) :
    Go.step P (lone (atR b tm ds []) (fr :: cs) W) = .next (lone (fr.finish (.bool true)) cs { W with heap := W.heap.setIfInBounds c (.loop { lp with state := .ready, pending := none }) }) :=
  step_lone_go (by simp [stepG, stepG.exec, atR, hb, hk, Instr.endRound, Instr.getLoop, getObj, setObj, Sem.run, hw, doReturn])
theorem st_round_ret {fr : Frame} (hb : b.roundOf = some c) (hk : b.kind = .normal) (hw : W.heap[c]? = some (.loop lp)) :
    Go.step P (lone (atR b tm ds (.code .ret :: k)) (fr :: cs) W) = .next (lone (fr.finish (.bool false)) cs { W with heap := W.heap.setIfInBounds c (.loop { lp with state := .done, pending := some .ret }) }) :=
  step_lone_go (by simp [stepG, stepG.exec, atR, hb, hk, Instr.endRound, Instr.getLoop, getObj, setObj, Sem.run, hw, doReturn])
theorem st_round_exit {fr : Frame} {id : Nat} (hb : b.roundOf = some c) (hk : b.kind = .normal) (hw : W.heap[c]? = some (.loop lp)) (he : exitTo id k = none) :
    Go.step P (lone (atR b tm ds (.code (.exit id) :: k)) (fr :: cs) W) = .next (lone (fr.finish (.bool false)) cs { W with heap := W.heap.setIfInBounds c (.loop { lp with state := .done, pending := some (.exit id) }) }) :=
  step_lone_go (by simp [stepG, stepG.exec, atR, hb, hk, he, Instr.endRound, Instr.getLoop, getObj, setObj, Sem.run, hw, doReturn])
theorem st_endRangeFunc (hw : W.heap[c]? = some (.loop lp)) (hs : lp.state ≠ .busy) :
    Go.step P (lone (atR b tm ds (.endRangeFunc c :: k)) cs W) = .next (lone (atR b tm ds ((lp.pending.map Item.code).toList ++ k)) cs { W with heap := W.heap.setIfInBounds c (.loop { lp with state := .exhausted }) }) :=
  step_lone_go (by
    have : (lp.state == LoopState.busy) = false := by simpa using hs
    simp [stepG, stepG.exec, atR, Instr.endLoop, Instr.getLoop, getObj, setObj, Sem.run, hw, hs])
end rounds

/-- A loop's block is turned. -/
theorem loop_upd {l : Nat} {m : Im} {lp : Loop} {st st1 : LoopState} {pe pe1 : Option Code} {tm : T Value} {n : Nat} {ps : List Tmp} {as_ bo : Code} {d : Nat} (h : R P base σ A W) (hlo : A.lo ≤ l) (hm : σ l = some m)
    (hg : A.h.get l = some (.loop st pe tm n ps as_ bo d)) (hw : W.heap[m.c]? = some (.loop lp)) :
    R P base σ (A.put l (.loop st1 pe1 tm n ps as_ bo d)) { W with heap := W.heap.setIfInBounds m.c (.loop { lp with state := st1, pending := pe1 }) } ∧
      Ext A σ W (A.put l (.loop st1 pe1 tm n ps as_ bo d)) σ { W with heap := W.heap.setIfInBounds m.c (.loop { lp with state := st1, pending := pe1 }) } := by
  obtain ⟨_, w1, lp', rfl, e1, e2, e3, e4, e5, e6⟩ := h.live _ _ _ hg hm
  rw [w1] at hw
  obtain rfl : lp' = lp := by simpa using hw
  have hlt := (Array.getElem?_eq_some_iff.1 w1).1
  exact h.upd (b := l) (m := m) (o1' := .loop { lp' with state := st1, pending := pe1 }) (by rw [hg]; rfl) hm hlo (by simp) (fun y hy => by simp [Array.getElem?_setIfInBounds_ne (Ne.symm hy)]) (by simp [hlt])
    ⟨_, rfl, rfl, rfl, e3, e4, e5, e6⟩

/-- The bounds that a loop's block keeps: it is one of the run's own. -/
def loOK (A : AS) (l : Nat) : Prop := A.lo ≤ l

theorem yield_ok {kn : Kn} {ih : Task → Out} (hK : CodeOK P base ih) : YieldOK P base (step P kn ih) := by
  intro l args A v A1 he σ W args' m h ha hm fr0 cs W0 fr s hd hr
  replace he : yieldStep ih l args A = .val v A1 := he
  unfold yieldStep at he
  cases hlo : Nat.ble A.lo l with
  | false => rw [hlo] at he; simp at he
  | true =>
  rw [hlo] at he
  simp only [cond_true] at he
  have hlo := Nat.le_of_ble_eq_true hlo
  split at he <;> try (simp at he; done)
  rename_i pe tm n ps assign body d hg
  split at he <;> try (simp at he; done)
  rename_i t ht
  obtain ⟨_, w1, lp, rfl, e1, e2, e3, e4, e5, e6⟩ := h.live _ _ _ hg hm
  obtain ⟨p1, p2⟩ := setArgs_sound ht ha e3
  -- the round's frame
  have hrun : s.run P W = .ok (.round m.c lp.fn ((ps.zip args').foldl (fun tmps (x : Tmp × Value) => tmps.setIfInBounds x.1 x.2) lp.tmps) assign body) W := by
    rw [hr]
    have hsz : (⟨args'⟩ : Array Value).size = lp.params.size := by rw [e4]; simp [p1]
    simp only [Instr.yield, Instr.getLoop, getObj, Sem.run_bind, Sem.run, w1, Result.andThen_ok]
    rw [Sem.run_pure, Result.andThen_ok, if_neg (by simp [hsz])]
    simp only [Sem.run_pure, e5, e6, e4]
    congr 2
    rw [← Array.foldl_toList]
    simp
  have henter := does_round hd hrun
  let b : Frame := Frame.round m.c lp.fn ((ps.zip args').foldl (fun tmps (x : Tmp × Value) => tmps.setIfInBounds x.1 x.2) lp.tmps) assign body .normal
  have hb : b.roundOf = some m.c := rfl
  have hbk : b.kind = .normal := rfl
  have hfr : Frame.round m.c lp.fn ((ps.zip args').foldl (fun tmps (x : Tmp × Value) => tmps.setIfInBounds x.1 x.2) lp.tmps) assign body .normal =
    atR b ((ps.zip args').foldl (fun tmps (x : Tmp × Value) => tmps.setIfInBounds x.1 x.2) lp.tmps) [] [.code assign, .beginRound, .code body] := rfl
  rw [hfr] at henter
  cases hq : ih (.code assign ⟨t, n, [], some l⟩ A) with
  | val u A2 => rw [hq] at he; simp [roundBody] at he
  | none => rw [hq] at he; simp [roundBody] at he
  | code e2' F A2 =>
  rw [hq] at he
  cases e2' with
  | exit id => simp [roundBody] at he
  | ret => simp [roundBody] at he
  | normal =>
  simp only [roundBody] at he
  obtain ⟨σ1, W1, tm1, ds1, h1, h2, h3, h4, h5, h6⟩ := hK _ _ _ _ _ _ hq σ W _ [] h p2 .nil b [.beginRound, .code body] (fr :: cs) ⟨m, hm, rfl⟩
  split at he <;> try (simp at he; done)
  rename_i pe1 tm1' n1 ps1 as1 bo1 d1 hg1
  have hm1 := h2.le _ _ hm
  obtain ⟨_, w2, lp1, rfl, f1, f2, f3, f4, f5, f6⟩ := h1.live _ _ _ hg1 hm1
  have hlo1 : A2.lo ≤ l := by rw [h2.lo]; exact hlo
  have hup := loop_upd (st1 := .busy) (pe1 := pe1) h1 hlo1 hm1 hg1 w2
  have hpe : ({ lp1 with state := .busy, pending := pe1 } : Loop) = { lp1 with state := .busy } := by rw [← f2]
  rw [hpe] at hup
  have hbeg := st_beginRound (P := P) (b := b) (tm := tm1) (ds := ds1) (k := [.code body]) (cs := fr :: cs) hb w2 f1
  cases hq2 : ih (.code body F (A2.put l (.loop .busy pe1 tm1' n1 ps1 as1 bo1 d1))) with
  | val u A3 => rw [hq2] at he; simp [roundEnd] at he
  | none => rw [hq2] at he; simp [roundEnd] at he
  | code e3' F3 A3 =>
  rw [hq2] at he
  simp only [roundEnd] at he
  obtain ⟨σ2, W2, tm2, ds2, k1, k2, k3, k4, k5, k6⟩ := hK _ _ _ _ _ _ hq2 σ1 _ tm1 ds1 hup.1 h3 h5 b [] (fr :: cs) (by rw [h4]; exact ⟨m, hm1, rfl⟩)
  split at he <;> try (simp at he; done)
  rename_i st2 pe2 tm2' n2 ps2 as2 bo2 d2 hg2
  have hm2 := k2.le _ _ hm1
  obtain ⟨_, w3, lp2, rfl, _⟩ := k1.live _ _ _ hg2 hm2
  have hlo2 : A3.lo ≤ l := by rw [k2.lo]; exact hlo1
  have hpre : Steps P (lone fr0 cs W0) (lone (atR b tm1 ds1 [.code body]) (fr :: cs) { W1 with heap := W1.heap.setIfInBounds m.c (.loop { lp1 with state := .busy }) }) := (Steps.head henter h6).trans (.one hbeg)
  have hext : Ext A σ W A3 σ2 W2 := (h2.trans hup.2).trans k2
  cases e3' with
  | normal =>
    simp at he; obtain ⟨rfl, rfl⟩ := he
    have hup2 := loop_upd (st1 := .ready) (pe1 := none) k1 hlo2 hm2 hg2 w3
    exact ⟨σ2, _, .bool true, hup2.1, hext.trans hup2.2, .atom rfl, (hpre.trans k6).trans (.one (st_round_end hb hbk w3))⟩
  | ret =>
    simp at he; obtain ⟨rfl, rfl⟩ := he
    have hup2 := loop_upd (st1 := .done) (pe1 := some .ret) k1 hlo2 hm2 hg2 w3
    obtain ⟨k', q1⟩ := k6
    exact ⟨σ2, _, .bool false, hup2.1, hext.trans hup2.2, .atom rfl, (hpre.trans q1).trans (.one (st_round_ret hb hbk w3))⟩
  | exit id =>
    simp at he; obtain ⟨rfl, rfl⟩ := he
    have hup2 := loop_upd (st1 := .done) (pe1 := some (.exit id)) k1 hlo2 hm2 hg2 w3
    obtain ⟨k', q1, q2⟩ := k6
    exact ⟨σ2, _, .bool false, hup2.1, hext.trans hup2.2, .atom rfl, (hpre.trans q1).trans (.one (st_round_exit hb hbk w3 (by rw [q2]; rfl)))⟩

/-- A loop over a function. -/
theorem range_ok {ih : Task → Out} (hK : CodeOK P base ih) (hC : CallOK P base ih) : ∀ f params assign body F A e F1 A1, cRange P f params assign body ih F A = .code e F1 A1 → ∀ σ W tm ds, R P base σ A W → TR σ F.t F.n tm → DR σ F.ds ds →
      ∀ b k cs, RD σ F.rd b.roundOf → ∃ σ1 W1 tm1 ds1, R P base σ1 A1 W1 ∧ Ext A σ W A1 σ1 W1 ∧ TR σ1 F1.t F1.n tm1 ∧ F1.rd = F.rd ∧ DR σ1 F1.ds ds1 ∧ Arr P (lone (atR b tm ds (.code (.rangeFunc f params assign body) :: k)) cs W) b k cs e tm1 ds1 W1 := by
  intro f params assign body F A e F1 A1 he σ W tm ds h ht hd b k cs hr
  unfold cRange at he
  split at he <;> try (simp at he; done)
  rename_i g first cap hrd hf
  have hbr : b.roundOf = none := by
    rw [hrd] at hr
    cases hq : b.roundOf with
    | none => rfl
    | some c => rw [hq] at hr; exact hr.elim
  have hev := eval_sound (a := ⟨tm, ds⟩) h ht hf
  -- the two blocks
  obtain ⟨a1, a2⟩ := h.new (o := .deferred true) (o' := .deferred (some [])) (m := ⟨W.heap.size, 0, 0, 0⟩) (W1 := { W with heap := W.heap.push (.deferred (some [])) }) rfl rfl ⟨some [], rfl, fun _ => rfl⟩
  have hDm : (σ.add A.nx ⟨W.heap.size, 0, 0, 0⟩) A.nx = some ⟨W.heap.size, 0, 0, 0⟩ := Sg.add_at _ _ _
  let lp : Loop := { state := .ready, pending := none, fn := b.fn, tmps := tm, params := params, assign := assign, body := body, defers := W.heap.size }
  obtain ⟨b1, b2⟩ := a1.new (o := .loop .ready none F.t F.n params.toList assign body A.nx) (o' := .loop lp) (m := ⟨W.heap.size + 1, 0, 0, 0⟩)
    (W1 := { W with heap := (W.heap.push (.deferred (some []))).push (.loop lp) }) rfl (by simp) ⟨lp, rfl, rfl, rfl, ht.mono a2.le, rfl, rfl, rfl⟩
  have hnx : (A.new (.deferred true)).nx = A.nx + 1 := rfl
  rw [hnx] at b1 b2
  have hext := a2.trans b2
  generalize hσ2 : ((σ.add A.nx ⟨W.heap.size, 0, 0, 0⟩).add (A.nx + 1) ⟨W.heap.size + 1, 0, 0, 0⟩) = σ2 at b1 b2 hext
  have hLm : σ2 (A.nx + 1) = some ⟨W.heap.size + 1, 0, 0, 0⟩ := by rw [← hσ2]; exact Sg.add_at _ _ _
  have hDm2 : σ2 A.nx = some ⟨W.heap.size, 0, 0, 0⟩ := by rw [← hσ2, Sg.add_ne _ _ _ (by omega)]; exact hDm
  -- the call
  have htg : aTarget P (.func (.func g) first cap) [.func (.yield (A.nx + 1)) #[] #[]] ((A.new (.deferred true)).new (.loop .ready none F.t F.n params.toList assign body A.nx)) =
    some (.enter g (first.toList ++ [.func (.yield (A.nx + 1)) #[] #[]] ++ cap.toList), (A.new (.deferred true)).new (.loop .ready none F.t F.n params.toList assign body A.nx)) := by simp [aTarget]
  have hop := target_sound (args' := [.func (.yield (W.heap.size + 1)) #[] #[]]) b1 (hev.mono hext.le) (.cons (.yield hLm) .nil) htg
  obtain ⟨args', o1, o2, _⟩ := hop
  let fr : Frame := { atR b tm ds (.code (.rangeFunc f params assign body) :: k) with todo := .inRangeFunc (W.heap.size + 1) :: k, defers := { target := .collected W.heap.size, args := #[] } :: ds }
  have hdoes : Does P (atR b tm ds (.code (.rangeFunc f params assign body) :: k)) cs W fr
      (do let d ← Deferred.ofValue (Act.eval ⟨tm, ds⟩ f) ⟨[.func (.yield (W.heap.size + 1)) #[] #[]]⟩; invoke d.target d.args : Sem Next) { W with heap := (W.heap.push (.deferred (some []))).push (.loop lp) } := by
    have hev2 : ∀ todo ds', Frame.eval (atR b tm ds' todo) = Act.eval ⟨tm, ds⟩ := fun todo ds' => by funext x; cases x <;> rfl
    have hev3 := hev2 (.code (.rangeFunc f params assign body) :: k) ds
    simp only [atR] at hev3
    unfold Does
    simp only [stepG, stepG.exec, atR, hbr, Instr.enterLoop]
    simp [newObj, Sem.run, fr, lp, atR, resolve, Frame.eval]
    cases f <;> (rw [hbr]; first | rfl | (simp [Act.eval]; rfl))
  cases hq : ih (.call g (first.toList ++ [.func (.yield (A.nx + 1)) #[] #[]] ++ cap.toList) ((A.new (.deferred true)).new (.loop .ready none F.t F.n params.toList assign body A.nx))) with
  | none => rw [hq] at he; simp [ranged] at he
  | code e' F' A' => rw [hq] at he; simp [ranged] at he
  | val u A3 =>
  rw [hq] at he
  simp only [ranged] at he
  obtain ⟨σ3, W3, v', c1, c2, c3, c4⟩ := hC _ _ _ _ _ hq σ2 _ args' b1 o2 _ cs W fr _ hdoes o1 rfl
  have hfin : fr.finish v' = atR b tm ({ target := .collected W.heap.size, args := #[] } :: ds) (.endRangeFunc (W.heap.size + 1) :: k) := rfl
  rw [hfin] at c4
  split at he <;> try (simp at he; done)
  rename_i st pe tm3 n3 ps3 as3 bo3 d3 hg3
  have hLm3 := c2.le _ _ hLm
  obtain ⟨_, w3, lp3, rfl, f1, f2, f3⟩ := c1.live _ _ _ hg3 hLm3
  have hlo3 : A3.lo ≤ A.nx + 1 := by rw [c2.lo, hext.lo]; exact Nat.le_succ_of_le h.lonx
  have hnb : st ≠ .busy := by rintro rfl; simp at he
  have hup := loop_upd (st1 := .exhausted) (pe1 := pe) c1 hlo3 hLm3 hg3 w3
  have hpe : ({ lp3 with state := .exhausted, pending := pe } : Loop) = { lp3 with state := .exhausted } := by rw [← f2]
  rw [hpe] at hup
  have hst := st_endRangeFunc (P := P) (b := b) (tm := tm) (ds := { target := .collected W.heap.size, args := #[] } :: ds) (k := k) (cs := cs) w3 (by rw [f1]; exact hnb)
  have hall : Ext A σ W (A3.put (A.nx + 1) (.loop .exhausted pe tm3 n3 ps3 as3 bo3 d3)) σ3 _ := (hext.trans c2).trans hup.2
  have hd3 : DR σ3 (A.nx :: F.ds) ({ target := .collected W.heap.size, args := #[] } :: ds) := .cons (m := ⟨W.heap.size, 0, 0, 0⟩) (c2.le _ _ hDm2) (hd.mono ((hext.trans c2).le))
  have ht3 := ht.mono ((hext.trans c2).le)
  have hto : Steps P (lone (atR b tm ds (.code (.rangeFunc f params assign body) :: k)) cs W) (lone (atR b tm ({ target := .collected W.heap.size, args := #[] } :: ds) ((lp3.pending.map Item.code).toList ++ k)) cs
    { W3 with heap := W3.heap.setIfInBounds (W.heap.size + 1) (.loop { lp3 with state := .exhausted }) }) := c4.trans (.one hst)
  have fin : ∀ e F1 A1, (match pe with
      | none => Out.code .normal ⟨F.t, F.n, A.nx :: F.ds, F.rd⟩ (A3.put (A.nx + 1) (.loop .exhausted none tm3 n3 ps3 as3 bo3 d3))
      | some c => ih (.code c ⟨F.t, F.n, A.nx :: F.ds, F.rd⟩ (A3.put (A.nx + 1) (.loop .exhausted (some c) tm3 n3 ps3 as3 bo3 d3)))) = .code e F1 A1 →
      ∃ σ1 W1 tm1 ds1, R P base σ1 A1 W1 ∧ Ext A σ W A1 σ1 W1 ∧ TR σ1 F1.t F1.n tm1 ∧ F1.rd = F.rd ∧ DR σ1 F1.ds ds1 ∧ Arr P (lone (atR b tm ds (.code (.rangeFunc f params assign body) :: k)) cs W) b k cs e tm1 ds1 W1 := by
    intro e F1 A1 he
    cases pe with
    | none =>
      simp at he; obtain ⟨rfl, rfl, rfl⟩ := he
      refine ⟨σ3, _, tm, _, hup.1, hall, ht3, rfl, hd3, ?_⟩
      have hp : (lp3.pending.map Item.code).toList ++ k = k := by rw [f2]; rfl
      rw [hp] at hto
      exact hto
    | some c =>
      simp only at he
      obtain ⟨σ4, W4, tm4, ds4, k1, k2, k3, k4, k5, k6⟩ := hK _ _ _ _ _ _ he σ3 _ tm _ hup.1 ht3 hd3 b k cs (by simp only [hrd, hbr]; trivial)
      refine ⟨σ4, W4, tm4, ds4, k1, hall.trans k2, k3, k4, k5, .of_steps ?_ k6⟩
      have hp : (lp3.pending.map Item.code).toList ++ k = .code c :: k := by rw [f2]; rfl
      rw [hp] at hto
      exact hto
  cases st with
  | busy => exact absurd rfl hnb
  | ready => exact fin _ _ _ he
  | done => exact fin _ _ _ he
  | exhausted => exact fin _ _ _ he

end Go.Eng
