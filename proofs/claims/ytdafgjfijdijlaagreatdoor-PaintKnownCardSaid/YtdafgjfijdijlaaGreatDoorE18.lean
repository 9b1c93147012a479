/- Part of an abstract machine that runs the program's code in Lean's kernel, and of the proof that what it answers every run of the model answers (Go.Eng; program-independent). No condition. -/
import Derived.Test.YtdafgjfijdijlaaGreatDoorE17
namespace Go.Eng
open Go

variable {P : Program} {base : Nat} {σ : Sg} {A : AS} {W : World}

/-! A function's end. -/
theorem st_leave_end {b : Frame} {tm : Array Value} {ds : List Deferred} {cs : List Frame} (hb : b.roundOf = none) :
    Go.step P (lone (atR b tm ds []) cs W) = .next (lone { atR b tm ds [] with mode := .returning } cs W) := step_lone_go (by simp [stepG, stepG.exec, atR, hb])
theorem st_leave_ret {b : Frame} {tm : Array Value} {ds : List Deferred} {k : List Item} {cs : List Frame} (hb : b.roundOf = none) :
    Go.step P (lone (atR b tm ds (.code .ret :: k)) cs W) = .next (lone { atR b tm ds (.code .ret :: k) with mode := .returning } cs W) := step_lone_go (by simp [stepG, stepG.exec, atR, hb])

/-- The deferred marks are taken. -/
theorem close_ok {b : Frame} {tm : Array Value} {k : List Item} {cs : List Frame} : ∀ {ds : List Nat} {ds' : List Deferred} {A A1 : AS} {σ : Sg} {W : World}, DR σ ds ds' → closeAll ds A = some A1 → R P base σ A W →
    ∃ W1, R P base σ A1 W1 ∧ Ext A σ W A1 σ W1 ∧ Steps P (lone { atR b tm ds' k with mode := .returning } cs W) (lone { atR b tm [] k with mode := .returning } cs W1)
  | _, _, A, A1, σ, W, .nil, e, h => by simp [closeAll] at e; subst e; exact ⟨W, h, Ext.refl _ _ _, Steps.refl _ _⟩
  | _, _, A, A1, σ, W, .cons (d := d) (m := m) (l := l) (l' := l') hm hl, e, h => by
    simp only [closeAll] at e
    split at e <;> try (simp at e; done)
    rename_i hg
    cases hlo : Nat.ble A.lo d with
    | false => rw [hlo] at e; simp at e
    | true =>
    rw [hlo] at e
    simp only [cond_true] at e
    obtain ⟨_, w1, xs, rfl, hx⟩ := h.live _ _ _ hg hm
    obtain rfl := hx rfl
    have hlt := (Array.getElem?_eq_some_iff.1 w1).1
    have hup := h.upd (b := d) (m := m) (o1 := .deferred false) (o1' := .deferred none) (W1 := { W with heap := W.heap.setIfInBounds m.c (.deferred none) }) (by rw [hg]; rfl) hm (Nat.le_of_ble_eq_true hlo)
      (by simp) (fun y hy => by simp [Array.getElem?_setIfInBounds_ne (Ne.symm hy)]) (by simp [hlt]) ⟨none, rfl, fun q => by simp at q⟩
    obtain ⟨W2, k1, k2, k3⟩ := close_ok (b := b) (tm := tm) (k := k) (cs := cs) hl e hup.1
    refine ⟨W2, k1, hup.2.trans k2, .head ?_ k3⟩
    exact step_lone_go (by simp [stepG, unwind, atR, Instr.takeDeferred, getObj, setObj, Sem.run, w1])

theorem results_ok {F : Fm} {tm : Array Value} (h : R P base σ A W) (ht : TR σ F.t F.n tm) (g : ResultVar → Sem Value) (g1 : ∀ t, g (.tmp t) = pure (tm.getD t undef)) (g2 : ∀ x ty, g (.cell x ty) = (do loadVar ty (← asAddr (tm.getD x undef)))) :
    ∀ {rs : List ResultVar} {vs : List Value}, aResults P F A rs = some vs → ∃ vs', VRs σ vs vs' ∧ (rs.mapM g).run P W = .ok vs' W
  | [], vs, e => by simp [aResults] at e; subst e; exact ⟨[], .nil, by simp⟩
  | .tmp t :: rs, vs, e => by
    simp only [aResults] at e
    split at e <;> try (simp at e; done)
    rename_i v r hv hr
    simp at e; subst e
    obtain ⟨v', q1, q2⟩ := ht.2 t v hv
    obtain ⟨vs', k1, k2⟩ := results_ok h ht g g1 g2 hr
    refine ⟨v' :: vs', .cons q2 k1, ?_⟩
    have : tm.getD t undef = v' := by simp [q1]
    simp only [List.mapM_cons, Sem.run_bind, Sem.run_pure, Result.andThen_ok, g1, this, k2]
  | .cell x ty :: rs, vs, e => by
    simp only [aResults] at e
    split at e <;> try (simp at e; done)
    rename_i p hp
    split at e <;> try (simp at e; done)
    rename_i v r hv hr
    simp at e; subst e
    obtain ⟨p', q1, q2⟩ := ht.2 x p hp
    obtain ⟨vs', k1, k2⟩ := results_ok h ht g g1 g2 hr
    obtain ⟨v', l1, l2⟩ := load_sound h q2 hv
    refine ⟨v' :: vs', .cons l2 k1, ?_⟩
    have hgd : tm.getD x undef = p' := by simp [q1]
    have hptr : ∃ ad, p' = .pointer (some ad) := by
      unfold aLoad at hv
      split at hv <;> try (simp at hv; done)
      cases q2 with
      | atom q => simp [atomV] at q
      | ptr => exact ⟨_, rfl⟩
    obtain ⟨ad, rfl⟩ := hptr
    have l1' : (loadVar ty ad).run P W = .ok v' W := by simpa [Instr.loadAt, Instr.sureAddr] using l1
    have hA : asAddr (.pointer (some ad)) = pure ad := rfl
    simp only [List.mapM_cons, Sem.run_bind, Sem.run_pure, Result.andThen_ok, g2, hgd, hA, l1', k2]

/-- What a call of a function comes to. -/
theorem body_ok {ih : Task → Out} (hK : CodeOK P base ih) {f : FuncId} {fn : Func} {c : Code} {args args' : List Value} {v : Value} {A1 : AS} (hf : P.funcs[f]? = some fn) (hb : fn.body = some c)
    (e : callDone P fn.results.toList (ih (.code c ⟨T.setAll .leaf 0 args, args.length + (fn.ntmps - args.length), [], none⟩ A)) = .val v A1) (h : R P base σ A W) (ha : VRs σ args args') (fr : Frame) (cs : List Frame) :
    ∃ σ1 W1 v', R P base σ1 A1 W1 ∧ Ext A σ W A1 σ1 W1 ∧ VR σ1 v v' ∧ Steps P (lone (Frame.enter P f ⟨args'⟩ .normal) (fr :: cs) W) (lone (fr.finish v') cs W1) := by
  have hlen := ha.length
  let b : Frame := { (default : Frame) with fn := f, kind := .normal }
  have henter : Frame.enter P f ⟨args'⟩ .normal = atR b (⟨args'⟩ ++ Array.replicate (fn.ntmps - args'.length) undef) [] [.code c] := by
    simp [Frame.enter, atR, hf, hb, b]; rfl
  have htr : TR σ (T.setAll .leaf 0 args) (args.length + (fn.ntmps - args.length)) (⟨args'⟩ ++ Array.replicate (fn.ntmps - args'.length) undef) := by
    refine ⟨by simp [hlen], fun i u hu => ?_⟩
    have key : ∀ (l : List Value) (t : T Value) (j i : Nat) (u : Value), (T.setAll t j l).get i = some u → (j ≤ i ∧ l[i - j]? = some u) ∨ t.get i = some u := by
      intro l
      induction l with
      | nil => intro t j i u hu; exact .inr hu
      | cons x l ih =>
        intro t j i u hu
        rcases ih (t.set j x) (j + 1) i u hu with ⟨q1, q2⟩ | q
        · exact .inl ⟨by omega, by rw [show i - j = (i - (j + 1)) + 1 by omega]; simpa using q2⟩
        · rcases T.set_get _ _ _ _ _ q with ⟨rfl, rfl⟩ | ⟨_, q⟩
          · exact .inl ⟨Nat.le_refl _, by simp⟩
          · exact .inr q
    rcases key _ _ _ _ _ hu with ⟨_, q⟩ | q
    · obtain ⟨u', q1, q2⟩ := ha.get i u (by simpa using q)
      refine ⟨u', ?_, q2⟩
      have hi := (List.getElem?_eq_some_iff.1 q1).1
      rw [Array.getElem?_append_left (by simpa using hi)]
      simpa using q1
    · simp [T.get_leaf] at q
  unfold callDone at e
  cases hq : ih (.code c ⟨T.setAll .leaf 0 args, args.length + (fn.ntmps - args.length), [], none⟩ A) with
  | val u A2 => rw [hq] at e; simp at e
  | none => rw [hq] at e; simp at e
  | code e2 F A2 =>
    rw [hq] at e
    obtain ⟨σ1, W1, tm1, ds1, h1, h2, h3, h4, h5, h6⟩ := hK _ _ _ _ _ _ hq σ W _ [] h htr .nil b [] (fr :: cs) trivial
    have hend : callEnd P fn.results.toList F (closeAll F.ds A2) = .val v A1 := by cases e2 <;> first | exact e | simp at e
    unfold callEnd at hend
    cases hcl : closeAll F.ds A2 with
    | none => rw [hcl] at hend; simp at hend
    | some A3 =>
    rw [hcl] at hend
    simp only at hend
    cases hrs : aResults P F A3 fn.results.toList with
    | none => rw [hrs] at hend; simp [resVal] at hend
    | some vs =>
    rw [hrs] at hend
    -- the frame that returns
    have hret : ∃ k, Steps P (lone (Frame.enter P f ⟨args'⟩ .normal) (fr :: cs) W) (lone { atR b tm1 ds1 k with mode := .returning } (fr :: cs) W1) := by
      rw [henter]
      cases e2 with
      | normal => exact ⟨[], h6.trans (.one (st_leave_end rfl))⟩
      | ret => obtain ⟨k', q⟩ := h6; exact ⟨_, q.trans (.one (st_leave_ret rfl))⟩
      | exit id => simp at e
    obtain ⟨k, hret⟩ := hret
    obtain ⟨W3, k1, k2, k3⟩ := close_ok (b := b) (tm := tm1) (k := k) (cs := fr :: cs) h5 hcl h1
    obtain ⟨vs', r1, r2⟩ := results_ok k1 (h3.mono k2.le) (fun | .tmp t => pure (tm1.getD t undef) | .cell x ty => do loadVar ty (← asAddr (tm1.getD x undef))) (fun _ => rfl) (fun _ _ => rfl) hrs
    have hv : ∃ v', VR σ1 v v' ∧ A1 = A3 ∧ (results fn tm1).run P W3 = .ok v' W3 := by
      have hrun : (results fn tm1).run P W3 = .ok (if hh : (⟨vs'⟩ : Array Value).size = 1 then (⟨vs'⟩ : Array Value)[0] else .tuple ⟨vs'⟩) W3 := by
        have hres : results fn tm1 = (do
            let vs ← fn.results.mapM (fun | .tmp t => pure (tm1.getD t undef) | .cell x ty => do loadVar ty (← asAddr (tm1.getD x undef)) : ResultVar → Sem Value)
            pure (if h : vs.size = 1 then vs[0] else .tuple vs)) := rfl
        rw [hres, Sem.run_bind, Array.mapM_eq_mapM_toList, Sem.run_map, r2]
        rfl
      cases r1 with
      | nil => simp [resVal] at hend; obtain ⟨rfl, rfl⟩ := hend; exact ⟨.tuple #[], .tuple .nil, rfl, by rw [hrun]; rfl⟩
      | cons x y =>
        cases y with
        | nil => simp [resVal] at hend; obtain ⟨rfl, rfl⟩ := hend; exact ⟨_, x, rfl, by rw [hrun]; rfl⟩
        | cons y z => simp [resVal] at hend; obtain ⟨rfl, rfl⟩ := hend; exact ⟨_, .tuple (.cons x (.cons y z)), rfl, by rw [hrun]; simp⟩
    obtain ⟨v', v1, rfl, v2⟩ := hv
    refine ⟨σ1, W3, v', k1, h2.trans k2, v1, (hret.trans k3).trans (.one ?_)⟩
    exact step_leave_returned (P := P) (fr := { atR b tm1 [] k with mode := .returning }) ⟨rfl, rfl, rfl, fn, hf, v2⟩

/-- What is known beforehand: the answers of some functions, and of two that the model stands in for. -/
structure KnOK (P : Program) (K : Kn) : Prop where
  kn : ∀ f args v, K.kn f args = some v → closedVs args = true ∧ closedV v = true ∧ (∃ fn c, P.funcs[f]? = some fn ∧ fn.body = some c) ∧ (∀ W, (callFunc f ⟨args⟩).run P W = .ok (.enter f ⟨args⟩) W) ∧
    ∀ W, Calls P f ⟨args⟩ W fun e W1 => e = .returned v ∧ W.heap.size ≤ W1.heap.size ∧ (∀ c, c < W.heap.size → W1.heap[c]? = W.heap[c]?) ∧ Rest W W1
  km : ∀ f args A v A1, K.km f args A = some (v, A1) → (∃ fn c, P.funcs[f]? = some fn ∧ fn.body = some c ∧ (fn.name == "runtime.NumGoroutine") = false) ∧
    ∀ base σ W args', R P base σ A W → VRs σ args args' → Calls P f ⟨args'⟩ W fun e W1 => ∃ σ1 v', e = .returned v' ∧ R P base σ1 A1 W1 ∧ Ext A σ W A1 σ1 W1 ∧ VR σ1 v v'
  ne : ∀ fn, P.funcs[K.ne]? = some fn → fn.body = none → ∀ x W, (callFunc K.ne ⟨[x]⟩).run P W = .ok (.value x) W
  mz : ∀ fn, P.funcs[K.mz]? = some fn → fn.body = none → ∀ (n : Nat) W, n ≤ 2 ^ 40 → ∃ cap cells W1, (callFunc K.mz ⟨[.int .i64 n]⟩).run P W = .ok (.value (.slice (some ⟨W.heap.size, 0, none⟩) n cap)) W1 ∧
    W1.heap = W.heap.push (.cells cells K.u8) ∧ cells.size = cap ∧ n ≤ cap ∧ Rest W W1

theorem R.grow {W1 : World} (h : R P base σ A W) (hs : W.heap.size ≤ W1.heap.size) (hh : ∀ c, c < W.heap.size → W1.heap[c]? = W.heap[c]?) (hr : Rest W W1) : R P base σ A W1 ∧ Ext A σ W A σ W1 := by
  refine ⟨⟨fun b o m e1 e2 => ?_, h.inj, h.fresh, h.glob, h.high, h.low, Nat.le_trans h.base_le hs, h.lonx, h.dom⟩, ⟨fun _ _ h => h, fun _ _ => rfl, Nat.le_refl _, rfl, hs, fun _ _ h => h, fun c hc _ => hh c hc, hr⟩⟩
  obtain ⟨o', e3, e4⟩ := h.live b o m e1 e2
  exact ⟨o', by rw [hh _ (Array.getElem?_eq_some_iff.1 e3).1]; exact e3, e4⟩

theorem run_callFunc_enter {f : FuncId} {fn : Func} {c : Code} (hf : P.funcs[f]? = some fn) (hb : fn.body = some c) (hn : (fn.name == "runtime.NumGoroutine") = false) (args : Array Value) (W : World) :
    (callFunc f args).run P W = .ok (.enter f args) W := by
  have hn' : ¬ fn.name = "runtime.NumGoroutine" := by simpa using hn
  simp [callFunc, program, Sem.run, hf, hn', hb]

theorem call_ok {kn : Kn} (hkn : KnOK P kn) {ih : Task → Out} (hK : CodeOK P base ih) : CallOK P base (step P kn ih) := by
  intro f args A v A1 he σ W args' h ha fr0 cs W0 fr s hd hr ht
  replace he : callStep P kn f ih args A (kn.kn f args) = .val v A1 := he
  cases hq : kn.kn f args with
  | some u =>
    rw [hq] at he
    simp [callStep] at he; obtain ⟨rfl, rfl⟩ := he
    obtain ⟨c1, c2, _, c3, c4⟩ := hkn.kn f args u hq
    have : args' = args := ha.eq_of_closed c1
    subst this
    rw [c3] at hr
    obtain ⟨e, W1, fr1, ⟨rfl, hs, hh⟩, hc, hfn, hl⟩ := c4 W (fr :: cs)
    obtain ⟨g1, g2⟩ := h.grow hs hh.1 hh.2
    exact ⟨σ, W1, u, g1, g2, closed_VR σ u c2, .head (does_enter hd ht hr) (Steps.trans hc (.one (step_leave_returned hl)))⟩
  | none =>
    rw [hq] at he
    simp only [callStep] at he
    cases hkm : kn.km f args A with
    | some w =>
      obtain ⟨u, Au⟩ := w
      rw [hkm] at he
      simp [kmStep] at he; obtain ⟨rfl, rfl⟩ := he
      obtain ⟨⟨fn, c, f1, f2, f3⟩, hk⟩ := hkn.km f args A _ _ hkm
      obtain ⟨e, W1, fr1, ⟨σ1, v', rfl, g1, g2, g3⟩, hc, hfn, hl⟩ := hk base σ W args' h ha (fr :: cs)
      rw [run_callFunc_enter f1 f2 f3] at hr
      exact ⟨σ1, W1, v', g1, g2, g3, .head (does_enter hd ht hr) (Steps.trans hc (.one (step_leave_returned hl)))⟩
    | none =>
    rw [hkm] at he
    simp only [kmStep] at he
    unfold fnStep at he
    cases hf : P.funcs[f]? with
    | none => simp [hf] at he
    | some fn =>
    simp only [hf] at he
    cases hb : fn.body with
    | some c =>
      simp only [hb] at he
      cases hn : (fn.name == "runtime.NumGoroutine") with
      | true => simp [hn] at he
      | false =>
      simp only [hn] at he
      obtain ⟨σ1, W1, v', h1, h2, h3, h4⟩ := body_ok hK hf hb he h ha fr cs
      rw [run_callFunc_enter hf hb hn] at hr
      exact ⟨σ1, W1, v', h1, h2, h3, .head (does_enter hd ht hr) h4⟩
    | none =>
      simp only [hb] at he
      unfold extCall at he
      cases hmz : Nat.beq f kn.mz with
      | true =>
        rw [hmz] at he
        simp only [cond_true] at he
        obtain rfl := Nat.eq_of_beq_eq_true hmz
        split at he <;> try (simp at he; done)
        rename_i k
        cases hk : Nat.ble k (2 ^ 40) with
        | false => rw [hk] at he; simp at he
        | true =>
        rw [hk] at he
        simp at he; obtain ⟨rfl, rfl⟩ := he
        have hk := Nat.le_of_ble_eq_true hk
        have : args' = [.int .i64 (.ofNat k)] := ha.eq_of_closed rfl
        subst this
        obtain ⟨cap, cells, W1, q1, q2, q3, q4, q5⟩ := hkn.mz fn hf hb k W hk
        rw [show (callFunc kn.mz ⟨[.int .i64 (.ofNat k)]⟩).run P W = _ from q1] at hr
        have hnew := h.new (hr := q5) (o := .cells .leaf k [] 1 kn.u8 (0, 0)) (o' := .cells cells kn.u8) (m := ⟨W.heap.size, 0, cap, 1⟩) (W1 := W1) q2 rfl
          ⟨cells, _, rfl, q3, rfl, by simpa using q4, by omega, fun i u _ hu => by
            rcases cellF_lt hu with hu | ⟨_, hu⟩
            · simp [T.get_leaf] at hu
            · simp [nth] at hu, fun _ => rfl, fun i _ i2 => by simp at i2, fun _ => rfl, .inr (Nat.le_refl _)⟩
        exact ⟨_, W1, _, hnew.1, hnew.2, .slice (Sg.add_at _ _ _) (Nat.le_refl _) q4 (.inr (by simp)) (.inl rfl), .one (does_value hd hr)⟩
      | false =>
      rw [hmz] at he
      simp only [cond_false] at he
      cases hne : Nat.beq f kn.ne with
      | true =>
        rw [hne] at he
        simp only [cond_true] at he
        obtain rfl := Nat.eq_of_beq_eq_true hne
        split at he <;> try (simp at he; done)
        rename_i x
        simp at he; obtain ⟨rfl, rfl⟩ := he
        obtain ⟨x', _, rfl, hx, ha⟩ := ha.snoc_inv
        cases ha
        rw [hkn.ne fn hf hb] at hr
        exact ⟨σ, W, x', h, Ext.refl _ _ _, hx, .one (does_value hd hr)⟩
      | false =>
      rw [hne] at he
      simp only [cond_false] at he
      cases hcl : closedVs args with
      | false => rw [hcl] at he; simp at he
      | true =>
      rw [hcl] at he
      simp only [cond_true] at he
      split at he <;> try (simp at he; done)
      rename_i u hu
      cases hcu : closedV u with
      | false => rw [hcu] at he; simp at he
      | true =>
      rw [hcu] at he
      simp at he; obtain ⟨rfl, rfl⟩ := he
      have : args' = args := ha.eq_of_closed hcl
      subst this
      rw [pureRun_run _ _ hu W] at hr
      exact ⟨σ, W, u, h, Ext.refl _ _ _, closed_VR σ u hcu, .one (does_value hd hr)⟩

end Go.Eng
