/- Part of an abstract machine that runs the program's code in Lean's kernel, and of the proof that what it answers every run of the model answers (Go.Eng; program-independent). No condition. -/
import Derived.Test.YtdafgjfijdijlaaGreatDoorE27
namespace Go.Eng
open Go

variable {P : Program} {base : Nat} {σ : Sg} {A : AS} {W : World}

/-- What a call of a function comes to, whoever called. -/
theorem body_leaves {ih : Task → Out} (hK : CodeOK P base ih) {f : FuncId} {fn : Func} {c : Code} {args args' : List Value} {v : Value} {A1 : AS} (hf : P.funcs[f]? = some fn) (hb : fn.body = some c)
    (e : callDone P fn.results.toList (ih (.code c ⟨T.setAll .leaf 0 args, args.length + (fn.ntmps - args.length), [], none⟩ A)) = .val v A1) (h : R P base σ A W) (ha : VRs σ args args') (cs : List Frame) :
    ∃ σ1 W1 v', R P base σ1 A1 W1 ∧ Ext A σ W A1 σ1 W1 ∧ VR σ1 v v' ∧ ∃ frL : Frame, Steps P (lone (Frame.enter P f ⟨args'⟩ .normal) cs W) (lone frL cs W1) ∧ frL.fn = f ∧ frL.leaving P W1 (.returned v') := by
  have hlen := ha.length
  let b : Frame := { (default : Frame) with fn := f, kind := .normal }
  have henter : Frame.enter P f ⟨args'⟩ .normal = atR b (⟨args'⟩ ++ Array.replicate (fn.ntmps - args'.length) undef) [] [.code c] := by
    simp [Frame.enter, atR, hf, hb, b]; rfl
  have htr : TR σ (T.setAll .leaf 0 args) (args.length + (fn.ntmps - args.length)) (⟨args'⟩ ++ Array.replicate (fn.ntmps - args'.length) undef) := by
    refine ⟨by simp [hlen], fun i u hu => ?_⟩
    have key : ∀ (l : List Value) (t : T Value) (j i : Nat) (u : Value), (T.setAll t j l).get i = some u → (j ≤ i ∧ l[i - j]? = some u) ∨ t.get i = some u := by
      intro l
      induction l with
      | nil => intro t j i u hu; exact .inr hu
      | cons x l ih =>
        intro t j i u hu
        rcases ih (t.set j x) (j + 1) i u hu with ⟨q1, q2⟩ | q
        · exact .inl ⟨by omega, by rw [show i - j = (i - (j + 1)) + 1 by omega]; simpa using q2⟩
        · rcases T.set_get _ _ _ _ _ q with ⟨rfl, rfl⟩ | ⟨_, q⟩
          · exact .inl ⟨Nat.le_refl _, by simp⟩
          · exact .inr q
    rcases key _ _ _ _ _ hu with ⟨_, q⟩ | q
    · obtain ⟨u', q1, q2⟩ := ha.get i u (by simpa using q)
      refine ⟨u', ?_, q2⟩
      have hi := (List.getElem?_eq_some_iff.1 q1).1
      rw [Array.getElem?_append_left (by simpa using hi)]
      simpa using q1
    · simp [T.get_leaf] at q
  unfold callDone at e
  cases hq : ih (.code c ⟨T.setAll .leaf 0 args, args.length + (fn.ntmps - args.length), [], none⟩ A) with
  | val u A2 => rw [hq] at e; simp at e
  | none => rw [hq] at e; simp at e
  | code e2 F A2 =>
    rw [hq] at e
    obtain ⟨σ1, W1, tm1, ds1, h1, h2, h3, h4, h5, h6⟩ := hK _ _ _ _ _ _ hq σ W _ [] h htr .nil b [] cs trivial
    have hend : callEnd P fn.results.toList F (closeAll F.ds A2) = .val v A1 := by cases e2 <;> first | exact e | simp at e
    unfold callEnd at hend
    cases hcl : closeAll F.ds A2 with
    | none => rw [hcl] at hend; simp at hend
    | some A3 =>
    rw [hcl] at hend
    simp only at hend
    cases hrs : aResults P F A3 fn.results.toList with
    | none => rw [hrs] at hend; simp [resVal] at hend
    | some vs =>
    rw [hrs] at hend
    -- the frame that returns
    have hret : ∃ k, Steps P (lone (Frame.enter P f ⟨args'⟩ .normal) cs W) (lone { atR b tm1 ds1 k with mode := .returning } cs W1) := by
      rw [henter]
      cases e2 with
      | normal => exact ⟨[], h6.trans (.one (st_leave_end rfl))⟩
      | ret => obtain ⟨k', q⟩ := h6; exact ⟨_, q.trans (.one (st_leave_ret rfl))⟩
      | exit id => simp at e
    obtain ⟨k, hret⟩ := hret
    obtain ⟨W3, k1, k2, k3⟩ := close_ok (b := b) (tm := tm1) (k := k) (cs := cs) h5 hcl h1
    obtain ⟨vs', r1, r2⟩ := results_ok k1 (h3.mono k2.le) (fun | .tmp t => pure (tm1.getD t undef) | .cell x ty => do loadVar ty (← asAddr (tm1.getD x undef))) (fun _ => rfl) (fun _ _ => rfl) hrs
    have hv : ∃ v', VR σ1 v v' ∧ A1 = A3 ∧ (results fn tm1).run P W3 = .ok v' W3 := by
      have hrun : (results fn tm1).run P W3 = .ok (if hh : (⟨vs'⟩ : Array Value).size = 1 then (⟨vs'⟩ : Array Value)[0] else .tuple ⟨vs'⟩) W3 := by
        have hres : results fn tm1 = (do
            let vs ← fn.results.mapM (fun | .tmp t => pure (tm1.getD t undef) | .cell x ty => do loadVar ty (← asAddr (tm1.getD x undef)) : ResultVar → Sem Value)
            pure (if h : vs.size = 1 then vs[0] else .tuple vs)) := rfl
        rw [hres, Sem.run_bind, Array.mapM_eq_mapM_toList, Sem.run_map, r2]
        rfl
      cases r1 with
      | nil => simp [resVal] at hend; obtain ⟨rfl, rfl⟩ := hend; exact ⟨.tuple #[], .tuple .nil, rfl, by rw [hrun]; rfl⟩
      | cons x y =>
        cases y with
        | nil => simp [resVal] at hend; obtain ⟨rfl, rfl⟩ := hend; exact ⟨_, x, rfl, by rw [hrun]; rfl⟩
        | cons y z => simp [resVal] at hend; obtain ⟨rfl, rfl⟩ := hend; exact ⟨_, .tuple (.cons x (.cons y z)), rfl, by rw [hrun]; simp⟩
    obtain ⟨v', v1, rfl, v2⟩ := hv
    exact ⟨σ1, W3, v', k1, h2.trans k2, v1, { atR b tm1 [] k with mode := .returning }, hret.trans k3, rfl, rfl, rfl, rfl, fn, hf, v2⟩

theorem ev_succ {kn : Kn} (n : Nat) (k : Task) : ev P kn (n + 1) k = step P kn (ev P kn n) k := rfl

/-- The abstract machine's word. -/
theorem ev_ok {kn : Kn} (hkn : KnOK P kn) (hm : P.follows .mixedOrders = true) : ∀ n, CodeOK P base (ev P kn n) ∧ CallOK P base (ev P kn n) ∧ YieldOK P base (ev P kn n)
  | 0 => ⟨fun _ _ _ _ _ _ he => (by cases he), fun _ _ _ _ _ he => (by cases he), fun _ _ _ _ _ he => (by cases he)⟩
  | n + 1 => by
    obtain ⟨h1, h2, h3⟩ := ev_ok hkn hm n
    exact ⟨code_ok h1 h2 h3 (draw_ok h2 h3 hm) (range_ok h1 h2), call_ok hkn h1, yield_ok h1⟩

/-- A call of a function of the program, as the abstract machine answers it. -/
theorem ev_calls {kn : Kn} (hkn : KnOK P kn) (hm : P.follows .mixedOrders = true) {n : Nat} {f : FuncId} {fn : Func} {c : Code} {args : List Value} {v : Value} {A1 : AS} (hf : P.funcs[f]? = some fn) (hb : fn.body = some c) (hnn : (fn.name == "runtime.NumGoroutine") = false)
    (hk : kn.kn f args = none) (e : ev P kn (n + 1) (.call f args A) = .val v A1) {args' : List Value} (h : R P base σ A W) (ha : VRs σ args args') :
    Calls P f ⟨args'⟩ W fun en W1 => ∃ σ1 v', en = .returned v' ∧ R P base σ1 A1 W1 ∧ Ext A σ W A1 σ1 W1 ∧ VR σ1 v v' := by
  intro cs
  have e2 : callStep P kn f (ev P kn n) args A (kn.kn f args) = .val v A1 := e
  rw [hk] at e2
  simp only [callStep] at e2
  cases hkm : kn.km f args A with
  | some w =>
    obtain ⟨u, Au⟩ := w
    rw [hkm] at e2
    simp [kmStep] at e2; obtain ⟨rfl, rfl⟩ := e2
    exact (hkn.km f args A _ _ hkm).2 base σ W args' h ha cs
  | none =>
  rw [hkm] at e2
  simp only [kmStep] at e2
  unfold fnStep at e2
  simp only [hf, hb, hnn] at e2
  obtain ⟨σ1, W1, v', h1, h2, h3, frL, h4, h5, h6⟩ := body_leaves (ev_ok hkn hm n).1 hf hb e2 h ha cs
  exact ⟨.returned v', W1, frL, ⟨σ1, v', rfl, h1, h2, h3⟩, h4, h5, h6⟩

end Go.Eng
