/- Part of an abstract machine that runs the program's code in Lean's kernel, and of the proof that what it answers every run of the model answers (Go.Eng; program-independent). No condition. -/
import Derived.Test.YtdafgjfijdijlaaGreatDoorE14
namespace Go.Eng
open Go

variable {P : Program} {base : Nat} {σ : Sg} {A : AS} {W : World} {t : T Value} {n : Nat} {a : Act}

/-- The run of a call, its function value and arguments at hand. -/
def callRun (P : Program) (f : Value) (args : List Value) (W : World) : Result Next := (do let d ← Deferred.ofValue f ⟨args⟩; invoke d.target d.args : Sem Next).run P W

theorem ofValue_func (fn : Fn) (x y l : List Value) : Deferred.ofValue (.func fn ⟨x⟩ ⟨y⟩) ⟨l⟩ = pure { target := .fn fn ⟨y⟩, args := ⟨x ++ l⟩ } := by
  simp only [Deferred.ofValue]; congr 2; apply Array.toList_inj.1; simp

theorem run_callMethod {ty : TypeId} {v : Value} {name : String} {g : FuncId} {r : Value} (h : (method (P.types.size + Made.depth) ty v name).run P W = .ok (g, r) W) (rest : List Value) :
    (callMethod (.iface ty v) name ⟨rest⟩).run P W = (callFunc g ⟨r :: rest⟩).run P W := by
  simp only [callMethod, program, Sem.run_bind, Sem.run, Result.andThen_ok, h, Sem.run_pure]
  congr 2
  apply Array.toList_inj.1; simp

theorem target_sound {f f' : Value} {args args' : List Value} {r : ANext} {A1 : AS} (h : R P base σ A W) (hf : VR σ f f') (ha : VRs σ args args') (e : aTarget P f args A = some (r, A1)) :
    OpSim P base σ A W (callRun P f' args' W) r A1 := by
  unfold aTarget at e
  split at e <;> try (simp at e; done)
  · rename_i g first cap
    simp at e; obtain ⟨rfl, rfl⟩ := e
    cases hf with
    | atom q => simp [atomV] at q
    | @func _ x y x' y' hno hx hy =>
    refine ⟨x' ++ args' ++ y', ?_, by simpa using (hx.append ha).append hy, rfl⟩
    simp only [callRun, ofValue_func, Sem.run_bind, Sem.run_pure, Result.andThen_ok, invoke]
    congr 2
    apply Array.toList_inj.1; simp
  · rename_i l first cap
    simp at e; obtain ⟨rfl, rfl⟩ := e
    cases hf with
    | atom q => simp [atomV] at q
    | func hno => exact absurd rfl (hno _)
    | @yield _ m hm =>
    exact ⟨m, args', hm, by simp [callRun, Deferred.ofValue, invoke], by simpa using ha, rfl⟩
  · rename_i name first cap
    split at e <;> try (simp at e; done)
    rename_i ty v rest hl
    split at e <;> try (simp at e; done)
    rename_i g rv hm
    simp at e; obtain ⟨rfl, rfl⟩ := e
    cases hf with
    | atom q => simp [atomV] at q
    | @func _ x y x' y' hno hx hy =>
    have hall := hx.append ha
    simp only at hl
    rw [hl] at hall
    obtain ⟨w', rest', hw, hv, hr⟩ := hall.snoc_inv
    cases hv with
    | atom q => simp [atomV] at q
    | @iface _ _ v' hv =>
    obtain ⟨rv', q1, q2⟩ := method_sound hv hm W (P.types.size + 99)
    refine ⟨rv' :: rest', ?_, .cons q2 hr, rfl⟩
    simp only [callRun, ofValue_func, Sem.run_bind, Sem.run_pure, Result.andThen_ok, invoke]
    rw [hw]
    have : ((⟨.iface ty v' :: rest'⟩ : Array Value)[0]?) = some (.iface ty v') := rfl
    simp only [this]
    have h2 : (⟨.iface ty v' :: rest'⟩ : Array Value).extract 1 (⟨.iface ty v' :: rest'⟩ : Array Value).size = ⟨rest'⟩ := by
      apply Array.toList_inj.1; simp
    rw [h2]
    exact run_callMethod q1 rest'

theorem map_args (c : Array Operand) (f : Operand → Value) : c.map f = ⟨c.toList.map f⟩ := by apply Array.toList_inj.1; simp

theorem BSim.op {run : Result Next} {v : Value} {A1 : AS} (h : BSim P base σ A W run v A1) : OpSim P base σ A W run (.value v) A1 := by
  obtain ⟨σ1, W1, v', a, b, c, d⟩ := h
  exact ⟨σ1, W1, v', .inl a, b, c, d⟩

theorem call_sound {o : Oper} {c : Call} {r : ANext} {A1 : AS} (ho : o.op = .call c) (h : R P base σ A W) (ht : TR σ t n a.tmps) (e : xCall P o c t A = some (r, A1)) :
    OpSim P base σ A W ((execOp a.eval o).run P W) r A1 := by
  cases hcal : c.callee with
  | builtin b =>
    have hb := hcal
    simp only [xCall, hcal] at e
    unfold xBuiltin builtinV at e
    split at e <;> try (simp at e; done)
    rename_i args hargs
    have ha := evals_sound h ht hargs
    have hrun : (execOp a.eval o).run P W = (builtin b c.argTypes o.type (c.args.map fun | .const _ => true | _ => false) ⟨c.args.toList.map a.eval⟩).run P W := by
      simp only [execOp, ho, resolve, hb, Sem.run_bind, Sem.run_pure, Result.andThen_ok, invoke, map_args]
      rfl
    split at e
    · rename_i v hv
      simp at e; obtain ⟨rfl, rfl⟩ := e
      rw [hrun]
      exact (fastBuiltin_sound h ha hv _ _).op
    · split at e
      · rename_i q hq
        simp at e; subst e
        exact pure_sound (by rw [ho]; simp) h ht hq
      · obtain ⟨v, rfl, hB⟩ := aBuiltin_sound h ha e o.type (c.args.map fun | .const _ => true | _ => false)
        rw [hrun]
        exact hB.op
  | value f =>
    have hf := hcal
    simp only [xCall, hcal] at e
    unfold xCallV callV at e
    split at e <;> try (simp at e; done)
    rename_i fv args hfv hargs
    have := target_sound h (eval_sound h ht hfv) (evals_sound h ht hargs) e
    have hrun : (execOp a.eval o).run P W = callRun P (a.eval f) (c.args.toList.map a.eval) W := by
      simp only [execOp, ho, resolve, hf, callRun, map_args]
    rw [hrun]; exact this
  | invoke recv name =>
    have hf := hcal
    simp only [xCall, hcal] at e
    unfold xInvoke invokeV at e
    split at e <;> try (simp at e; done)
    rename_i ty v args hr hargs
    split at e <;> try (simp at e; done)
    rename_i g rv hm
    simp at e; obtain ⟨rfl, rfl⟩ := e
    have hv := eval_sound h ht hr
    have ha := evals_sound h ht hargs
    generalize hw : a.eval recv = w at hv
    cases hv with
    | atom q => simp [atomV] at q
    | @iface _ _ v' hv =>
    obtain ⟨rv', q1, q2⟩ := method_sound hv hm W (P.types.size + 99)
    refine ⟨rv' :: c.args.toList.map a.eval, ?_, .cons q2 ha, rfl⟩
    simp only [execOp, ho, resolve, hf, hw, Sem.run_bind, Sem.run_pure, Result.andThen_ok, invoke, map_args]
    have : ((#[Value.iface ty v'] ++ (⟨c.args.toList.map a.eval⟩ : Array Value))[0]?) = some (.iface ty v') := by simp
    simp only [this]
    have h2 : (#[Value.iface ty v'] ++ (⟨c.args.toList.map a.eval⟩ : Array Value)).extract 1 (#[Value.iface ty v'] ++ (⟨c.args.toList.map a.eval⟩ : Array Value)).size = ⟨c.args.toList.map a.eval⟩ := by
      apply Array.toList_inj.1; simp [List.take_of_length_le]
    rw [h2]
    exact run_callMethod q1 _

/-- EVERY OPERATION: what the abstract machine answers, the model answers. -/
theorem aOp_sound {o : Oper} {r : ANext} {A1 : AS} (h : R P base σ A W) (ht : TR σ t n a.tmps) (e : aOp P o t A = some (r, A1)) :
    OpSim P base σ A W ((execOp a.eval o).run P W) r A1 := by
  cases ho : o.op with
  | move x => simp only [aOp, ho] at e; have := move_sound h ht e; rw [show (execOp a.eval o).run P W = .ok (.value (a.eval x)) W by simp [execOp, ho]]; exact this
  | assign x => simp only [aOp, ho] at e; have := move_sound h ht e; rw [show (execOp a.eval o).run P W = .ok (.value (a.eval x)) W by simp [execOp, ho]]; exact this
  | pick c x y => simp only [aOp, ho] at e; have := pick_sound h ht e; simpa only [execOp, ho] using this
  | alloc ty => simp only [aOp, ho] at e; have := alloc_sound h e; simpa only [execOp, ho] using this
  | box ty x => simp only [aOp, ho] at e; have := box_sound h ht e; simpa only [execOp, ho] using this
  | build ty ps => simp only [aOp, ho] at e; have := build_sound h ht e; simpa only [execOp, ho] using this
  | buildSlice ty k ps => simp only [aOp, ho] at e; have := buildSlice_sound h ht e; simpa only [execOp, ho] using this
  | load ty x => simp only [aOp, ho] at e; have := xload_sound h ht e; simpa only [execOp, ho] using this
  | store ty x y => simp only [aOp, ho] at e; have := xstore_sound h ht e; simpa only [execOp, ho] using this
  | nilCheck x => simp only [aOp, ho] at e; exact nil_sound ho h ht e
  | binOp op ty x y yt => simp only [aOp, ho] at e; exact bin_sound ho h ht e
  | makeInterface ty x => simp only [aOp, ho] at e; have := iface_sound h ht e; simpa only [execOp, ho] using this
  | makeFunc fn x y => simp only [aOp, ho] at e; have := makeFunc_sound h ht e; simpa only [execOp, ho] using this
  | makeMap ty r =>
    cases r with
    | none => simp only [aOp, ho] at e; have := makeMap_sound (t := t) (ty := ty) h e; simpa only [execOp, ho, Option.map_none] using this
    | some x => simp only [aOp, ho] at e; exact pure_sound (by rw [ho]; simp) h ht e
  | makeSlice ty x y => simp only [aOp, ho] at e; have := makeSlice_sound h ht e; simpa only [execOp, ho] using this
  | slice ty x lo hi mx => simp only [aOp, ho] at e; exact slice_sound ho h ht e
  | fieldAddr s x f => simp only [aOp, ho] at e; have := field_sound h ht e; simpa only [execOp, ho] using this
  | field s x f => simp only [aOp, ho] at e; exact fieldOf_sound ho h ht e
  | indexAddr ty x ix => simp only [aOp, ho] at e; have := index_sound h ht e; simpa only [execOp, ho] using this
  | lookup ty x ix ok => simp only [aOp, ho] at e; have := lookup_sound h ht e; simpa only [execOp, ho] using this
  | mapUpdate ty m k x => simp only [aOp, ho] at e; have := mapUpdate_sound h ht e; simpa only [execOp, ho] using this
  | extract x i => simp only [aOp, ho] at e; have := extract_sound h ht e; simpa only [execOp, ho] using this
  | typeAssert x xt ty ok => simp only [aOp, ho] at e; have := assert_sound (xty := xt) h ht e; simpa only [execOp, ho] using this
  | convert src dst x => simp only [aOp, ho] at e; exact convert_sound ho h ht e
  | call c => simp only [aOp, ho] at e; exact call_sound ho h ht e
  | index ty x ix => simp only [aOp, ho] at e; exact indexStr_sound ho h ht e
  | unOp op ty x => simp only [aOp, ho] at e; exact not_sound ho h ht e
  | select cs b => simp [aOp, ho] at e
  | defer c => simp [aOp, ho] at e
  | go c => simp [aOp, ho] at e
  | _ => simp only [aOp, ho] at e; exact pure_sound (by rw [ho]; simp) h ht e

end Go.Eng
