/- Part of an abstract machine that runs the program's code in Lean's kernel, and of the proof that what it answers every run of the model answers (Go.Eng; program-independent). No condition. -/
import Derived.Test.YtdafgjfijdijlaaGreatDoorE28
namespace Go.Eng
open Go

variable {P : Program}

/-! Answers that the abstract machine itself gives, with no memory at hand: they hold in any. -/
def okVal (v : Value) : Out → Bool
  | .val u _ => beqV u v
  | _ => false
def fnGood (P : Program) (f : FuncId) : Bool := match P.funcs[f]? with
  | some fn => fn.body.isSome && !(fn.name == "runtime.NumGoroutine")
  | none => false
noncomputable def bare (P : Program) : AS := ⟨.leaf, P.globals.size, 0⟩

theorem fnGood_spec {f : FuncId} (h : fnGood P f = true) : ∃ fn c, P.funcs[f]? = some fn ∧ fn.body = some c ∧ (fn.name == "runtime.NumGoroutine") = false := by
  unfold fnGood at h
  split at h
  · rename_i fn hf
    simp only [Bool.and_eq_true, Bool.not_eq_true'] at h
    obtain ⟨c, hc⟩ := Option.isSome_iff_exists.1 h.1
    exact ⟨fn, c, hf, hc, h.2⟩
  · simp at h

theorem bare_R (W : World) : R P 0 (fun g => if g < P.globals.size then some ⟨g, 0, 0, 0⟩ else none) (bare P) W := by
  refine ⟨fun b o m e => ?_, fun b b' m m' e => ?_, fun b hb => ?_, fun g hg => ⟨_, if_pos hg, rfl, rfl⟩, fun _ _ _ _ => Nat.zero_le _, fun b m _ hb => absurd hb (Nat.not_lt_zero _), Nat.zero_le _, Nat.zero_le _, fun b hb => by simp [bare, T.get_leaf] at hb⟩
  · simp [bare, T.get_leaf] at e
  · simp [bare, T.get_leaf] at e
  · have : ¬ b < P.globals.size := by simpa [bare] using hb
    simp [this]

theorem entry_ok {kn : Kn} (hkn : KnOK P kn) (hm : P.follows .mixedOrders = true) {f : FuncId} {args : List Value} {v : Value} {N : Nat} (hc : closedVs args = true) (hv : closedV v = true) (hf : fnGood P f = true) (hk : kn.kn f args = none)
    (e : okVal v (ev P kn (N + 1) (.call f args (bare P))) = true) :
    closedVs args = true ∧ closedV v = true ∧ (∃ fn c, P.funcs[f]? = some fn ∧ fn.body = some c) ∧ (∀ W, (callFunc f ⟨args⟩).run P W = .ok (.enter f ⟨args⟩) W) ∧
    ∀ W, Calls P f ⟨args⟩ W fun e W1 => e = .returned v ∧ W.heap.size ≤ W1.heap.size ∧ (∀ c, c < W.heap.size → W1.heap[c]? = W.heap[c]?) ∧ Rest W W1 := by
  obtain ⟨fn, c, h1, h2, h3⟩ := fnGood_spec hf
  refine ⟨hc, hv, ⟨fn, c, h1, h2⟩, fun W => run_callFunc_enter h1 h2 h3 _ W, fun W => ?_⟩
  cases hq : ev P kn (N + 1) (.call f args (bare P)) with
  | code a b c => rw [hq] at e; simp [okVal] at e
  | none => rw [hq] at e; simp [okVal] at e
  | val u A1 =>
    rw [hq] at e
    have hu := beqV_eq _ _ e
    subst hu
    refine (ev_calls hkn hm h1 h2 h3 hk hq (bare_R W) (closed_VRs _ args hc)).mono fun en W1 ⟨σ1, v', he, _, hE, hvv⟩ => ?_
    rw [hvv.eq_of_closed hv] at he
    refine ⟨he, hE.size, fun c hc => hE.frame c hc ?_, hE.rest⟩
    rintro ⟨b, m, q, _⟩
    simp [bare, T.get_leaf] at q

/-- A table of such answers, looked up. -/
def look : List (List Value × Value) → List Value → Option Value
  | [], _ => none
  | x :: l, a => bif beqVs x.1 a then some x.2 else look l a
theorem look_mem : ∀ (l : List (List Value × Value)) (a : List Value) (v : Value), look l a = some v → (a, v) ∈ l
  | [], a, v, h => by simp [look] at h
  | x :: l, a, v, h => by
    simp only [look] at h
    cases hb : beqVs x.1 a with
    | true =>
      rw [hb] at h; simp at h
      have := beqVs_eq _ _ hb
      obtain ⟨x1, x2⟩ := x
      simp at this h
      subst this h
      simp
    | false => rw [hb] at h; simp at h; exact List.mem_cons_of_mem _ (look_mem l a v h)
/-- Is a table right? -/
noncomputable def tabOk (P : Program) (kn : Kn) (N : Nat) (f : FuncId) (l : List (List Value × Value)) : Bool :=
  fnGood P f && l.all fun x => closedVs x.1 && closedV x.2 && (kn.kn f x.1).isNone && okVal x.2 (ev P kn (N + 1) (.call f x.1 (bare P)))
theorem tab_ok {kn : Kn} (hkn : KnOK P kn) (hm : P.follows .mixedOrders = true) {f : FuncId} {l : List (List Value × Value)} {N : Nat} (h : tabOk P kn N f l = true) {args : List Value} {v : Value} (e : look l args = some v) :
    closedVs args = true ∧ closedV v = true ∧ (∃ fn c, P.funcs[f]? = some fn ∧ fn.body = some c) ∧ (∀ W, (callFunc f ⟨args⟩).run P W = .ok (.enter f ⟨args⟩) W) ∧
    ∀ W, Calls P f ⟨args⟩ W fun e W1 => e = .returned v ∧ W.heap.size ≤ W1.heap.size ∧ (∀ c, c < W.heap.size → W1.heap[c]? = W.heap[c]?) ∧ Rest W W1 := by
  unfold tabOk at h
  simp only [Bool.and_eq_true] at h
  have := List.all_eq_true.1 h.2 _ (look_mem _ _ _ e)
  simp only [Bool.and_eq_true] at this
  exact entry_ok hkn hm this.1.1.1 this.1.1.2 h.1 (by simpa using this.1.2) this.2

end Go.Eng
