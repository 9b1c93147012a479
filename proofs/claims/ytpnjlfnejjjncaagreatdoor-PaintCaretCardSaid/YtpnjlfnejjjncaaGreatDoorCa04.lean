/- Part of an abstract machine that runs the program's code in Lean's kernel, and of the proof that what it answers every run of the model answers (Go.Eng; program-independent). No condition. -/
import Derived.Test.YtpnjlfnejjjncaaGreatDoorCa03
import Derived.OpenShut
import Derived.Handed
import Derived.LaidMore
import Derived.MakeChecks
import Derived.Stop.Joined
set_option linter.unusedVariables false
set_option linter.unusedSimpArgs false
set_option linter.unusedSectionVars false
namespace Go.Eng
open Go
variable [Env]

/-! errors.As at a pointer's type, as a known call: out of a contract by hand. -/
variable {P : Program} {base : Nat} {σ σ1 : Sg} {A : AS} {W W1 : World}

/-- Holds the cell just this? -/
noncomputable def cellIs (A : AS) (b i : Nat) (v : Value) : Bool := match A.h.get b with
  | some (.cells t size z _ _ _) => Nat.blt i size && (match cellF t z i with | some x => beqV x v | none => false)
  | _ => false
theorem cellIs_spec {b i : Nat} {v : Value} {m : Im} (h : R P base σ A W) (hm : σ b = some m) (e : cellIs A b i v = true) : ∃ v', W.cell? ⟨m.c, i + m.δ, none⟩ = some v' ∧ VR σ v v' := by
  unfold cellIs at e
  split at e <;> try (simp at e; done)
  rename_i t size z u ty fz hg
  simp only [Bool.and_eq_true] at e
  obtain ⟨e1, e2⟩ := e
  have e1 : i < size := Nat.le_of_ble_eq_true e1
  split at e2 <;> try (simp at e2; done)
  rename_i x hx
  obtain rfl := beqV_eq _ _ e2
  obtain ⟨o', q1, c, fz', rfl, _, _, _, _, hcell, _⟩ := h.live b _ m hg hm
  obtain ⟨v', q2, q3⟩ := hcell i x e1 hx
  exact ⟨v', by simpa [World.cell?, q1] using q2, q3⟩

/-- One cell, written: it is there, and it is not frozen. -/
theorem put1_sound {b off : Nat} {m : Im} {v v' : Value} {A1 : AS} (h : R P base σ A W) (hb : σ b = some m) (hv : VR σ v v') (hp : aPutCells b off [v] A = some A1) :
    (∃ old, W.cell? ⟨m.c, off + m.δ, none⟩ = some old) ∧ W.frozen? ⟨m.c, off + m.δ, none⟩ = false ∧
    R P base σ A1 (W.setCell ⟨m.c, off + m.δ, none⟩ v') ∧ Ext A σ W A1 σ (W.setCell ⟨m.c, off + m.δ, none⟩ v') := by
  have hp0 := hp
  unfold aPutCells at hp
  split at hp <;> try (simp at hp; done)
  rename_i tr size z u e fz hg
  cases hcond : (Nat.ble A.lo b && Nat.ble (off + [v].length) size && thawed fz off [v].length && [v].all oneCell) with
  | false => rw [hcond] at hp; simp at hp
  | true =>
    simp only [Bool.and_eq_true] at hcond
    obtain ⟨⟨⟨hlo, hsz⟩, hth⟩, hone⟩ := hcond
    have hsz' := Nat.le_of_ble_eq_true hsz
    simp only [List.length_cons, List.length_nil] at hsz' hth
    obtain ⟨o', e1, c, fz', rfl, hN, hu, hle, h60, hcell, hz0, hfz, hδ⟩ := h.live b _ m hg hb
    have hlt : off + m.δ < c.size := by omega
    have hc : W.cell? ⟨m.c, off + m.δ, none⟩ = some c[off + m.δ] := by simp [World.cell?, e1, hlt]
    have hz : W.frozen? ⟨m.c, off + m.δ, none⟩ = false := by
      have := thawed_spec hth hz0 hfz 0 (by omega)
      obtain ⟨lo, hi⟩ := fz'
      simp only [World.frozen?, e1]
      simp at this ⊢
      exact this
    refine ⟨⟨_, hc⟩, hz, ?_⟩
    have h1' : oneCell v' = true := by
      have := (VRs.cons hv .nil).all_oneCell
      simpa [hone] using this.trans hone
    have hst : (store ⟨m.c, off + m.δ, none⟩ v').run P W = .ok () (W.setCell ⟨m.c, off + m.δ, none⟩ v') := by
      cases v' <;> first | (simp [oneCell] at h1'; done) | simp [store, Sem.run, hc, hz]
    obtain ⟨W1, r1, r2⟩ := putCells_sound h hb (.cons hv .nil) hp0
    have : (storeCells ⟨m.c, off + m.δ, none⟩ [v']).run P W = .ok () (W.setCell ⟨m.c, off + m.δ, none⟩ v') := by
      have ha : (⟨m.c, off + m.δ, none⟩ : Addr).add 0 = ⟨m.c, off + m.δ, none⟩ := by simp [Addr.add]
      simp only [storeCells, Sem.run_bind, ha, hst, Result.andThen_ok, Sem.run_pure]
    rw [this] at r1
    obtain rfl := (Result.ok.inj r1).2
    exact r2

/-- errors.As(err, &target): err nil, or of the target's own pointer type. eT: the error's type; pT: the target pointer's; g, hv: the variable that holds error's type, and what it holds. -/
noncomputable def kmAs (eT pT g : Nat) (hv : Value) (args : List Value) (A : AS) : Option (Value × AS) := match args with
  | [.nilIface, _] => some (.bool false, A)
  | [.iface t1 (.pointer (some ⟨b, o, none⟩)), .iface t2 (.pointer (some ⟨b2, o2, none⟩))] =>
    bif Nat.beq t1 eT && Nat.beq t2 pT && cellIs A g 0 hv then (match aPutCells b2 o2 [.pointer (some ⟨b, o, none⟩)] A with
      | some A1 => some (.bool true, A1)
      | none => none)
    else none
  | _ => none

theorem kmAs_ok {eT pT g f : Nat} {hv : Value} (hg : g < P.globals.size) (huniq : ∀ (τ : Sg) v', VR τ hv v' → v' = unH hv)
    (hnil : ∀ (t : Value) (W : World), Calls P f #[.nilIface, t] W fun e W' => e = .returned (.bool false) ∧ W' = W)
    (hhit : ∀ (e t : Addr) (old : Value) (W : World), W.cell? ⟨g, 0, none⟩ = some (unH hv) → W.cell? t = some old → W.frozen? t = false →
      Calls P f #[.iface eT (.pointer (some e)), .iface pT (.pointer (some t))] W fun ev W' => ev = .returned (.bool true) ∧ ∃ W1 : World, W.heap.size ≤ W1.heap.size ∧ (∀ c, c < W.heap.size → W1.heap[c]? = W.heap[c]?) ∧ Rest W W1 ∧ W' = W1.setCell t (.pointer (some e)))
    {args : List Value} {A A1 : AS} {v : Value} (hk : kmAs eT pT g hv args A = some (v, A1)) (base : Nat) (σ : Sg) (W : World) (args' : List Value) (h : R P base σ A W) (ha : VRs σ args args') :
    Calls P f ⟨args'⟩ W fun e W1 => ∃ σ1 v', e = .returned v' ∧ R P base σ1 A1 W1 ∧ Ext A σ W A1 σ1 W1 ∧ VR σ1 v v' := by
  unfold kmAs at hk
  split at hk <;> try (simp at hk; done)
  · rename_i t
    simp only [Option.some.injEq, Prod.mk.injEq] at hk
    obtain ⟨rfl, rfl⟩ := hk
    cases ha with
    | cons a1 a2 =>
    cases a2 with
    | cons a2 a3 =>
    cases a3 with
    | nil =>
    cases a1 with
    | atom _ =>
    refine (hnil _ W).mono fun e W1 ⟨q1, q2⟩ => ?_
    subst q2
    exact ⟨σ, _, q1, h, Ext.refl _ _ _, .atom rfl⟩
  · rename_i t1 b o t2 b2 o2
    cases hc : (Nat.beq t1 eT && Nat.beq t2 pT && cellIs A g 0 hv) with
    | false => simp [hc] at hk
    | true =>
      simp only [hc, cond_true] at hk
      simp only [Bool.and_eq_true] at hc
      obtain ⟨⟨h1, h2⟩, h3⟩ := hc
      obtain rfl : t1 = eT := Nat.eq_of_beq_eq_true h1
      obtain rfl : t2 = pT := Nat.eq_of_beq_eq_true h2
      split at hk <;> try (simp at hk; done)
      rename_i A2 hp
      simp only [Option.some.injEq, Prod.mk.injEq] at hk
      obtain ⟨rfl, rfl⟩ := hk
      cases ha with
      | cons a1 a2 =>
      cases a2 with
      | cons a2 a3 =>
      cases a3 with
      | nil =>
      cases a1 with
      | atom a1 => simp [atomV] at a1
      | iface a1 =>
      cases a2 with
      | atom a2 => simp [atomV] at a2
      | iface a2 =>
      cases a1 with
      | atom a1 => simp [atomV] at a1
      | @ptr _ _ m1 hb1 =>
      cases a2 with
      | atom a2 => simp [atomV] at a2
      | @ptr _ _ m2 hb2 =>
      obtain ⟨mg, hmg, hmc, hmd⟩ := h.glob g hg
      obtain ⟨vg, hvg, hvr⟩ := cellIs_spec h hmg h3
      rw [hmc, hmd] at hvg
      obtain rfl := huniq _ _ hvr
      obtain ⟨⟨old, ho⟩, hz, _⟩ := put1_sound h hb2 (.ptr hb1) hp
      refine (hhit _ _ old W hvg ho hz).mono fun e W1 ⟨q1, W2, q2, q3, q4, q5⟩ => ?_
      subst q5
      obtain ⟨r1, r2⟩ := h.grow q2 q3 q4
      obtain ⟨_, _, s1, s2⟩ := put1_sound r1 hb2 (.ptr hb1) hp
      exact ⟨σ, _, q1, s1, r2.trans s2, .atom rfl⟩
end Go.Eng

namespace Go.Eng
open Go
variable [Env]

/-! Package-level variables, read as laid, in a world of the form's shape: their blocks. -/
def litV : Lit → Option Value
  | .int k z => some (.int k z)
  | .string l => some (.string ⟨⟨l⟩⟩)
  | _ => none

/-- An array of numbers or of strings, read as laid, holds just them. -/
theorem laid_lits {P : Program} {w : World} {t : TypeId} {cs : List Value} {fuel : Nat} {p : List MemPlace} {ls : List Lit} {vs : List Value} {e : TypeId} {N : Nat} (hu : P.underlying t = some (.array N e)) (hc : P.cellsOf e = 1) (ht : P.cellsOf t = N)
    (hi : (∃ k, P.underlying e = some (.int k)) ∨ P.underlying e = some .string) (hv : ls.map litV = vs.map some)
    (h : DataW.trod (fun _ => ()) P w 0 (fun _ => true) false fuel t cs = some (.agg (ls.map fun l => .lit l), p)) : cs = vs := by
  obtain ⟨xs, m, _, ex, hl, hn, hel⟩ := DataW.trod_array hu h
  have e3 : xs.map (·.1) = ls.map fun l => (.lit l : DataW Unit) := (DataW.agg.inj (Prod.mk.inj ex).1).symm
  have hz : ls.length = N := by rw [← hn]; simpa using (congrArg List.length e3).symm
  have hvz : vs.length = N := by rw [← hz]; simpa using (congrArg List.length hv).symm
  apply List.ext_getElem?
  intro i
  by_cases hi2 : i < N
  · have hE := hel i hi2
    rw [hc, Nat.mul_one, List.getElem?_eq_getElem (by omega)] at hE
    have e4 : (xs.map (·.1))[i]? = (ls.map fun l => (.lit l : DataW Unit))[i]? := by rw [e3]
    have e5 : (ls.map litV)[i]? = (vs.map some)[i]? := by rw [hv]
    rw [List.getElem?_map, List.getElem?_map, List.getElem?_eq_getElem (by omega : i < xs.length), List.getElem?_eq_getElem (by omega : i < ls.length)] at e4
    rw [List.getElem?_map, List.getElem?_map, List.getElem?_eq_getElem (by omega : i < ls.length), List.getElem?_eq_getElem (by omega : i < vs.length)] at e5
    simp only [Option.map_some, Option.some.injEq] at e4 e5
    rw [List.getElem?_eq_getElem (by omega : i < vs.length)]
    rcases hi with ⟨k, hi⟩ | hi
    · obtain ⟨z, e1, e2, _⟩ := DataW.trod_int hi hE
      have h0 : ((cs.drop i).take 1)[0]? = some (.int k z) := by rw [e1]; rfl
      rw [e2] at e4
      simp only [DataW.lit.injEq] at e4
      rw [← e4] at e5
      simp only [litV, Option.some.injEq] at e5
      rw [← e5]
      simpa using h0
    · obtain ⟨z, e1, e2, _⟩ := DataW.trod_string hi hE
      have h0 : ((cs.drop i).take 1)[0]? = some (.string z) := by rw [e1]; rfl
      rw [e2] at e4
      simp only [DataW.lit.injEq] at e4
      rw [← e4] at e5
      simp only [litV, Option.some.injEq] at e5
      have hzz : (⟨⟨z.data.toList⟩⟩ : ByteArray) = z := rfl
      rw [← e5, hzz]
      simpa using h0
  · rw [List.getElem?_eq_none (by omega), List.getElem?_eq_none (by omega)]

theorem laid_block {P : Program} {W : World} {n : String} {g : Nat} {t0 : TypeId} {cs : Array Value} (hg : P.globalNamed n = some g) (hlt : g < P.globals.size)
    (hz : (((begin P (fun _ _ => 0) default).world.heap[g]?).bind Obj.row?).map (·.2) = some t0) (hsh : W.ShapedOpen P) (hv : W.var? P n = some cs) : W.heap[g]? = some (.cells cs t0 (0, 0)) := by
  obtain ⟨⟨zero, t⟩, hz1, ht⟩ := Option.map_eq_some_iff.1 hz
  obtain rfl : t = t0 := ht
  obtain ⟨cs', h1, _⟩ := hsh.1 g zero t hlt hz1
  simp only [World.var?, hg, Option.bind_some, h1, Option.some.injEq] at hv
  rw [h1, hv]

/-- A listed variable, and what it reads as. -/
theorem laidVars_mem {P : Program} {w : World} {n : String} {d : DataW Unit} : ∀ {l : List (String × DataW Unit)} {ps : List MemPlace}, DataW.LaidVars P w l ps → (n, d) ∈ l →
    ∃ g t cs fuel p, P.globalNamed n = some g ∧ (P.globals[g]?).map (·.type) = some t ∧ w.var? P n = some cs ∧ DataW.trod (fun _ => ()) P w 0 (fun _ => true) false fuel t cs.toList = some (d, p)
  | [], _, _, h => by cases h
  | (m, e) :: r, ps, h, hm => by
    obtain ⟨g, t, cs, fuel, p, q, h1, h2, h3, h4, h5, _⟩ := h
    rcases List.mem_cons.1 hm with hq | hq
    · obtain ⟨rfl, rfl⟩ := Prod.mk.inj hq
      exact ⟨g, t, cs, fuel, p, h1, h2, h3, h4⟩
    · exact laidVars_mem h5 hq

theorem laid_mem {P : Program} {w : World} {l : List (String × DataW Unit)} {n : String} {d : DataW Unit} (h : laidMetH P l w) (hm : (n, d) ∈ l) (hn : d.handleName?.isNone = true) :
    ∃ g t cs fuel p, P.globalNamed n = some g ∧ (P.globals[g]?).map (·.type) = some t ∧ w.var? P n = some cs ∧ DataW.trod (fun _ => ()) P w 0 (fun _ => true) false fuel t cs.toList = some (d, p) := by
  unfold laidMetH at h
  split at h
  · obtain ⟨ps, h1, _⟩ := h
    exact laidVars_mem h1 hm
  · obtain ⟨⟨ps, h1, _⟩, _⟩ := h
    exact laidVars_mem h1 (List.mem_filter.2 ⟨hm, hn⟩)

theorem handle_mem {P : Program} {w : World} {l : List (String × DataW Unit)} {n : String} {d : DataW Unit} {name : List UInt8} (h : laidMetH P l w) (hm : (n, d) ∈ l) (hn : d.handleName? = some name) (hf : d.funcsIn? = none) :
    ∃ u ty, (P.cutTypes.find? (·.1 == "internal/reflectlite.rtype")).map (·.2) = some u ∧ ty < P.types.size ∧ P.rowNamed ty name = true ∧ w.var? P n = some #[.iface u (.agg #[typeHandle P ty])] := by
  unfold laidMetH at h
  have hx : (n, d) ∈ l.filter fun x => x.2.handleName?.isSome := List.mem_filter.2 ⟨hm, by rw [hn]; rfl⟩
  split at h
  · rename_i he
    rw [he] at hx; cases hx
  · rename_i a as he
    rw [he] at hx
    have := h.2 _ hx
    simp only [hf] at this
    obtain ⟨name', u, ty, e1, e2, e3, e4, e5⟩ := this
    rw [hn] at e1
    obtain rfl := Option.some.inj e1
    exact ⟨u, ty, e2, e3, e4, e5⟩

def toLit : Value → Lit
  | .int k z => .int k z
  | .string b => .string b.data.toList
  | _ => .bool false

/-- Is the variable an array of numbers or of strings, and its block of this type? -/
def arrOk (P : Program) (n : String) (g0 : Nat) (t0 : TypeId) : Bool := match P.globalNamed n with
  | some g => Nat.beq g g0 && Nat.blt g P.globals.size && (match (((begin P (fun _ _ => 0) default).world.heap[g]?).bind Obj.row?).map (·.2) with
    | some t => Nat.beq t t0
    | none => false) && (match P.globals[g]? with
      | some gl => (match P.underlying gl.type with
        | some (.array N e) => Nat.beq (P.cellsOf e) 1 && Nat.beq (P.cellsOf gl.type) N && (match P.underlying e with
          | some (.int _) => true
          | some .string => true
          | _ => false)
        | _ => false)
      | none => false)
  | none => false

/-- A variable's block, out of the row's list and the world's shape. -/
theorem laid_lv {P : Program} {W : World} {l : List (String × DataW Unit)} {n : String} {g0 i : Nat} {t0 : TypeId} {vs us : List Value} {d : DataW Unit}
    (h : laidMetH P l W) (hsh : W.ShapedOpen P) (hm : l[i]? = some (n, d)) (hn : d.handleName?.isNone = true) (ha : arrOk P n g0 t0 = true)
    (hd0 : d = .agg ((vs.map toLit).map fun x => .lit x)) (hvs : (vs.map toLit).map litV = us.map some) : W.heap[g0]? = some (.cells ⟨us⟩ t0 (0, 0)) := by
  obtain ⟨g, t, cs, fuel, p, hg, ht, hv, hd⟩ := laid_mem h (List.mem_of_getElem? hm) hn
  unfold arrOk at ha
  rw [hg] at ha
  simp only [Bool.and_eq_true] at ha
  obtain ⟨⟨⟨a1, a2⟩, a3⟩, a4⟩ := ha
  obtain rfl := Nat.eq_of_beq_eq_true a1
  have a2 : g < P.globals.size := Nat.le_of_ble_eq_true a2
  have a3' : (((begin P (fun _ _ => 0) default).world.heap[g]?).bind Obj.row?).map (·.2) = some t0 := by
    split at a3
    · rename_i t' ht'
      rw [ht', Nat.eq_of_beq_eq_true a3]
    · cases a3
  split at a4 <;> try (cases a4; done)
  rename_i gl hgl
  rw [hgl] at ht
  obtain rfl : gl.type = t := Option.some.inj ht
  split at a4 <;> try (cases a4; done)
  rename_i N e hu
  simp only [Bool.and_eq_true] at a4
  obtain ⟨⟨b1, b2⟩, b3⟩ := a4
  have hi : (∃ k, P.underlying e = some (.int k)) ∨ P.underlying e = some .string := by
    split at b3
    · rename_i k hk; exact .inl ⟨k, hk⟩
    · rename_i hk; exact .inr hk
    · cases b3
  subst hd0
  have := laid_lits hu (Nat.eq_of_beq_eq_true b1) (Nat.eq_of_beq_eq_true b2) hi hvs hd
  rw [laid_block hg a2 a3' hsh hv, ← this]

theorem shaped_size {P : Program} {W : World} (hsh : W.ShapedOpen P) (h : P.globals.size < (begin P (fun _ _ => 0) default).world.heap.size) : P.globals.size ≤ W.heap.size := by
  obtain ⟨o, _, h1, _⟩ := hsh.2 P.globals.size (Nat.le_refl _) h
  exact Nat.le_of_lt (Array.getElem?_eq_some_iff.1 h1).1

/-- The wrap for a closed law whose row lists variables: the contract is handed the list and the world's shape. -/
theorem handed_laid {H : Type} {enc : TypeId × Value → H} {a : Assume} {C : Checked} {os : Os} {f : FuncId} {fn : Func} {s : ChangeSpec} {conds : List PathCond} {apart fresh handsOn again : Bool} {laid : List (String × DataW Unit)}
    (own : ownKnob C.prog.godebug = none) (started : os.Started) (noInit : C.prog.inits.idxOf? f = none) (hfn : C.prog.funcs[f]? = some fn)
    (witness : ∃ (w : World) (tape : Tape) (i : Input), w.os = os ∧ (w.forCall tape i).Shaped C.prog ∧ i.vars = [] ∧ Input.okWide C.prog (w.forCall tape i) .any w.heap.size f i ∧
      ((s.pre enc C.prog fn conds apart (w.forCall tape i).memory i.args ∧ laidMetH C.prog laid (w.forCall tape i).memory) ∧ sizedMet enc C.prog fn (OpenSpec.ofChange s) apart (w.forCall tape i).memory i.args) ∧ a.holds C.prog (lone (Frame.enter C.prog f i.args .normal) [] (w.forCall tape i)))
    (contract : ∀ (W : World) (args : Array Value) (ds gs : List (DataW H)) (before : List MemPlace),
      DataW.Whole enc C.prog fn.params.toList s.vars apart W args.toList ds gs before → laidMetH C.prog laid W → W.ShapedOpen C.prog →
      Calls C.prog f args W fun e W' => ∃ v, e = .returned v ∧ s.post enc C.prog fn apart fresh handsOn again W args v W') :
    ReturnsInHanded a C os f .any (fun w args => (s.pre enc C.prog fn conds apart w args ∧ laidMetH C.prog laid w) ∧ sizedMet enc C.prog fn (OpenSpec.ofChange s) apart w args) (s.post enc C.prog fn apart fresh handsOn again) := by
  refine returnsInHanded_of_calls own started noInit witness ?_
  intro w tape i _ hsh _ _ hpre _
  have _ := hfn
  obtain ⟨⟨⟨ds, gs, before, hw, _⟩, hx⟩, _⟩ := hpre
  have hw' := DataW.Whole.of_heap (w' := w.forCall tape i) (by rfl) hw
  refine (contract (w.forCall tape i) i.args ds gs before hw' (hx.of_heap (by rfl)) hsh).mono fun e W' ⟨v, he, hp⟩ => ?_
  subst he
  exact ChangeSpec.post_blind hp
end Go.Eng

namespace Go.Eng
open Go
variable [Env]

/-! A call out of a hand walk: the blocks that it is handed, as abstract ones; what it leaves, read back. -/
variable {P : Program} {W : World}

/-- A block that is handed in: where it stands, its cells as the abstract machine sees them, its type. -/
structure In where
  c : Nat
  vs : List Value
  e : TypeId
def inB : Nat → List In → List (Nat × Blk)
  | _, [] => []
  | b, x :: l => (b, .cells x.vs x.vs.length 1 x.e 0 0) :: inB (b + 1) l
noncomputable def insA (G k : Nat) (l : List In) : AS := { h := blkT (inB G l) .leaf, nx := G + l.length, lo := G + k }
def sgI (G : Nat) (l : List In) : Sg := fun b => if b < G then some ⟨b, 0, 0, 1⟩ else (l[b - G]?).map fun x => ⟨x.c, 0, x.vs.length, 1⟩

theorem inB_mem : ∀ {l : List In} {G b : Nat} {L : Blk}, (b, L) ∈ inB G l → ∃ i x, l[i]? = some x ∧ b = G + i ∧ L = .cells x.vs x.vs.length 1 x.e 0 0
  | [], _, _, _, h => by simp [inB] at h
  | x :: l, G, b, L, h => by
    simp only [inB, List.mem_cons] at h
    rcases h with h | h
    · obtain ⟨rfl, rfl⟩ := Prod.mk.inj h
      exact ⟨0, x, rfl, rfl, rfl⟩
    · obtain ⟨i, y, q1, q2, q3⟩ := inB_mem h
      exact ⟨i + 1, y, by simpa using q1, by omega, q3⟩

theorem sgI_at {G : Nat} {l : List In} {i : Nat} {x : In} (h : l[i]? = some x) : sgI G l (G + i) = some ⟨x.c, 0, x.vs.length, 1⟩ := by
  have : ¬ G + i < G := by omega
  simp [sgI, this, h]
theorem sgI_inv {G : Nat} {l : List In} {b : Nat} {m : Im} (h : sgI G l b = some m) (hb : ¬ b < G) : ∃ x, l[b - G]? = some x ∧ m = ⟨x.c, 0, x.vs.length, 1⟩ := by
  simp only [sgI, if_neg hb] at h
  cases hq : l[b - G]? with
  | none => rw [hq] at h; simp at h
  | some x => rw [hq] at h; simp at h; exact ⟨x, rfl, h.symm⟩

theorem ins_R {G k base : Nat} {l : List In} (hG : P.globals.size = G) (hGb : G ≤ base) (hs : base ≤ W.heap.size) (hk : k ≤ l.length)
    (hl : ∀ x ∈ l, x.vs.length ≤ 2 ^ 60 ∧ ∃ vs', W.heap[x.c]? = some (.cells ⟨vs'⟩ x.e (0, 0)) ∧ VRs (sgI G l) x.vs vs')
    (hd : ∀ (i j : Nat) (x y : In), l[i]? = some x → l[j]? = some y → x.c = y.c → i = j)
    (hlo : ∀ (i : Nat) (x : In), l[i]? = some x → i < k → x.c < base) (hhi : ∀ (i : Nat) (x : In), l[i]? = some x → k ≤ i → base ≤ x.c) :
    R P base (sgI G l) (insA G k l) W := by
  have hb : ∀ b o, (insA G k l).h.get b = some o → ∃ i x, l[i]? = some x ∧ b = G + i ∧ o = (Blk.cells x.vs x.vs.length 1 x.e 0 0).obj := fun b o e => by
    rcases blkT_get e with ⟨L, q1, rfl⟩ | q
    · obtain ⟨i, x, r1, r2, r3⟩ := inB_mem q1
      exact ⟨i, x, r1, r2, by rw [r3]⟩
    · simp [T.get_leaf] at q
  refine ⟨fun b o m e em => ?_, fun b b' m m' l1 l2 e e' hcc => ?_, fun b hbn => ?_, fun g hg => ?_, fun b m e hlo' => ?_, fun b m e hlt => ?_, hs, by show G + k ≤ G + l.length; omega, fun b hbs => ?_⟩
  · obtain ⟨i, x, q1, rfl, rfl⟩ := hb b o e
    rw [sgI_at q1] at em
    obtain rfl := (Option.some.inj em).symm
    obtain ⟨c2, vs', c1, c3⟩ := hl x (List.mem_of_getElem? q1)
    refine ⟨_, c1, ⟨vs'⟩, (0, 0), rfl, ?_, rfl, by simp, c2, fun j v hj hv => ?_, fun _ => rfl, fun j _ j2 => by simp at j2, fun q => absurd rfl q, .inr (Nat.le_refl _)⟩
    · simpa using c3.length
    · rcases cellF_lt hv with hq | ⟨_, hq⟩
      · have := setAll_leaf c2 hq
        obtain ⟨v', q1, q2⟩ := c3.get j v this
        exact ⟨v', by simpa using q1, q2⟩
      · rw [nth_eq] at hq; simp at hq
  · obtain ⟨o, q⟩ := Option.isSome_iff_exists.1 l1
    obtain ⟨o', q'⟩ := Option.isSome_iff_exists.1 l2
    obtain ⟨i, x, r1, rfl, _⟩ := hb b o q
    obtain ⟨j, y, r2, rfl, _⟩ := hb b' o' q'
    rw [sgI_at r1] at e
    rw [sgI_at r2] at e'
    obtain rfl := (Option.some.inj e).symm
    obtain rfl := (Option.some.inj e').symm
    rw [hd i j x y r1 r2 hcc]
  · have hbn : G + l.length ≤ b := hbn
    have : ¬ b < G := by omega
    simp [sgI, this, List.getElem?_eq_none (by omega : l.length ≤ b - G)]
  · rw [hG] at hg
    exact ⟨⟨g, 0, 0, 1⟩, by simp [sgI, hg], rfl, rfl⟩
  · have hlo' : G + k ≤ b := hlo'
    obtain ⟨x, q1, rfl⟩ := sgI_inv e (by omega)
    exact hhi _ x q1 (by omega)
  · have hlt : b < G + k := hlt
    by_cases hbg : b < G
    · simp [sgI, hbg] at e
      subst e
      show b < base
      omega
    · obtain ⟨x, q1, rfl⟩ := sgI_inv e hbg
      exact hlo _ x q1 (by omega)
  · obtain ⟨o, q⟩ := Option.isSome_iff_exists.1 hbs
    obtain ⟨i, x, q1, rfl, _⟩ := hb b o q
    show G + i < G + l.length
    have := (List.getElem?_eq_some_iff.1 q1).1
    omega

/-- Reading back: a block that the abstract machine knows whole. -/
theorem R.whole {base : Nat} {σ : Sg} {A : AS} {b : Nat} {l : List Value} {size u : Nat} {e : TypeId} {m : Im} {o : AObj} (h : R P base σ A W) (hm : σ b = some m) (ho : A.h.get b = some o) (hb : okBlk o (.cells l size u e 0 0) = true) (hsz : size = l.length) :
    ∃ c, W.heap[m.c]? = some (.cells c e (0, 0)) ∧ c.size = m.N ∧ size + m.δ ≤ m.N ∧ ∀ i v, l[i]? = some v → ∃ v', c[i + m.δ]? = some v' ∧ VR σ v v' := by
  obtain ⟨o', q1, q2⟩ := h.live b o m ho hm
  obtain ⟨c, fz', rfl, hN, hu, hle, h60, hcell, hz0, hfz, hδ⟩ := okBlk_OR hb q2
  rw [hz0 rfl] at q1
  refine ⟨c, q1, hN, hle, fun i v hv => ?_⟩
  have hi : i < size := by rw [hsz]; exact (List.getElem?_eq_some_iff.1 hv).1
  refine hcell i v hi ?_
  have h2 : l.length ≤ 2 ^ 60 := by omega
  have := T.setAll_at l .leaf 0 i (by omega)
  unfold cellF
  rw [this, if_pos (by omega)]
  simp only [Nat.sub_zero, hv]
end Go.Eng

namespace Go.Eng
open Go
variable [Env]

/-! Known calls out of contracts by hand: what they look at, the block that they make. -/
variable {P : Program} {base : Nat} {σ : Sg} {A : AS} {W W1 : World}

/-- A new block that stands somewhere behind the old ones. -/
theorem R.newAt {o : AObj} {o' : Obj} {m : Im} (h : R P base σ A W) (hs : W.heap.size ≤ W1.heap.size) (hh : ∀ c, c < W.heap.size → W1.heap[c]? = W.heap[c]?) (hr : Rest W W1) (hm : W.heap.size ≤ m.c) (hat : W1.heap[m.c]? = some o') (ho : OR σ m o o') :
    R P base (σ.add A.nx m) (A.new o) W1 ∧ Ext A σ W (A.new o) (σ.add A.nx m) W1 := by
  have hf : σ A.nx = none := h.fresh _ (Nat.le_refl _)
  have hle : σ.le (σ.add A.nx m) := Sg.le_add hf
  have hold : ∀ b o1, (A.new o).h.get b = some o1 → (b = A.nx ∧ o = o1) ∨ (b ≠ A.nx ∧ A.h.get b = some o1) := fun b o1 e => T.set_get _ _ _ _ _ e
  have hold' : ∀ b, ((A.new o).h.get b).isSome → b = A.nx ∨ (b ≠ A.nx ∧ (A.h.get b).isSome) := fun b e => by
    obtain ⟨o1, e1⟩ := Option.isSome_iff_exists.1 e
    rcases hold b o1 e1 with ⟨a, _⟩ | ⟨a, b⟩
    · exact .inl a
    · exact .inr ⟨a, by rw [b]; rfl⟩
  have hin : ∀ b o1 m', A.h.get b = some o1 → σ b = some m' → m'.c < W.heap.size := fun b o1 m' e1 e2 => by
    obtain ⟨o2, e3, _⟩ := h.live b o1 m' e1 e2
    exact (Array.getElem?_eq_some_iff.1 e3).1
  refine ⟨⟨?_, ?_, ?_, ?_, ?_, fun b m' e hl => h.low b m' (by rw [Sg.add_ne _ _ _ (fun q => by have := h.lonx; have : b < A.lo := hl; omega)] at e; exact e) hl, Nat.le_trans h.base_le hs, Nat.le_succ_of_le h.lonx, fun b hb => ?_⟩, ⟨hle, ?_, Nat.le_succ _, rfl, hs, ?_, fun c hc _ => hh c hc, hr⟩⟩
  · intro b o1 m' e1 e2
    rcases hold b o1 e1 with ⟨rfl, rfl⟩ | ⟨hb, e1'⟩
    · rw [Sg.add_at] at e2; obtain rfl := Option.some.inj e2
      exact ⟨o', hat, ho.mono hle⟩
    · rw [Sg.add_ne _ _ _ hb] at e2
      obtain ⟨o2, e3, e4⟩ := h.live b o1 m' e1' e2
      exact ⟨o2, by rw [hh _ (Array.getElem?_eq_some_iff.1 e3).1]; exact e3, e4.mono hle⟩
  · intro b b' m1 m2 e1 e2 e3 e4 e5
    rcases hold' b e1 with rfl | ⟨hb, l1⟩ <;> rcases hold' b' e2 with rfl | ⟨hb', l2⟩
    · rfl
    · rw [Sg.add_at] at e3; obtain rfl := Option.some.inj e3
      rw [Sg.add_ne _ _ _ hb'] at e4
      obtain ⟨o2, q⟩ := Option.isSome_iff_exists.1 l2
      have := hin _ _ _ q e4; omega
    · rw [Sg.add_at] at e4; obtain rfl := Option.some.inj e4
      rw [Sg.add_ne _ _ _ hb] at e3
      obtain ⟨o2, q⟩ := Option.isSome_iff_exists.1 l1
      have := hin _ _ _ q e3; omega
    · rw [Sg.add_ne _ _ _ hb] at e3; rw [Sg.add_ne _ _ _ hb'] at e4
      exact h.inj _ _ _ _ l1 l2 e3 e4 e5
  · intro b hb
    have hb' : A.nx + 1 ≤ b := hb
    rw [Sg.add_ne _ _ _ (by omega)]; exact h.fresh b (by omega)
  · intro g hg
    obtain ⟨m', e1, e2, e3⟩ := h.glob g hg
    exact ⟨m', hle _ _ e1, e2, e3⟩
  · intro b m' e hl
    by_cases hb : b = A.nx
    · rw [hb, Sg.add_at] at e; obtain rfl := Option.some.inj e; exact Nat.le_trans h.base_le hm
    · rw [Sg.add_ne _ _ _ hb] at e; exact h.high b m' e hl
  · rcases hold' b hb with rfl | ⟨_, q⟩
    · exact Nat.lt_succ_self _
    · exact Nat.lt_succ_of_lt (h.dom b q)
  · intro b hb; exact Sg.add_ne _ _ _ (by omega)
  · rintro c hc ⟨b, m', e1, e2, e3, e4⟩
    rcases hold' b e1 with rfl | ⟨hb, l1⟩
    · rw [Sg.add_at] at e2; obtain rfl := Option.some.inj e2; omega
    · rw [Sg.add_ne _ _ _ hb] at e2; exact ⟨b, m', l1, e2, e3, e4⟩

/-- A block that holds a row, as the abstract machine sees it. -/
noncomputable def rowA (l : List Value) (u : Nat) (e : TypeId) : AObj := .cells (T.setAll .leaf 0 l) l.length [] u e (0, 0)
theorem rowA_OR {l l' : List Value} {c u : Nat} {e : TypeId} (hv : VRs σ l l') (h60 : l.length ≤ 2 ^ 60) : OR σ ⟨c, 0, l.length, u⟩ (rowA l u e) (.cells ⟨l'⟩ e (0, 0)) := by
  refine ⟨⟨l'⟩, (0, 0), rfl, by simpa using hv.length, rfl, by simp, h60, fun j v hj hcell => ?_, fun _ => rfl, fun j _ j2 => by simp at j2, fun q => absurd rfl q, .inr (Nat.le_refl _)⟩
  rcases cellF_lt hcell with hq | ⟨_, hq⟩
  · have := setAll_leaf h60 hq
    obtain ⟨v', q1, q2⟩ := hv.get j v this
    exact ⟨v', by simpa using q1, q2⟩
  · rw [nth_eq] at hq; simp at hq

/-- Holds a block just this, from the cell o on? -/
noncomputable def cellsAre (A : AS) (b o : Nat) (l : List Value) : Bool := match A.h.get b with
  | some (.cells t size z _ _ _) => Nat.ble (o + l.length) size && (match T.take (cellF t z) l.length o with | some m => beqVs m l | none => false)
  | _ => false
theorem cellsAre_spec {b o : Nat} {l : List Value} {m : Im} (h : R P base σ A W) (hm : σ b = some m) (e : cellsAre A b o l = true) :
    ∃ l', VRs σ l l' ∧ ∀ j v', l'[j]? = some v' → W.cell? ⟨m.c, o + m.δ + j, none⟩ = some v' := by
  unfold cellsAre at e
  split at e <;> try (simp at e; done)
  rename_i t size z u ty fz hg
  simp only [Bool.and_eq_true] at e
  obtain ⟨e1, e2⟩ := e
  have e1 := Nat.le_of_ble_eq_true e1
  split at e2 <;> try (simp at e2; done)
  rename_i x hx
  obtain rfl := beqVs_eq _ _ e2
  obtain ⟨l', q1, _, q3⟩ := h.cells hg hm e1 hx
  exact ⟨l', q1, q3⟩
theorem cellsAre_closed {b o : Nat} {l : List Value} {m : Im} (h : R P base σ A W) (hm : σ b = some m) (e : cellsAre A b o l = true) (hc : closedVs l = true) :
    ∀ j v, l[j]? = some v → W.cell? ⟨m.c, o + m.δ + j, none⟩ = some v := by
  obtain ⟨l', q1, q2⟩ := cellsAre_spec h hm e
  rw [VRs.eq_of_closed q1 hc] at q2
  exact q2
/-- A slice of so many elements that are there. -/
def slN (n : Nat) : Value → Option (Nat × Nat)
  | .slice (some ⟨b, o, none⟩) len cap => bif Nat.beq len n && Nat.ble 1 cap then some (b, o) else none
  | _ => none
theorem slN_spec {n b o : Nat} {v v' : Value} (hv : VR σ v v') (h : slN n v = some (b, o)) : ∃ m c, σ b = some m ∧ v' = .slice (some ⟨m.c, o + m.δ, none⟩) n c := by
  unfold slN at h
  split at h <;> try (simp at h; done)
  rename_i b1 o1 len cap
  cases hc : (Nat.beq len n && Nat.ble 1 cap) with
  | false => rw [hc] at h; simp at h
  | true =>
    rw [hc] at h
    simp only [cond_true, Option.some.injEq, Prod.mk.injEq] at h
    obtain ⟨rfl, rfl⟩ := h
    simp only [Bool.and_eq_true] at hc
    obtain ⟨h1, h2⟩ := hc
    obtain rfl := Nat.eq_of_beq_eq_true h1
    have h2 := Nat.le_of_ble_eq_true h2
    cases hv with
    | atom e => simp [atomV] at e
    | slice hm a b c d =>
      rcases d with rfl | ⟨q, _⟩
      · exact ⟨_, _, hm, rfl⟩
      · omega
def ptA : Value → Option (Nat × Nat)
  | .pointer (some ⟨b, o, none⟩) => some (b, o)
  | _ => none
theorem ptA_spec {b o : Nat} {v v' : Value} (hv : VR σ v v') (h : ptA v = some (b, o)) : ∃ m, σ b = some m ∧ v' = .pointer (some ⟨m.c, o + m.δ, none⟩) := by
  unfold ptA at h
  split at h <;> try (simp at h; done)
  simp only [Option.some.injEq, Prod.mk.injEq] at h
  obtain ⟨rfl, rfl⟩ := h
  cases hv with
  | atom e => simp [atomV] at e
  | ptr hm => exact ⟨_, hm, rfl⟩
theorem tok_inv {k : Nat} {v' : Value} (h : VR σ (.chan (some k)) v') : v' = Env.val k := by
  cases h with
  | atom e => simp [atomV] at e
  | tok => rfl
end Go.Eng

namespace Go.Eng
open Go
variable [Env]

/-! A call in pieces, some of them walked by hand. -/
variable {P : Program} {base : Nat} {σ : Sg} {A A1 : AS} {W W1 : World} {F F1 : Fm}

theorem fact_cond {o : Operand} {x y : Code} {e : Ex} (t : Bool) (hc : aEval P o F.t = some (.bool t)) (h : Fact P base (bif t then x else y) F A e F1 A1) : Fact P base (.cond o x y) F A e F1 A1 := by
  intro σ W tm ds hR ht hd b k cs hcalm hr
  have hx : Act.eval ⟨tm, ds⟩ o = .bool t := (eval_sound (a := ⟨tm, ds⟩) hR ht hc).eq_of_closed rfl
  have hst := st_cond (P := P) (W := W) (b := b) (tm := tm) (ds := ds) (k := k) (cs := cs) (c := o) (x := x) (y := y) (t := t) (by rw [eval_atR]; exact hx)
  obtain ⟨σ1, W1, tm1, ds1, q1, q2, q3, q4, q5, q6⟩ := h σ W tm ds hR ht hd b k cs hcalm hr
  refine ⟨σ1, W1, tm1, ds1, q1, q2, q3, q4, q5, .of_steps (.one hst) ?_⟩
  cases t <;> exact q6
theorem fact_block {id : Nat} {c : Code} (h : Fact P base c F A .normal F1 A1) : Fact P base (.block id c) F A .normal F1 A1 := by
  intro σ W tm ds hR ht hd b k cs hcalm hr
  obtain ⟨σ1, W1, tm1, ds1, q1, q2, q3, q4, q5, q6⟩ := h σ W tm ds hR ht hd b (.inBlock id :: k) cs hcalm hr
  exact ⟨σ1, W1, tm1, ds1, q1, q2, q3, q4, q5, (Steps.head st_block q6).trans (.one st_inBlock)⟩
/-- A piece that is walked by hand. -/
theorem fact_wp {c : Code} (hd : F.ds = []) (hr : F.rd = none) (hd1 : F1.ds = []) (hr1 : F1.rd = none)
    (h : ∀ σ W (tm : Array Value), R P base σ A W → TR σ F.t F.n tm → c.wp P (fun e a w' => e = .normal ∧ a.defers = [] ∧ ∃ σ1, R P base σ1 A1 w' ∧ Ext A σ W A1 σ1 w' ∧ TR σ1 F1.t F1.n a.tmps) ⟨tm, []⟩ W) : Fact P base c F A .normal F1 A1 := by
  intro σ W tm ds hR ht hds b k cs hcalm hrd
  rw [hd] at hds
  cases hds
  obtain ⟨e, a, w', ⟨he, had, σ1, q1, q2, q3⟩, harr⟩ := h σ W tm hR ht b k cs
  subst he
  have hb : b.roundOf = none := by
    rw [hr] at hrd
    cases hq : b.roundOf with
    | none => rfl
    | some c => rw [hq] at hrd; exact hrd.elim
  refine ⟨σ1, w', a.tmps, [], q1, q2, q3, by rw [hr1, hr], by rw [hd1]; exact .nil, ?_⟩
  have e1 : ∀ (tm : Array Value) (td : List Item), atR b tm [] td = b.at ⟨tm, []⟩ td := fun tm td => by
    cases b
    simp only [atR, Frame.at] at hb ⊢
    subst hb
    rfl
  have e2 : a = ⟨a.tmps, []⟩ := by cases a; simp only at had; subst had; rfl
  show Steps P (lone (atR b tm [] (.code c :: k)) cs W) (lone (atR b a.tmps [] k) cs w')
  rw [e1, e1, ← e2]
  exact harr
end Go.Eng
