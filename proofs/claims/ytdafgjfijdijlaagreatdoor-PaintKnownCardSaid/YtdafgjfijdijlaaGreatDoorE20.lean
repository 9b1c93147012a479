/- Part of an abstract machine that runs the program's code in Lean's kernel, and of the proof that what it answers every run of the model answers (Go.Eng; program-independent). No condition. -/
import Derived.Test.YtdafgjfijdijlaaGreatDoorE19
namespace Go.Eng
open Go

variable {P : Program} {base : Nat} {σ : Sg} {A : AS} {W : World} {t : T Value} {n : Nat} {a : Act}

theorem aPure_same {o : Oper} {r : ANext} {A1 : AS} (e : aPure P o t A = some (r, A1)) : A1 = A := by
  unfold aPure at e
  cases hc : allClosed P t o.op.operands.toList with
  | false => rw [hc] at e; simp at e
  | true =>
    rw [hc] at e
    simp only [cond_true] at e
    split at e <;> try (simp at e; done)
    rename_i v hv
    cases hcv : closedV v with
    | false => rw [hcv] at e; simp at e
    | true => rw [hcv] at e; simp at e; exact e.2.symm
theorem okA_same {o : Option Value} {r : ANext} {A1 : AS} (e : okA A o = some (r, A1)) : A1 = A := (okA_inv e).choose_spec.2.2

theorem convInt_same {src dst : TypeId} {i : Int} {r : ANext} {A1 : AS} (e : convInt P src dst i A = some (r, A1)) : A1 = A := by
  unfold convInt at e
  split at e <;> simp at e
  exact e.2.symm
theorem bif_same {c : Bool} {x r : ANext} {A1 : AS} (e : (bif c then some (x, A) else none) = some (r, A1)) : A1 = A := by
  cases c
  · simp at e
  · simp at e; exact e.2.symm
theorem aConvert_same {src dst : TypeId} {v : Value} {r : ANext} {A1 : AS} (hd : isSliceD (P.underlying dst) = false) (e : aConvert P src dst v A = some (r, A1)) : A1 = A := by
  unfold aConvert at e
  split at e <;> try (simp at e; done)
  · split at e <;> try (simp at e; done)
    · split at e <;> simp at e
      exact e.2.symm
    · split at e <;> simp at e
      exact e.2.symm
  · rename_i hq; rw [hq] at hd; simp [isSliceD] at hd
  · rename_i hq; rw [hq] at hd; simp [isSliceD] at hd
  · split at e <;> try (simp at e; done)
    exact bif_same e
  · split at e <;> try (simp at e; done)
    exact bif_same e

theorem aBuiltin_same {b : Builtin} {ts : List TypeId} {args : List Value} {r : ANext} {A1 : AS} (hb : (match b with | .len | .cap | .max | .min | .unsafeSliceData => false | _ => true) = false) (e : aBuiltin P b ts args A = some (r, A1)) : A1 = A := by
  unfold aBuiltin at e
  split at e <;> try (simp at e; done)
  · simp at hb
  · split at e <;> try (simp at e; done)
    split at e <;> try (simp at e; done)
    · simp at e; exact e.2.symm
    · split at e <;> simp at e; exact e.2.symm
    · split at e <;> simp at e; exact e.2.symm
  · simp at hb
  · simp at hb
  · split at e <;> try (simp at e; done)
    split at e <;> simp at e
    exact e.2.symm
  · split at e <;> simp at e
    exact e.2.symm

/-- An operation that neither acts nor makes memory leaves all as it is, and calls nothing. -/
theorem aOp_quiet {o : Oper} {r : ANext} {A1 : AS} (h1 : actsOn P o = false) (h2 : makesMem o = false) (e : aOp P o t A = some (r, A1)) : A1 = A := by
  cases ho : o.op with
  | move x => simp only [aOp, ho] at e; exact okA_same e
  | assign x => simp only [aOp, ho] at e; exact okA_same e
  | pick c x y =>
    simp only [aOp, ho] at e
    unfold xPick pickV at e
    split at e <;> try (simp at e; done)
    split at e <;> simp at e
    exact e.2.symm
  | alloc ty => simp [makesMem, ho] at h2
  | box ty x => simp [makesMem, ho] at h2
  | build ty ps =>
    simp only [aOp, ho] at e
    unfold xBuild at e
    split at e <;> try (simp at e; done)
    exact okA_same e
  | buildSlice ty k ps => simp [makesMem, ho] at h2
  | load ty x =>
    simp only [aOp, ho] at e
    unfold xLoad loadV at e
    split at e <;> try (simp at e; done)
    exact okA_same e
  | store ty x y => simp [actsOn, ho] at h1
  | nilCheck x =>
    simp only [aOp, ho] at e
    unfold xNil nilV at e
    split at e <;> simp at e <;> exact e.2.symm
  | binOp op ty x y yt =>
    simp only [aOp, ho] at e
    unfold xBin binV at e
    split at e <;> try (simp at e; done)
    split at e
    · simp at e; exact e.2.symm
    · unfold binSlow at e
      split at e
      · split at e
        · simp at e; exact e.2.symm
        · exact aPure_same e
      · split at e
        · simp at e; exact e.2.symm
        · exact aPure_same e
      · exact aPure_same e
  | makeInterface ty x =>
    simp only [aOp, ho] at e
    unfold xMakeIface at e
    split at e <;> simp at e
    exact e.2.symm
  | makeFunc fn x y =>
    simp only [aOp, ho] at e
    unfold xMakeFunc at e
    split at e <;> simp at e
    exact e.2.symm
  | makeMap ty q =>
    cases q with
    | none => simp [makesMem, ho] at h2
    | some x => simp only [aOp, ho] at e; exact aPure_same e
  | makeSlice ty x y => simp [makesMem, ho] at h2
  | slice ty x lo hi mx =>
    simp only [aOp, ho] at e
    unfold xSlice at e
    split at e
    · generalize optV P t lo = wlo at e
      generalize optV P t hi = whi at e
      generalize optV P t mx = wmx at e
      unfold strSlice at e
      split at e
      · split at e
        · simp at e; exact e.2.symm
        · exact aPure_same e
      · exact aPure_same e
    · exact aPure_same e
    · split at e <;> try (simp at e; done)
      exact okA_same e
    · simp at e
  | fieldAddr s x f =>
    simp only [aOp, ho] at e
    unfold xField fieldV at e
    split at e <;> try (simp at e; done)
    exact okA_same e
  | indexAddr ty x ix =>
    simp only [aOp, ho] at e
    unfold xIndexAddr indexV at e
    split at e <;> try (simp at e; done)
    exact okA_same e
  | lookup ty x ix ok =>
    simp only [aOp, ho] at e
    unfold xLookup lookupV at e
    split at e <;> try (simp at e; done)
    split at e <;> try (simp at e; done)
    split at e <;> try (simp at e; done)
    · simp at e; exact e.2.symm
    · split at e <;> try (simp at e; done)
      exact bif_same e
  | mapUpdate ty m k x => simp [actsOn, ho] at h1
  | extract x i =>
    simp only [aOp, ho] at e
    unfold xExtract extractV at e
    split at e <;> try (simp at e; done)
    exact okA_same e
  | typeAssert x xt ty ok =>
    simp only [aOp, ho] at e
    unfold xAssert assertV at e
    split at e <;> try (simp at e; done)
    split at e <;> try (simp at e; done)
    rename_i tt v d hx hu d2 hno
    cases hb : Nat.beq tt ty with
    | true => rw [hb] at e; simp at e; exact e.2.symm
    | false =>
      rw [hb] at e
      simp only [cond_false] at e
      cases ok with
      | false => simp at e
      | true =>
        simp only [cond_true] at e
        split at e <;> try (simp at e; done)
        split at e <;> try (simp at e; done)
        exact bif_same e
  | convert src dst x =>
    have hd : isSliceD (P.underlying dst) = false := by simpa [actsOn, ho] using h1
    simp only [aOp, ho] at e
    have slow : ∀ v, convSlow P o src dst v t A = some (r, A1) → A1 = A := by
      intro v e
      unfold convSlow at e
      cases hc : closedV v with
      | false => rw [hc] at e; exact aConvert_same hd e
      | true =>
        rw [hc] at e
        simp only [cond_true] at e
        split at e
        · rename_i q hq; simp at e; subst e; exact aPure_same hq
        · exact aConvert_same hd e
    unfold xConvert convV at e
    split at e
    · split at e
      · rename_i q hq; simp at e; subst e; exact convInt_same hq
      · exact slow _ e
    · exact slow _ e
    · simp at e
  | call c =>
    simp only [actsOn, ho] at h1
    simp only [aOp, ho] at e
    cases hc : c.callee with
    | builtin b =>
      rw [hc] at h1
      simp only [xCall, hc] at e
      unfold xBuiltin builtinV at e
      split at e <;> try (simp at e; done)
      split at e
      · simp at e; exact e.2.symm
      · split at e
        · rename_i q hq; simp at e; subst e; exact aPure_same hq
        · exact aBuiltin_same h1 e
    | value f => rw [hc] at h1; simp at h1
    | invoke rv nm => rw [hc] at h1; simp at h1
  | field s x f =>
    simp only [aOp, ho] at e
    unfold xFieldOf fieldOfV at e
    split at e
    · split at e <;> try (simp at e; done)
      split at e <;> try (simp at e; done)
      obtain ⟨_, _, _, rfl⟩ := okA_inv e
      rfl
    · exact aPure_same e
  | index ty x ix =>
    simp only [aOp, ho] at e
    unfold xIndex indexStr at e
    split at e
    · split at e <;> simp at e
      exact e.2.symm
    · exact aPure_same e
  | unOp op ty x =>
    simp only [aOp, ho] at e
    unfold xUn at e
    cases op with
    | not =>
      simp only at e
      unfold notV at e
      split at e <;> simp at e
      exact e.2.symm
    | _ => exact aPure_same e
  | select cs b => simp [aOp, ho] at e
  | defer c => simp [aOp, ho] at e
  | go c => simp [aOp, ho] at e
  | _ => simp only [aOp, ho] at e; exact aPure_same e


/-- What a maker of memory does: one new block. -/
def Makes (P : Program) (σ : Sg) (W : World) (run : Result Next) (nn : Nat) (v : Value) (ob : AObj) : Prop :=
  ∃ m o' W1 v', run = .ok (.value v') W1 ∧ W1.heap = W.heap.push o' ∧ m.c = W.heap.size ∧ OR σ m ob o' ∧ (∀ τ : Sg, σ.le τ → τ nn = some m → VR τ v v') ∧ Rest W W1

theorem newC_get {nn : Nat} {v0 : Value} {tr : T Value} {size : Nat} {z : List Value} {u : Nat} {e : TypeId} {fz : Nat × Nat} {v : Value} {A1 : AS} {ob : AObj} {h : T AObj} {lo : Nat}
    (hn : newC ⟨h, nn, lo⟩ v0 tr size z u e fz = some (.value v, A1)) (hg : A1.h.get nn = some ob) : size ≤ 2 ^ 60 ∧ v = v0 ∧ ob = .cells tr size z u e fz := by
  obtain ⟨h1, h2, rfl⟩ := newC_inv hn
  refine ⟨h1, by simpa using h2, ?_⟩
  rcases T.set_get _ _ _ _ _ hg with ⟨_, q⟩ | ⟨q, _⟩
  · exact q.symm
  · exact absurd rfl q

theorem cells_OR {tr : T Value} {size : Nat} {z : List Value} {u : Nat} {e : TypeId} {cs : Array Value} {fz : Nat × Nat} (W : World) (h60 : size ≤ 2 ^ 60) (hs : size ≤ cs.size)
    (hc : ∀ i v, i < size → cellF tr z i = some v → ∃ v', cs[i]? = some v' ∧ VR σ v v') : OR σ ⟨W.heap.size, 0, cs.size, u⟩ (.cells tr size z u e fz) (.cells cs e) :=
  ⟨cs, (0, 0), rfl, rfl, rfl, by simpa using hs, h60, fun i v hi hv => by
    obtain ⟨v', q1, q2⟩ := hc i v hi hv
    exact ⟨v', by simpa using q1, q2⟩, fun _ => rfl, fun i _ h2 => by simp at h2, fun _ => rfl, .inr (Nat.le_refl _)⟩

theorem mk_sound {h0 : T AObj} {lo0 : Nat} {o : Oper} {nn : Nat} {v : Value} {A1 : AS} {ob : AObj} (hm : makesMem o = true) (h : R P base σ A W) (ht : TR σ t n a.tmps) (e : aOp P o t ⟨h0, nn, lo0⟩ = some (.value v, A1)) (hg : A1.h.get nn = some ob) :
    Makes P σ W ((execOp a.eval o).run P W) nn v ob := by
  cases ho : o.op with
  | alloc ty =>
    simp only [aOp, ho] at e
    unfold xAlloc at e
    split at e <;> try (simp at e; done)
    rename_i z hz
    obtain ⟨h60, rfl, rfl⟩ := newC_get e hg
    obtain ⟨zv, hr, hcl, hzz⟩ := run_zeroValue ty hz W
    have hcc : VRs σ z z := by rw [← hzz]; exact (closed_VR σ zv hcl).cells
    refine ⟨_, _, _, .pointer (some ⟨W.heap.size, 0, none⟩), by simp [execOp, ho, Instr.alloc, hr, newVar, run_newRow]; rfl, rfl, rfl, cells_OR W h60 (by rw [← Array.length_toList, hzz]; exact Nat.le_refl _) (fun i v hi hv => ?_), fun τ hle hτ => ?_, by exact ⟨rfl, rfl⟩⟩
    · rcases cellF_lt hv with hq | ⟨_, hq⟩
      · simp [T.get_leaf] at hq
      · rw [nth_eq, Nat.mod_eq_of_lt hi] at hq
        obtain ⟨v', q1, q2⟩ := hcc.get i v hq
        exact ⟨v', by rw [← Array.getElem?_toList, hzz]; exact q1, q2⟩
    · have := VR.ptr (o := 0) hτ
      simpa using this
  | box ty x =>
    simp only [aOp, ho] at e
    unfold xBox boxV at e
    split at e <;> try (simp at e; done)
    rename_i u hu
    obtain ⟨h60, rfl, rfl⟩ := newC_get e hg
    have hu' := eval_sound h ht hu
    have hl := hu'.cells
    have hlen := hl.length
    simp only [Array.length_toList] at hlen
    refine ⟨_, _, _, .pointer (some ⟨W.heap.size, 0, none⟩), by simp [execOp, ho, Instr.box, newVar, run_newRow]; rfl, rfl, rfl, cells_OR W h60 (by omega) (fun i u hi hu => ?_), fun τ hle hτ => ?_, by exact ⟨rfl, rfl⟩⟩
    · obtain ⟨v', q1, q2⟩ := hl.setAll_cell (by simpa using h60) i u (by simpa using hi) hu
      exact ⟨v', by simpa using q1, q2⟩
    · have := VR.ptr (o := 0) hτ
      simpa using this
  | makeMap ty q =>
    cases q with
    | some x => simp [makesMem, ho] at hm
    | none =>
      simp only [aOp, ho] at e
      unfold xMakeMap at e
      simp at e; obtain ⟨rfl, rfl⟩ := e
      have hob : ob = .map [] 0 := by
        rcases T.set_get _ _ _ _ _ hg with ⟨_, q⟩ | ⟨q, _⟩
        · exact q.symm
        · exact absurd rfl q
      subst hob
      exact ⟨⟨W.heap.size, 0, 0, 0⟩, .map #[] 0, { W with heap := W.heap.push (.map #[] 0) }, .map (some W.heap.size), by simp [execOp, ho, Instr.makeMap, newObj, Sem.run], rfl, rfl, ⟨#[], rfl, .nil⟩, fun τ hle hτ => .map hτ, by exact ⟨rfl, rfl⟩⟩
  | buildSlice ty len parts =>
    simp only [aOp, ho] at e
    unfold xBuildSlice sliceOf at e
    split at e <;> try (simp at e; done)
    rename_i ps elem hps hu
    split at e <;> try (simp at e; done)
    rename_i sz z hsz hz
    cases hcond : Nat.ble (len * sz) (2 ^ 24) with
    | false => rw [hcond] at e; simp at e
    | true =>
    rw [hcond] at e; simp only [cond_true] at e
    have hcond := Nat.le_of_ble_eq_true hcond
    split at e <;> try (simp at e; done)
    rename_i tr htr
    obtain ⟨h60, rfl, rfl⟩ := newC_get e hg
    have hp := evalParts_sound h ht hps
    have hparts : (parts.map fun (i, x) => (i, a.eval x)).toList = parts.toList.map fun x => (x.1, a.eval x.2) := by simp
    obtain ⟨zv, hr, hcl, hzz⟩ := run_zeroValue elem hz W
    obtain ⟨zc, hzc, hzr⟩ : ∃ zc : Array Value, (len * sz ≠ 0 → zc.toList = z) ∧ ((len * sz = 0 ∧ zc = #[]) ∨ (len * sz ≠ 0 ∧ zc = zv.cells)) := by
      by_cases h0 : len * sz = 0
      · exact ⟨#[], fun q => absurd h0 q, .inl ⟨h0, rfl⟩⟩
      · exact ⟨zv.cells, fun _ => hzz, .inr ⟨h0, rfl⟩⟩
    obtain ⟨cs', q1, q2, q3⟩ := parts_sound (σ := σ) (z := z) h60 hp (cs := (Array.range (len * sz)).map (zc[· % zc.size]!)) (by simp) (fun i v hi hv =>
      pattern_cell (hzc (by omega)) (zeroP_closed hz) hi hv) htr
    refine ⟨_, _, { W with heap := W.heap.push (.cells cs' elem) }, .slice (some ⟨W.heap.size, 0, none⟩) len len, ?_, rfl, rfl, cells_OR W h60 (by omega) q3, fun τ hle hτ => ?_, by exact ⟨rfl, rfl⟩⟩
    · simp only [execOp, ho, Instr.buildSlice, Sem.run_bind, run_underlying ty hu, Result.andThen_ok, run_sizeOf elem hsz]
      rw [if_neg (by omega)]
      rcases hzr with ⟨h0, rfl⟩ | ⟨h0, rfl⟩
      · rw [if_pos h0]; simp only [Sem.run_bind, Sem.run_pure, Result.andThen_ok]; rw [hparts]; simp only [q1, Sem.run_bind, run_newRow, Result.andThen_ok, Sem.run_pure]
      · rw [if_neg h0]; simp only [Sem.run_bind, Sem.run_pure, Result.andThen_ok, hr]; rw [hparts]; simp only [q1, Sem.run_bind, run_newRow, Result.andThen_ok, Sem.run_pure]
    · exact .slice hτ (Nat.le_refl _) (Nat.le_refl _) (.inl rfl) (.inl (by simp))
  | makeSlice ty x y =>
    simp only [aOp, ho] at e
    unfold xMakeSlice makeSliceV at e
    split at e <;> try (simp at e; done)
    rename_i l c elem hl hc hu
    split at e <;> try (simp at e; done)
    rename_i inf z hinf hz
    cases hcond : (Nat.ble l c && Nat.ble (c * inf.bytes) (2 ^ 40) && Nat.ble c (2 ^ 40)) with
    | false => rw [hcond] at e; simp at e
    | true =>
      rw [hcond] at e
      simp only [cond_true] at e
      simp only [Bool.and_eq_true] at hcond
      obtain ⟨⟨h1, h2⟩, h3⟩ := hcond
      have h1 := Nat.le_of_ble_eq_true h1
      have h2 := Nat.le_of_ble_eq_true h2
      have h3 := Nat.le_of_ble_eq_true h3
      obtain ⟨h60, rfl, rfl⟩ := newC_get e hg
      obtain ⟨k, hk⟩ := bind_natOf hl
      obtain ⟨k', hk'⟩ := bind_natOf hc
      have ex : a.eval x = .int k (.ofNat l) := (eval_sound h ht hk).eq_of_closed rfl
      have ey : a.eval y = .int k' (.ofNat c) := (eval_sound h ht hk').eq_of_closed rfl
      have hsz : sizeP P elem = some inf.size := by simp [sizeP, hinf]
      obtain ⟨zv, hr, hcl, hzz⟩ := run_zeroValue elem hz W
      have wl : IntKind.i64.wrap (Int.ofNat l) = (l : Int) := wrap_i64 l (by omega)
      have wc : IntKind.i64.wrap (Int.ofNat c) = (c : Int) := wrap_i64 c (by omega)
      have hb : ¬ ((inf.bytes : Int) * (c : Int) > 2 ^ 48) := by
        have : (inf.bytes * c : Nat) ≤ 2 ^ 40 := by rw [Nat.mul_comm]; exact h2
        have h' : ((inf.bytes * c : Nat) : Int) ≤ ((2 ^ 40 : Nat) : Int) := Int.ofNat_le.2 this
        rw [Int.natCast_mul] at h'
        have : ((2 ^ 40 : Nat) : Int) ≤ 2 ^ 48 := by decide
        omega
      obtain ⟨zc, hzc, hzr⟩ : ∃ zc : Array Value, (c * inf.size ≠ 0 → zc.toList = z) ∧ ((c * inf.size = 0 ∧ zc = #[]) ∨ (c * inf.size ≠ 0 ∧ zc = zv.cells)) := by
        by_cases h0 : c * inf.size = 0
        · exact ⟨#[], fun q => absurd h0 q, .inl ⟨h0, rfl⟩⟩
        · exact ⟨zv.cells, fun _ => hzz, .inr ⟨h0, rfl⟩⟩
      refine ⟨_, _, { W with heap := W.heap.push (.cells ((Array.range (c * inf.size)).map (zc[· % zc.size]!)) elem) }, .slice (some ⟨W.heap.size, 0, none⟩) l c, ?_, rfl, rfl,
        cells_OR W h60 (by simp) (fun i v hi hv => pattern_cell (hzc (by omega)) (zeroP_closed hz) hi hv), fun τ hle hτ => ?_, by exact ⟨rfl, rfl⟩⟩
      · have q1 : ¬ ((c : Int) < 0) := by omega
        have q2 : ¬ ((l : Int) < 0) := by omega
        have q3 : ¬ ((l : Int) > (c : Int)) := by omega
        simp only [execOp, ho, Instr.makeSlice, ex, ey, asInt, asIntOf, Sem.run_bind, Sem.run_pure, run_underlying ty hu, run_typeInfo elem hinf, Result.andThen_ok, wl, wc]
        simp only [q1, q2, q3, hb, decide_false, Bool.or_false, Bool.false_eq_true, if_false, Int.toNat_natCast, run_askRoom, Sem.run_bind, Result.andThen_ok, run_sizeOf elem hsz]
        rcases hzr with ⟨h0, rfl⟩ | ⟨h0, rfl⟩
        · rw [if_pos h0]; simp only [Sem.run_bind, Sem.run_pure, Result.andThen_ok, run_newRow]
        · rw [if_neg h0]; simp only [Sem.run_bind, Sem.run_pure, Result.andThen_ok, run_newRow, hr]
      · exact .slice hτ h1 (Nat.le_refl _) (.inl rfl) (.inl (by simp))
  | _ => simp [makesMem, ho] at hm

end Go.Eng
