/- Part of an abstract machine that runs the program's code in Lean's kernel, and of the proof that what it answers every run of the model answers (Go.Eng; program-independent). No condition. -/
import Derived.Test.YtdafgjfijdijlaaGreatDoorE8
namespace Go.Eng
open Go

variable {P : Program} {base : Nat} {σ : Sg} {A : AS} {W : World} {t : T Value} {n : Nat} {a : Act}

theorem wrap_i64 (n : Nat) (h : n < 2 ^ 63) : IntKind.i64.wrap (n : Int) = n := by
  simp [IntKind.wrap, IntKind.bits, IntKind.signed]; omega
theorem run_askRoom (b : Nat) (W : World) : (askRoom b).run P W = .ok () W := by
  unfold askRoom; split <;> simp [mark, Sem.run]
theorem natOf_inv {v : Value} {i : Nat} (h : natOf v = some i) : ∃ k, v = .int k (.ofNat i) := by
  unfold natOf at h
  split at h <;> simp at h
  subst h; exact ⟨_, rfl⟩
theorem bind_natOf {o : Option Value} {i : Nat} (h : o.bind natOf = some i) : ∃ k, o = some (.int k (.ofNat i)) := by
  cases o with
  | none => simp at h
  | some v => obtain ⟨k, rfl⟩ := natOf_inv (by simpa using h); exact ⟨k, rfl⟩

/-- A pattern laid again and again. -/
theorem pattern_cell {z : List Value} {zc : Array Value} {N i : Nat} {v : Value} (hz : zc.toList = z) (hcl : closedVs z = true) (hi : i < N) (hv : cellF .leaf z i = some v) :
    ∃ v', ((Array.range N).map (zc[· % zc.size]!))[i]? = some v' ∧ VR σ v v' := by
  rcases cellF_lt hv with hq | ⟨_, hq⟩
  · simp [T.get_leaf] at hq
  · rw [nth_eq] at hq
    have hzs : zc.size = z.length := by rw [← Array.length_toList, hz]
    have hq' : zc[i % zc.size]? = some v := by rw [← Array.getElem?_toList, hz, hzs]; exact hq
    refine ⟨v, ?_, ?_⟩
    · rw [Array.getElem?_map, Array.getElem?_range, if_pos hi]
      simp [getElem!_def, hq']
    · have : v ∈ z := List.mem_of_getElem? hq
      have hc : closedV v = true := by
        clear hq hq' hzs hz hv
        induction z with
        | nil => simp at this
        | cons x z ih =>
          simp only [closedVs, Bool.and_eq_true] at hcl
          rcases List.mem_cons.1 this with rfl | this
          · exact hcl.1
          · exact ih hcl.2 this
      exact closed_VR σ v hc

theorem zeroP_closed {ty : TypeId} {z : List Value} (h : zeroP P ty = some z) : closedVs z = true := by
  unfold zeroP at h
  split at h <;> try (simp at h; done)
  split at h <;> try (simp at h; done)
  rename_i v hv
  cases hc : closedV v with
  | false => simp [hc] at h
  | true =>
    simp [hc] at h; subst h
    cases v with
    | agg l => cases l; exact hc
    | _ => simp [Value.cells, closedVs, hc]

theorem makeSlice_sound {ty : TypeId} {x y : Operand} {r : ANext} {A1 : AS} (h : R P base σ A W) (ht : TR σ t n a.tmps) (he : xMakeSlice P ty x y t A = some (r, A1)) :
    OpSim P base σ A W ((do pure (.value (← Instr.makeSlice ty (a.eval x) (a.eval y))) : Sem Next).run P W) r A1 := by
  unfold xMakeSlice makeSliceV at he
  split at he <;> try (simp at he; done)
  rename_i l c elem hl hc hu
  split at he <;> try (simp at he; done)
  rename_i inf z hinf hz
  cases hcond : (Nat.ble l c && Nat.ble (c * inf.bytes) (2 ^ 40) && Nat.ble c (2 ^ 40)) with
  | false => rw [hcond] at he; simp at he
  | true =>
    rw [hcond] at he
    simp only [cond_true] at he
    simp only [Bool.and_eq_true] at hcond
    obtain ⟨⟨h1, h2⟩, h3⟩ := hcond
    have h1 := Nat.le_of_ble_eq_true h1
    have h2 := Nat.le_of_ble_eq_true h2
    have h3 := Nat.le_of_ble_eq_true h3
    obtain ⟨h60, rfl, rfl⟩ := newC_inv he
    obtain ⟨k, hk⟩ := bind_natOf hl
    obtain ⟨k', hk'⟩ := bind_natOf hc
    have ex : a.eval x = .int k (.ofNat l) := (eval_sound h ht hk).eq_of_closed rfl
    have ey : a.eval y = .int k' (.ofNat c) := (eval_sound h ht hk').eq_of_closed rfl
    have hsz : sizeP P elem = some inf.size := by simp [sizeP, hinf]
    obtain ⟨zv, hr, hcl, hzz⟩ := run_zeroValue elem hz W
    have wl : IntKind.i64.wrap (Int.ofNat l) = (l : Int) := wrap_i64 l (by omega)
    have wc : IntKind.i64.wrap (Int.ofNat c) = (c : Int) := wrap_i64 c (by omega)
    have hb : ¬ ((inf.bytes : Int) * (c : Int) > 2 ^ 48) := by
      have : (inf.bytes * c : Nat) ≤ 2 ^ 40 := by rw [Nat.mul_comm]; exact h2
      have h' : ((inf.bytes * c : Nat) : Int) ≤ ((2 ^ 40 : Nat) : Int) := Int.ofNat_le.2 this
      rw [Int.natCast_mul] at h'
      have : ((2 ^ 40 : Nat) : Int) ≤ 2 ^ 48 := by decide
      omega
    obtain ⟨zc, hzc, hzr⟩ : ∃ zc : Array Value, (c * inf.size ≠ 0 → zc.toList = z) ∧ ((c * inf.size = 0 ∧ zc = #[]) ∨ (c * inf.size ≠ 0 ∧ zc = zv.cells)) := by
      by_cases h0 : c * inf.size = 0
      · exact ⟨#[], fun q => absurd h0 q, .inl ⟨h0, rfl⟩⟩
      · exact ⟨zv.cells, fun _ => hzz, .inr ⟨h0, rfl⟩⟩
    obtain ⟨m, m1, m2, m3, m4, m5, r1, r2⟩ := h.newCells (tr := .leaf) (size := c * inf.size) (z := z) (u := inf.size) (e := elem) (cs := (Array.range (c * inf.size)).map (zc[· % zc.size]!)) h60 (by simp) (fun i v hi hv =>
      pattern_cell (hzc (by omega)) (zeroP_closed hz) hi hv)
    refine ⟨_, _, .slice (some ⟨W.heap.size, 0, none⟩) l c, .inl ?_, r1, r2, ?_⟩
    · have q1 : ¬ ((c : Int) < 0) := by omega
      have q2 : ¬ ((l : Int) < 0) := by omega
      have q3 : ¬ ((l : Int) > (c : Int)) := by omega
      simp only [Instr.makeSlice, ex, ey, asInt, asIntOf, Sem.run_bind, Sem.run_pure, run_underlying ty hu, run_typeInfo elem hinf, run_sizeOf elem hsz, Result.andThen_ok, wl, wc]
      simp only [q1, q2, q3, hb, decide_false, Bool.or_false, Bool.false_eq_true, if_false, Int.toNat_natCast, run_askRoom, Sem.run_bind, Result.andThen_ok, run_sizeOf elem hsz]
      rcases hzr with ⟨h0, rfl⟩ | ⟨h0, rfl⟩
      · rw [if_pos h0]; simp only [Sem.run_bind, Sem.run_pure, Result.andThen_ok, run_newRow]
      · rw [if_neg h0]; simp only [Sem.run_bind, Sem.run_pure, Result.andThen_ok, run_newRow, hr]
    · have hN : m.N = c * inf.size := by rw [m4]; simp
      have := VR.slice (σ := σ.add A.nx m) (b := A.nx) (o := 0) (o' := 0) (len := l) (cap := c) (cap' := c) (m := m) (Sg.add_at σ A.nx m) h1 (Nat.le_refl _) (.inl rfl) (.inl (by omega))
      rw [m1] at this; exact this

/-! Structs and rows written out. -/
inductive PRs (σ : Sg) : List (Nat × Value) → List (Nat × Value) → Prop
  | nil : PRs σ [] []
  | cons {i : Nat} {v v' : Value} {l l' : List (Nat × Value)} : VR σ v v' → PRs σ l l' → PRs σ ((i, v) :: l) ((i, v') :: l')
theorem evalParts_sound (h : R P base σ A W) (ht : TR σ t n a.tmps) : ∀ {l : List (Nat × Operand)} {ps : List (Nat × Value)}, evalParts P t l = some ps → PRs σ ps (l.map fun x => (x.1, a.eval x.2))
  | [], ps, e => by simp [evalParts] at e; subst e; exact .nil
  | (i, x) :: l, ps, e => by
    simp only [evalParts] at e
    cases h1 : aEval P x t with
    | none => simp [h1] at e
    | some v =>
      simp only [h1] at e
      cases h2 : evalParts P t l with
      | none => simp [h2] at e
      | some vs' => simp [h2] at e; subst e; exact .cons (eval_sound h ht h1) (evalParts_sound h ht h2)

theorem foldl_wr : ∀ (l : List Value) (off k : Nat) (cs : Array Value), (l.zipIdx k).foldl (fun cs (x : Value × Nat) => cs.setIfInBounds (off + x.2) x.1) cs = wr cs (off + k) l
  | [], off, k, cs => by simp [wr]
  | v :: l, off, k, cs => by
    rw [List.zipIdx_cons, List.foldl_cons, foldl_wr l off (k + 1)]
    simp [wr, Nat.add_assoc]
theorem arr_foldl_wr (vs : Array Value) (off : Nat) (cs : Array Value) : vs.zipIdx.foldl (fun cs (x : Value × Nat) => cs.setIfInBounds (off + x.2) x.1) cs = wr cs off vs.toList := by
  rw [← Array.foldl_toList, Array.toList_zipIdx, foldl_wr]; simp

/-- A list of cells written into cells. -/
theorem spliceL_get : ∀ (l : List Value) (off : Nat) (vs : List Value) (j : Nat), off + vs.length ≤ l.length → (spliceL l off vs)[j]? = if off ≤ j ∧ j < off + vs.length then vs[j - off]? else l[j]?
  | l, 0, [], j, _ => by cases l <;> simp [spliceL]
  | [], off + 1, vs, j, h => by simp at h
  | [], 0, v :: vs, j, h => by simp at h
  | x :: l, 0, v :: vs, j, h => by
    simp only [List.length_cons] at h
    cases j with
    | zero => simp [spliceL]
    | succ j =>
      simp only [spliceL, List.getElem?_cons_succ]
      rw [spliceL_get l 0 vs j (by omega)]
      by_cases hj : j < vs.length
      · simp [hj]
      · simp [hj]
  | x :: l, off + 1, vs, j, h => by
    simp only [List.length_cons] at h
    cases j with
    | zero => simp [spliceL]
    | succ j =>
      simp only [spliceL, List.getElem?_cons_succ]
      rw [spliceL_get l off vs j (by omega)]
      by_cases hj : off ≤ j ∧ j < off + vs.length
      · rw [if_pos hj, if_pos (by omega), show j + 1 - (off + 1) = j - off from by omega]
      · rw [if_neg hj, if_neg (by omega)]
theorem spliceL_length : ∀ (l : List Value) (off : Nat) (vs : List Value), off + vs.length ≤ l.length → (spliceL l off vs).length = l.length
  | l, 0, [], _ => by cases l <;> simp [spliceL]
  | [], off + 1, vs, h => by simp at h
  | [], 0, v :: vs, h => by simp at h
  | x :: l, 0, v :: vs, h => by simp only [List.length_cons] at h ⊢; simp [spliceL, spliceL_length l 0 vs (by omega)]
  | x :: l, off + 1, vs, h => by simp only [List.length_cons] at h ⊢; simp [spliceL, spliceL_length l off vs (by omega)]

theorem fill_sound {place place' : Nat → Option (Nat × Nat)} : ∀ {ps ps' : List (Nat × Value)} {cells l : List Value} {cs : Array Value}, PRs σ ps ps' → (∀ i x, place i = some x → place' i = some x) →
    VRs σ cells cs.toList → aFill place cells ps = some l → ∃ cs', Instr.fill place' cs ps' = some cs' ∧ VRs σ l cs'.toList
  | _, _, cells, l, cs, .nil, _, hc, e => by simp [aFill] at e; subst e; exact ⟨cs, rfl, hc⟩
  | _, _, cells, l, cs, .cons (i := i) (v := v) (v' := v') hv hp, hpl, hc, e => by
    simp only [aFill] at e
    split at e <;> try (simp at e; done)
    rename_i off size hpi
    cases hcond : (Nat.beq v.cells.size size && Nat.ble (off + size) cells.length) with
    | false => rw [hcond] at e; simp at e
    | true =>
      rw [hcond] at e; simp only [cond_true] at e
      simp only [Bool.and_eq_true] at hcond
      have h1 := Nat.eq_of_beq_eq_true hcond.1
      have h2 := Nat.le_of_ble_eq_true hcond.2
      have hvc := hv.cells
      have hvl := hvc.length
      simp only [Array.length_toList] at hvl
      have hcl := hc.length
      simp only [Array.length_toList] at hcl
      have hnew : VRs σ (spliceL cells off v.cells.toList) (wr cs off v'.cells.toList).toList := by
        refine VRs.of_get (by rw [spliceL_length _ _ _ (by simp; omega), Array.length_toList, wr_size]; omega) fun j x x' hx hx' => ?_
        rw [spliceL_get _ _ _ _ (by simp; omega)] at hx
        rw [Array.getElem?_toList, wr_get _ _ _ _ (by simp; omega)] at hx'
        by_cases hj : off ≤ j ∧ j < off + v.cells.toList.length
        · rw [if_pos hj] at hx
          rw [if_pos (by simp at hj ⊢; omega)] at hx'
          obtain ⟨y, q1, q2⟩ := hvc.get _ _ hx
          rw [q1] at hx'; cases hx'; exact q2
        · rw [if_neg hj] at hx
          rw [if_neg (by simp at hj ⊢; omega)] at hx'
          obtain ⟨y, q1, q2⟩ := hc.get _ _ hx
          rw [Array.getElem?_toList, hx'] at q1; cases q1; exact q2
      obtain ⟨cs', q1, q2⟩ := fill_sound hp hpl hnew e
      refine ⟨cs', ?_, q2⟩
      simp only [Instr.fill, hpl i _ hpi]
      rw [if_neg (by simp; omega)]
      rw [show (v'.cells.zipIdx.foldl (fun cs (x : Value × Nat) => match x with | (c, j) => cs.setIfInBounds (off + j) c) cs) = wr cs off v'.cells.toList from arr_foldl_wr _ _ _]
      exact q1

theorem run_fieldSizes : ∀ (l : List Field) (r : List (Nat × Nat)), fieldSizes P l = some r → ∀ W, (l.mapM (fun f => do pure (f.offset, ← sizeOf f.type) : Field → Sem (Nat × Nat))).run P W = .ok r W
  | [], r, h, W => by simp [fieldSizes] at h; subst h; simp
  | f :: l, r, h, W => by
    simp only [fieldSizes] at h
    split at h <;> try (simp at h; done)
    rename_i k hk
    split at h <;> try (simp at h; done)
    rename_i r' hr'
    simp at h; subst h
    have := run_fieldSizes l r' hr' W
    simp [List.mapM_cons, run_sizeOf _ hk] at this ⊢
    simp [this]

theorem build_sound {ty : TypeId} {parts : Array (Nat × Operand)} {r : ANext} {A1 : AS} (h : R P base σ A W) (ht : TR σ t n a.tmps) (he : xBuild P ty parts t A = some (r, A1)) :
    OpSim P base σ A W ((do pure (.value (← Instr.build ty (parts.map fun (i, x) => (i, a.eval x)))) : Sem Next).run P W) r A1 := by
  unfold xBuild at he
  split at he <;> try (simp at he; done)
  rename_i ps hps
  obtain ⟨v, e1, rfl, rfl⟩ := okA_inv he
  have hp := evalParts_sound h ht hps
  have hparts : (parts.map fun (i, x) => (i, a.eval x)).toList = parts.toList.map fun x => (x.1, a.eval x.2) := by simp
  unfold aBuild at e1
  split at e1 <;> try (simp at e1; done)
  · rename_i z fields hz hu
    split at e1 <;> try (simp at e1; done)
    rename_i pl hpl
    split at e1 <;> try (simp at e1; done)
    rename_i l hl
    simp at e1; subst e1
    obtain ⟨zv, hr, hcl, hzz⟩ := run_zeroValue ty hz W
    have hzc : VRs σ z zv.cells.toList := by rw [← hzz]; exact (closed_VR σ zv hcl).cells
    obtain ⟨cs', q1, q2⟩ := fill_sound (place' := fun i => pl.toArray[i]?) hp (fun i x hx => by simpa using hx) hzc hl
    refine sim_value (v' := .agg cs') h ?_ (by cases cs'; exact .agg q2)
    have hm := run_fieldSizes (P := P) fields.toList pl hpl W
    simp only [Instr.build, Sem.run_bind, hr, Result.andThen_ok, run_underlying ty hu, Array.mapM_eq_mapM_toList, Sem.run_map, hm]
    rw [hparts]
    simp only [q1, Sem.run_pure, Result.andThen_ok]
  · rename_i z k elem hz hu
    split at e1 <;> try (simp at e1; done)
    rename_i sz hsz
    split at e1 <;> try (simp at e1; done)
    rename_i l hl
    simp at e1; subst e1
    obtain ⟨zv, hr, hcl, hzz⟩ := run_zeroValue ty hz W
    have hzc : VRs σ z zv.cells.toList := by rw [← hzz]; exact (closed_VR σ zv hcl).cells
    obtain ⟨cs', q1, q2⟩ := fill_sound (place' := fun i => some (i * sz, sz)) hp (fun i x hx => hx) hzc hl
    refine sim_value (v' := .agg cs') h ?_ (by cases cs'; exact .agg q2)
    simp only [Instr.build, Sem.run_bind, hr, Result.andThen_ok, run_underlying ty hu, run_sizeOf _ hsz]
    rw [hparts]
    simp only [q1, Sem.run_pure, Result.andThen_ok]

/-- A row written out. -/
theorem parts_sound {size total : Nat} {z : List Value} (h60 : total ≤ 2 ^ 60) : ∀ {ps ps' : List (Nat × Value)} {tr tr' : T Value} {cs : Array Value}, PRs σ ps ps' → cs.size = total →
    (∀ i v, i < total → cellF tr z i = some v → ∃ v', cs[i]? = some v' ∧ VR σ v v') → aParts size total tr ps = some tr' →
    ∃ cs', Instr.fill (fun i => some (i * size, size)) cs ps' = some cs' ∧ cs'.size = total ∧ (∀ i v, i < total → cellF tr' z i = some v → ∃ v', cs'[i]? = some v' ∧ VR σ v v')
  | _, _, tr, tr', cs, .nil, hs, hc, e => by simp [aParts] at e; subst e; exact ⟨cs, rfl, hs, hc⟩
  | _, _, tr, tr', cs, .cons (i := i) (v := v) (v' := v') hv hp, hs, hc, e => by
    simp only [aParts] at e
    cases hcond : (Nat.beq v.cells.size size && Nat.ble (i * size + size) total) with
    | false => rw [hcond] at e; simp at e
    | true =>
      rw [hcond] at e; simp only [cond_true] at e
      simp only [Bool.and_eq_true] at hcond
      have h1 := Nat.eq_of_beq_eq_true hcond.1
      have h2 := Nat.le_of_ble_eq_true hcond.2
      have hvc := hv.cells
      have hvl := hvc.length
      simp only [Array.length_toList] at hvl
      obtain ⟨cs', q1, q2, q3⟩ := parts_sound h60 hp (cs := wr cs (i * size) v'.cells.toList) (by rw [wr_size]; exact hs) (fun j x hj hx => by
        rw [wr_get _ _ _ _ (by simp; omega)]
        have hat := T.setAll_at v.cells.toList tr (i * size) j (by simp; omega)
        by_cases hin : i * size ≤ j ∧ j < i * size + v.cells.toList.length
        · rw [if_pos hin] at hat
          rw [if_pos (by simp at hin ⊢; omega)]
          have hx' : v.cells.toList[j - i * size]? = some x := by
            rcases cellF_lt hx with hq | ⟨hq, _⟩
            · rw [hat] at hq; exact hq
            · rw [hat, List.getElem?_eq_none_iff] at hq; omega
          exact hvc.get _ _ hx'
        · rw [if_neg hin] at hat
          rw [if_neg (by simp at hin ⊢; omega)]
          refine hc j x hj ?_
          unfold cellF at hx ⊢
          rw [hat] at hx
          exact hx) e
      refine ⟨cs', ?_, q2, q3⟩
      simp only [Instr.fill]
      rw [if_neg (by simp; omega)]
      rw [show (v'.cells.zipIdx.foldl (fun cs (x : Value × Nat) => match x with | (c, j) => cs.setIfInBounds (i * size + j) c) cs) = wr cs (i * size) v'.cells.toList from arr_foldl_wr _ _ _]
      exact q1

theorem buildSlice_sound {ty : TypeId} {len : Nat} {parts : Array (Nat × Operand)} {r : ANext} {A1 : AS} (h : R P base σ A W) (ht : TR σ t n a.tmps) (he : xBuildSlice P ty len parts t A = some (r, A1)) :
    OpSim P base σ A W ((do pure (.value (← Instr.buildSlice ty len (parts.map fun (i, x) => (i, a.eval x)))) : Sem Next).run P W) r A1 := by
  unfold xBuildSlice sliceOf at he
  split at he <;> try (simp at he; done)
  rename_i ps elem hps hu
  split at he <;> try (simp at he; done)
  rename_i sz z hsz hz
  cases hcond : Nat.ble (len * sz) (2 ^ 24) with
  | false => rw [hcond] at he; simp at he
  | true =>
    rw [hcond] at he; simp only [cond_true] at he
    have hcond := Nat.le_of_ble_eq_true hcond
    split at he <;> try (simp at he; done)
    rename_i tr htr
    obtain ⟨h60, rfl, rfl⟩ := newC_inv he
    have hp := evalParts_sound h ht hps
    have hparts : (parts.map fun (i, x) => (i, a.eval x)).toList = parts.toList.map fun x => (x.1, a.eval x.2) := by simp
    obtain ⟨zv, hr, hcl, hzz⟩ := run_zeroValue elem hz W
    obtain ⟨zc, hzc, hzr⟩ : ∃ zc : Array Value, (len * sz ≠ 0 → zc.toList = z) ∧ ((len * sz = 0 ∧ zc = #[]) ∨ (len * sz ≠ 0 ∧ zc = zv.cells)) := by
      by_cases h0 : len * sz = 0
      · exact ⟨#[], fun q => absurd h0 q, .inl ⟨h0, rfl⟩⟩
      · exact ⟨zv.cells, fun _ => hzz, .inr ⟨h0, rfl⟩⟩
    obtain ⟨cs', q1, q2, q3⟩ := parts_sound (σ := σ) (z := z) h60 hp (cs := (Array.range (len * sz)).map (zc[· % zc.size]!)) (by simp) (fun i v hi hv =>
      pattern_cell (hzc (by omega)) (zeroP_closed hz) hi hv) htr
    obtain ⟨m, m1, m2, m3, m4, m5, r1, r2⟩ := h.newCells (tr := tr) (size := len * sz) (z := z) (u := sz) (e := elem) (cs := cs') h60 (by omega) q3
    refine ⟨_, _, .slice (some ⟨W.heap.size, 0, none⟩) len len, .inl ?_, r1, r2, ?_⟩
    · simp only [Instr.buildSlice, Sem.run_bind, run_underlying ty hu, Result.andThen_ok, run_sizeOf elem hsz]
      rw [if_neg (by omega)]
      rcases hzr with ⟨h0, rfl⟩ | ⟨h0, rfl⟩
      · rw [if_pos h0]; simp only [Sem.run_bind, Sem.run_pure, Result.andThen_ok]; rw [hparts]; simp only [q1, Sem.run_bind, run_newRow, Result.andThen_ok, Sem.run_pure]
      · rw [if_neg h0]; simp only [Sem.run_bind, Sem.run_pure, Result.andThen_ok, hr]; rw [hparts]; simp only [q1, Sem.run_bind, run_newRow, Result.andThen_ok, Sem.run_pure]
    · have := VR.slice (σ := σ.add A.nx m) (b := A.nx) (o := 0) (o' := 0) (len := len) (cap := len) (cap' := len) (m := m) (Sg.add_at σ A.nx m) (Nat.le_refl _) (Nat.le_refl _) (.inl rfl) (.inl (by omega))
      rw [m1] at this; exact this

end Go.Eng
