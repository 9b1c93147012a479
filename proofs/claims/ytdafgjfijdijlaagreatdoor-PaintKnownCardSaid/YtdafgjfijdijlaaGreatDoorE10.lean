/- Part of an abstract machine that runs the program's code in Lean's kernel, and of the proof that what it answers every run of the model answers (Go.Eng; program-independent). No condition. -/
import Derived.Test.YtdafgjfijdijlaaGreatDoorE9
namespace Go.Eng
open Go

variable {P : Program} {base : Nat} {σ : Sg} {A : AS} {W : World} {t : T Value} {n : Nat} {a : Act}

/-! Slices. -/
theorem pureRun_boundsPanic {α : Type} (k : IntKind) (x y : Int) (c : BoundsCode) : pureRun P (boundsPanic k x y c : Sem α) = none := by
  unfold boundsPanic
  dsimp only
  split
  · rfl
  · rfl
theorem sliceBound_inv {x : Value} {y : Nat} {c : BoundsCode} {i : Nat} (h : pureRun P (Instr.sliceBound x y c) = some i) : ∃ k j, x = .int k j ∧ 0 ≤ j ∧ j ≤ y ∧ i = j.toNat := by
  unfold Instr.sliceBound at h
  rw [pureRun_bind'] at h
  cases x <;> try (simp [asIntOf, stuck, pureRun] at h; done)
  · rename_i k j
    simp only [asIntOf, pureRun_pure, Option.bind_some] at h
    split at h
    · rename_i hb
      simp [pureRun_pure] at h
      exact ⟨k, j, rfl, hb.1, hb.2, h.symm⟩
    · rw [pureRun_boundsPanic] at h; simp at h
  · rename_i p
    cases p <;> simp [asIntOf, stuck, unsupported, pureRun] at h
theorem sliceBound_run {k : IntKind} {j : Int} {y : Nat} {c : BoundsCode} (h0 : 0 ≤ j) (h1 : j ≤ y) (W : World) : (Instr.sliceBound (.int k j) y c).run P W = .ok j.toNat W := by
  simp [Instr.sliceBound, asIntOf, h0, h1]

theorem sliceBounds_inv {b : Bool} {len cap : Nat} {lo hi mx : Option Value} {l h m : Nat} (hlc : len ≤ cap) (e : pureRun P (Instr.sliceBounds b len cap lo hi mx) = some (l, h, m)) :
    (∀ v, lo = some v → closedV v = true) ∧ (∀ v, hi = some v → closedV v = true) ∧ (∀ v, mx = some v → closedV v = true) ∧ l ≤ h ∧ h ≤ m ∧ m ≤ cap ∧ (mx = none → m = cap) ∧
    ∀ cap', cap ≤ cap' → ∀ W, (Instr.sliceBounds b len cap' lo hi mx).run P W = .ok (l, h, if mx = none then cap' else m) W := by
  unfold Instr.sliceBounds at e
  cases mx with
  | none =>
    simp only [pureRun_bind', pureRun_pure, Option.bind_some] at e
    cases hi with
    | none =>
      simp only [pureRun_bind', pureRun_pure, Option.bind_some] at e
      cases lo with
      | none =>
        simp [pureRun_pure] at e
        obtain ⟨rfl, rfl, rfl⟩ := e
        exact ⟨by simp, by simp, by simp, by omega, hlc, Nat.le_refl _, fun _ => rfl, fun cap' hc W => by simp [Instr.sliceBounds]⟩
      | some vl =>
        simp only [Option.isSome_none, Bool.false_eq_true, if_false, pureRun_bind'] at e
        cases q : pureRun P (Instr.sliceBound vl len .sliceB) with
        | none => rw [q] at e; simp at e
        | some l1 =>
          rw [q] at e
          simp [pureRun_pure] at e
          obtain ⟨rfl, rfl, rfl⟩ := e
          obtain ⟨k, j, rfl, j0, j1, rfl⟩ := sliceBound_inv q
          refine ⟨by rintro v h; cases h; rfl, by simp, by simp, by omega, hlc, Nat.le_refl _, fun _ => rfl, fun cap' hc W => ?_⟩
          simp [Instr.sliceBounds, sliceBound_run j0 j1]
    | some vh =>
      simp only [pureRun_bind'] at e
      cases qh : pureRun P (Instr.sliceBound vh cap (if b then .sliceAcap else .sliceAlen)) with
      | none => rw [qh] at e; simp at e
      | some h1 =>
        rw [qh] at e
        simp only [Option.bind_some] at e
        obtain ⟨kh, jh, rfl, jh0, jh1, rfl⟩ := sliceBound_inv qh
        cases lo with
        | none =>
          simp [pureRun_pure] at e
          obtain ⟨rfl, rfl, rfl⟩ := e
          refine ⟨by simp, by rintro v h; cases h; rfl, by simp, by omega, by omega, Nat.le_refl _, fun _ => rfl, fun cap' hc W => ?_⟩
          simp [Instr.sliceBounds, sliceBound_run jh0 (show jh ≤ (cap' : Int) by omega)]
        | some vl =>
          simp only [Option.isSome_none, Bool.false_eq_true, if_false, pureRun_bind'] at e
          cases q : pureRun P (Instr.sliceBound vl jh.toNat .sliceB) with
          | none => rw [q] at e; simp at e
          | some l1 =>
            rw [q] at e
            simp [pureRun_pure] at e
            obtain ⟨rfl, rfl, rfl⟩ := e
            obtain ⟨k, j, rfl, j0, j1, rfl⟩ := sliceBound_inv q
            refine ⟨by rintro v h; cases h; rfl, by rintro v h; cases h; rfl, by simp, by omega, by omega, Nat.le_refl _, fun _ => rfl, fun cap' hc W => ?_⟩
            simp [Instr.sliceBounds, sliceBound_run jh0 (show jh ≤ (cap' : Int) by omega), sliceBound_run j0 j1]
  | some vm =>
    simp only [pureRun_bind'] at e
    cases qm : pureRun P (Instr.sliceBound vm cap (if b then .slice3Acap else .slice3Alen)) with
    | none => rw [qm] at e; simp at e
    | some m1 =>
      rw [qm] at e
      simp only [Option.bind_some] at e
      obtain ⟨km, jm, rfl, jm0, jm1, rfl⟩ := sliceBound_inv qm
      cases hi with
      | none => (rw [pureRun_bind'] at e; simp [stuck, pureRun_halt] at e)
      | some vh =>
        simp only [pureRun_bind'] at e
        cases qh : pureRun P (Instr.sliceBound vh jm.toNat .slice3B) with
        | none => rw [qh] at e; simp at e
        | some h1 =>
          rw [qh] at e
          simp only [Option.bind_some] at e
          obtain ⟨kh, jh, rfl, jh0, jh1, rfl⟩ := sliceBound_inv qh
          cases lo with
          | none =>
            simp [pureRun_pure] at e
            obtain ⟨rfl, rfl, rfl⟩ := e
            refine ⟨by simp, by rintro v h; cases h; rfl, by rintro v h; cases h; rfl, by omega, by omega, by omega, by simp, fun cap' hc W => ?_⟩
            simp [Instr.sliceBounds, sliceBound_run jm0 (show jm ≤ (cap' : Int) by omega), sliceBound_run jh0 jh1]
          | some vl =>
            simp only [Option.isSome_some, if_true, pureRun_bind'] at e
            cases q : pureRun P (Instr.sliceBound vl jh.toNat .slice3C) with
            | none => rw [q] at e; simp at e
            | some l1 =>
              rw [q] at e
              simp [pureRun_pure] at e
              obtain ⟨rfl, rfl, rfl⟩ := e
              obtain ⟨k, j, rfl, j0, j1, rfl⟩ := sliceBound_inv q
              refine ⟨by rintro v h; cases h; rfl, by rintro v h; cases h; rfl, by rintro v h; cases h; rfl, by omega, by omega, by omega, by simp, fun cap' hc W => ?_⟩
              simp [Instr.sliceBounds, sliceBound_run jm0 (show jm ≤ (cap' : Int) by omega), sliceBound_run jh0 jh1, sliceBound_run j0 j1]

theorem optV_sound (h : R P base σ A W) (ht : TR σ t n a.tmps) {x : Option Operand} {v : Option Value} (e : optV P t x = some v) (hc : ∀ u, v = some u → closedV u = true) : x.map a.eval = v := by
  cases x with
  | none => simp [optV] at e; simp [← e]
  | some y =>
    simp only [optV] at e
    split at e <;> try (simp at e; done)
    rename_i u hu
    simp at e; subst e
    simp [(eval_sound h ht hu).eq_of_closed (hc u rfl)]

theorem subStr_eq (s : ByteArray) (l h : Nat) : s.extract l h = subStr s l h := by
  apply ByteArray.ext
  rw [ByteArray.data_extract]
  apply Array.ext'
  simp [subStr, List.extract_eq_take_drop]
theorem strSlice_sound {o : Oper} {ty : TypeId} {x : Operand} {lo hi mx : Option Operand} {s : ByteArray} {r : ANext} {A1 : AS} (ho : o.op = .slice ty x lo hi mx) (h : R P base σ A W) (ht : TR σ t n a.tmps) (hs : aEval P x t = some (.string s))
    (he : strSlice P o ty s t A (optV P t lo) (optV P t hi) (optV P t mx) = some (r, A1)) : OpSim P base σ A W ((execOp a.eval o).run P W) r A1 := by
  generalize q1 : optV P t lo = wlo at he
  generalize q2 : optV P t hi = whi at he
  generalize q3 : optV P t mx = wmx at he
  unfold strSlice at he
  split at he
  · rename_i vlo vhi
    split at he
    · rename_i l hh m hu hb
      simp at he; obtain ⟨rfl, rfl⟩ := he
      obtain ⟨c1, c2, c3, b1, b2, b3, b4, b5⟩ := sliceBounds_inv (Nat.le_refl _) hb
      have o1 := optV_sound h ht q1 c1
      have o2 := optV_sound h ht q2 c2
      have o3 := optV_sound h ht q3 c3
      have hx : a.eval x = .string s := (eval_sound h ht hs).eq_of_closed rfl
      refine sim_value (v' := .string (subStr s l hh)) h ?_ (.atom rfl)
      have hrun := b5 s.size (Nat.le_refl _) W
      have hlen : s.size = s.data.toList.length := rfl
      rw [← hlen] at hrun
      rw [if_pos rfl] at hrun
      simp only [execOp, ho, o1, o2, o3, hx, Instr.sliceAt, Instr.slice, Sem.run_bind, run_underlying ty hu, Result.andThen_ok, Sem.run_pure, subStr_eq]
      have hrun2 : (Instr.sliceBounds false s.size s.size vlo vhi none).run P W = .ok (l, hh, s.size) W := hrun
      simp only [Option.isSome_none, Bool.false_eq_true, if_false, Sem.run_bind, hrun2, Result.andThen_ok, Sem.run_pure]
    · exact pure_sound (by rw [ho]; simp) h ht he
  · exact pure_sound (by rw [ho]; simp) h ht he

theorem slice_sound {o : Oper} {ty : TypeId} {x : Operand} {lo hi mx : Option Operand} {r : ANext} {A1 : AS} (ho : o.op = .slice ty x lo hi mx) (h : R P base σ A W) (ht : TR σ t n a.tmps)
    (he : xSlice P o ty x lo hi mx t A = some (r, A1)) : OpSim P base σ A W ((execOp a.eval o).run P W) r A1 := by
  unfold xSlice at he
  split at he
  · rename_i s hs; exact strSlice_sound ho h ht hs he
  · exact pure_sound (by rw [ho]; simp) h ht he
  · rename_i v hs1 hs2 hv
    split at he <;> try (simp at he; done)
    rename_i vlo vhi vmx hlo hhi hmx
    obtain ⟨u, e1, rfl, rfl⟩ := okA_inv he
    have hv' := eval_sound h ht hv
    unfold aSlice at e1
    split at e1 <;> try (simp at e1; done)
    · rename_i k elem b off hu
      split at e1 <;> try (simp at e1; done)
      rename_i l hh m sz hb hsz
      simp at e1; subst e1
      obtain ⟨c1, c2, c3, b1, b2, b3, b4, b5⟩ := sliceBounds_inv (Nat.le_refl _) hb
      have o1 := optV_sound h ht hlo c1
      have o2 := optV_sound h ht hhi c2
      have o3 := optV_sound h ht hmx c3
      generalize hw : a.eval x = w at hv'
      cases hv' with
      | atom q => simp [atomV] at q
      | @ptr _ _ mm hbb =>
      refine sim_value (v' := .slice (some (if m = l then ⟨mm.c, off + mm.δ, none⟩ else ⟨mm.c, off + mm.δ + l * sz, none⟩)) (hh - l) (m - l)) h ?_ ?_
      · have hrun := b5 k (Nat.le_refl _) W
        have hm : (if vmx = none then k else m) = m := by split <;> simp_all
        rw [hm] at hrun
        simp only [execOp, ho, o1, o2, o3, hw, Instr.sliceAt, Sem.run_bind, run_underlying ty hu, Result.andThen_ok, Instr.sureAddr, Sem.run_pure, hrun, run_sizeOf elem hsz]
        by_cases hml : m = l
        · simp [hml]
        · simp [hml, add_eq]
      · have hN : mm.δ = mm.δ := rfl
        by_cases hml : m = l
        · subst hml
          simp only [Nat.beq_eq_true_eq, if_true, Nat.sub_self]
          rw [show (bif Nat.beq m m then (⟨b, off, none⟩ : Addr) else shiftA ⟨b, off, none⟩ (m * sz)) = ⟨b, off, none⟩ by simp]
          rw [show hh - m = 0 by omega]
          exact .slice hbb (Nat.le_refl _) (Nat.le_refl _) (.inl rfl) (.inl rfl)
        · rw [show (bif Nat.beq m l then (⟨b, off, none⟩ : Addr) else shiftA ⟨b, off, none⟩ (l * sz)) = ⟨b, off + l * sz, none⟩ by
            have : Nat.beq m l = false := by cases q : Nat.beq m l with | false => rfl | true => exact absurd (Nat.eq_of_beq_eq_true q) hml
            rw [this, cond_false, shiftA_eq]]
          rw [if_neg hml]
          exact .slice hbb (by omega) (Nat.le_refl _) (.inl rfl) (.inl (by omega))
    · rename_i elem b off len cap hu
      split at e1 <;> try (simp at e1; done)
      rename_i l hh m sz q1 q2 q3 q4 q5 q6 hb hsz hg
      cases hus : Nat.beq q4 sz with
      | false => rw [hus] at e1; simp at e1
      | true =>
      rw [hus] at e1
      simp at e1; subst e1
      have hus := Nat.eq_of_beq_eq_true hus
      generalize hw : a.eval x = w at hv'
      cases hv' with
      | atom q => simp [atomV] at q
      | @slice _ _ o' _ _ cap' mm hbb d1 d2 d3 d4 =>
      obtain ⟨c1, c2, c3, b1, b2, b3, b4, b5⟩ := sliceBounds_inv d1 hb
      have o1 := optV_sound h ht hlo c1
      have o2 := optV_sound h ht hhi c2
      have o3 := optV_sound h ht hmx c3
      obtain ⟨_, _, cc, fz', rfl, hN, hmu, _⟩ := h.live b _ mm hg hbb
      have hrun := b5 cap' d2 W
      generalize hm' : (if vmx = none then cap' else m) = m' at hrun
      refine sim_value (v' := .slice (some (if m' = l then ⟨mm.c, o', none⟩ else ⟨mm.c, o' + l * sz, none⟩)) (hh - l) (m' - l)) h ?_ ?_
      · simp only [execOp, ho, o1, o2, o3, hw, Instr.sliceAt, Instr.slice, Sem.run_bind, run_underlying ty hu, Result.andThen_ok, Sem.run_pure, hrun, run_sizeOf elem hsz]
        by_cases hml : m' = l
        · simp [hml]
        · simp [hml, add_eq]
      · have hmm : m ≤ m' := by rw [← hm']; split <;> omega
        have hbig : m' = m ∨ (m' = cap' ∧ m = cap) := by
          rw [← hm']; split
          · rename_i q; exact .inr ⟨rfl, b4 q⟩
          · exact .inl rfl
        have hsu : sz = mm.u := by rw [hmu]; exact hus.symm
        have hmul : ∀ x y : Nat, y ≤ x → (x - y) * mm.u + y * mm.u = x * mm.u := fun x y hxy => by rw [← Nat.add_mul, Nat.sub_add_cancel hxy]
        by_cases hml : m = l
        · subst hml
          rw [show (bif Nat.beq m m then (⟨b, off, none⟩ : Addr) else shiftA ⟨b, off, none⟩ (m * sz)) = ⟨b, off, none⟩ by simp]
          rw [show hh - m = 0 by omega, Nat.sub_self]
          by_cases hml' : m' = m
          · rw [if_pos hml', show m' - m = 0 by omega]
            exact .slice hbb (Nat.le_refl _) (Nat.le_refl _) (.inl rfl) (by rcases d4 with d4 | d4; exact .inl d4; exact .inr ⟨rfl, d4.2⟩)
          · rw [if_neg hml']
            obtain ⟨r1, r2⟩ := hbig.resolve_left hml'
            refine .slice hbb (Nat.le_refl _) (Nat.zero_le _) (.inr ?_) (.inr ⟨rfl, ?_⟩)
            · have := d3.resolve_left (by omega)
              have hk := hmul m' m (by omega)
              rw [hsu, r1] at *
              omega
            · rcases d4 with d4 | d4 <;> omega
        · have hml' : ¬ m' = l := by omega
          rw [show (bif Nat.beq m l then (⟨b, off, none⟩ : Addr) else shiftA ⟨b, off, none⟩ (l * sz)) = ⟨b, off + l * sz, none⟩ by
            have : Nat.beq m l = false := by cases q : Nat.beq m l with | false => rfl | true => exact absurd (Nat.eq_of_beq_eq_true q) hml
            rw [this, cond_false, shiftA_eq]]
          rw [if_neg hml']
          have ho' : o' = off + mm.δ := by rcases d4 with d4 | d4 <;> omega
          refine .slice hbb (by omega) (by omega) ?_ (.inl (by omega))
          rcases hbig with r | ⟨r1, r2⟩
          · exact .inl (by omega)
          · rcases d3 with d3 | d3
            · exact .inl (by omega)
            · refine .inr ?_
              have hk := hmul m' l (by omega)
              rw [hsu, r1] at *
              omega
  · simp at he

/-! Maps. -/
theorem ERs.isEmpty {l l' : List MapEntry} (h : ERs σ l l') : l'.isEmpty = l.isEmpty := by cases h <;> rfl
theorem ERs.length {l l' : List MapEntry} : ∀ (h : ERs σ l l'), l'.length = l.length
  | .nil => rfl
  | .cons _ b => by simp [ERs.length b]
theorem ERs.append {l l' m m' : List MapEntry} : ∀ (_ : ERs σ l l') (_ : ERs σ m m'), ERs σ (l ++ m) (l' ++ m')
  | .nil, h => h
  | .cons a b, h => .cons a (ERs.append b h)
/-- Two answers to 'where is the key'. -/
def FR (σ : Sg) : Option (Nat × Value) → Option (Nat × Value) → Prop
  | none, none => True
  | some (i, v), some (j, v') => i = j ∧ VR σ v v'
  | _, _ => False
theorem findNow_rel {d : TypeDesc} {k : Value} : ∀ {l l' : List MapEntry}, ERs σ l l' → ∀ i, (match Instr.findNow d k l i with | none => Instr.findNow d k l' i = none | some r => ∃ r', Instr.findNow d k l' i = some r' ∧ FR σ r r')
  | _, _, .nil, i => ⟨none, rfl, trivial⟩
  | _, _, .cons (e := e) (e' := e') he hl, i => by
    simp only [Instr.findNow]
    rw [he.2.1]
    cases hq : Instr.sameNow d k e.key with
    | none => simp
    | some b =>
      cases b with
      | true => simp; exact ⟨rfl, he.2.2.2⟩
      | false => simpa using findNow_rel hl (i + 1)
theorem findAsking_rel {kt : TypeId} {k : Value} : ∀ {l l' : List MapEntry}, ERs σ l l' → ∀ i r, aFindAsking P kt k l i = some r → ∀ W, ∃ r', (Instr.findAsking kt k l' i).run P W = .ok r' W ∧ FR σ r r'
  | _, _, .nil, i, r, h, W => by simp [aFindAsking] at h; subst h; exact ⟨none, rfl, trivial⟩
  | _, _, .cons (e := e) (e' := e') he hl, i, r, h, W => by
    simp only [aFindAsking] at h
    split at h <;> try (simp at h; done)
    · rename_i hq
      simp at h; subst h
      refine ⟨some (i, e'.val), ?_, rfl, he.2.2.2⟩
      simp [Instr.findAsking, he.2.1, pureRun_run _ _ hq W]
    · rename_i hq
      obtain ⟨r', q1, q2⟩ := findAsking_rel hl (i + 1) r h W
      refine ⟨r', ?_, q2⟩
      simp [Instr.findAsking, he.2.1, pureRun_run _ _ hq W, q1]
theorem find_sound {kt : TypeId} {k : Value} {l l' : List MapEntry} (hl : ERs σ l l') {r : Option (Nat × Value)} (h : aFind P kt k l = some r) (W : World) : ∃ r', (Instr.findKey kt k l').run P W = .ok r' W ∧ FR σ r r' := by
  unfold aFind at h
  split at h <;> try (simp at h; done)
  rename_i d hd
  have hrel := findNow_rel (d := d) (k := k) hl 0
  split at h
  · rename_i r1 hr1
    simp at h; subst h
    rw [hr1] at hrel
    obtain ⟨r', q1, q2⟩ := hrel
    exact ⟨r', by simp [Instr.findKey, run_underlying kt hd, q1], q2⟩
  · rename_i hr1
    rw [hr1] at hrel
    obtain ⟨r', q1, q2⟩ := findAsking_rel hl 0 r h W
    refine ⟨r', ?_, q2⟩
    simp only [Instr.findKey, Sem.run_bind, run_underlying kt hd, Result.andThen_ok]
    simp only at hrel
    rw [hrel]; exact q1

theorem lookup_sound {ty : TypeId} {x ix : Operand} {ok : Bool} {r : ANext} {A1 : AS} (h : R P base σ A W) (ht : TR σ t n a.tmps) (he : xLookup P ty x ix ok t A = some (r, A1)) :
    OpSim P base σ A W ((do pure (.value (← Instr.lookup ty (a.eval x) (a.eval ix) ok)) : Sem Next).run P W) r A1 := by
  unfold xLookup lookupV at he
  split at he <;> try (simp at he; done)
  rename_i m k kt et hm hk hu
  split at he <;> try (simp at he; done)
  rename_i es c hes hck
  have hk' : a.eval ix = k := (eval_sound h ht hk).eq_of_closed hck
  have hm' := eval_sound h ht hm
  -- the entries
  obtain ⟨es', hrel, hx⟩ : ∃ es' : Array MapEntry, ERs σ es es'.toList ∧ ((a.eval x = .map none ∧ es' = #[]) ∨ ∃ b cl, a.eval x = .map (some b) ∧ W.heap[b]? = some (.map es' cl)) := by
    unfold aEntries at hes
    split at hes <;> try (simp at hes; done)
    · simp at hes; obtain ⟨rfl, rfl⟩ := hes
      exact ⟨#[], .nil, .inl ⟨hm'.eq_of_closed rfl, rfl⟩⟩
    · rename_i b
      split at hes <;> try (simp at hes; done)
      rename_i es0 c0 hg
      simp at hes; obtain ⟨rfl, rfl⟩ := hes
      generalize a.eval x = w at hm'
      cases hm' with
      | atom q => simp [atomV] at q
      | @map _ mm hb =>
      obtain ⟨o', e1, es', rfl, e2⟩ := h.live b _ mm hg hb
      exact ⟨es', e2, .inr ⟨_, _, rfl, e1⟩⟩
  have hemp : es'.isEmpty = es.isEmpty := by rw [← hrel.isEmpty]; simp
  split at he <;> try (simp at he; done)
  · rename_i q0 q1 q2 i v hchk hf
    simp at he; obtain ⟨rfl, rfl⟩ := he
    obtain ⟨r', f1, f2⟩ := find_sound hrel hf W
    have hchk' := pureRun_run _ _ hchk W
    rw [← hemp] at hchk'
    cases r' with
    | none => exact f2.elim
    | some p =>
      obtain ⟨j, v'⟩ := p
      obtain ⟨rfl, hv⟩ := f2
      refine sim_value (v' := if ok then .tuple #[v', .bool true] else v') h ?_ ?_
      · rcases hx with ⟨hx, rfl⟩ | ⟨b, cl, hx, hb⟩
        · simp only [Instr.lookup, Sem.run_bind, run_underlying ty hu, Result.andThen_ok, hx, hk', hchk', Sem.run_pure, f1]
        · simp only [Instr.lookup, Sem.run_bind, run_underlying ty hu, Result.andThen_ok, hx, hk', getObj, Sem.run, hb, hchk', Sem.run_pure, f1]
      · cases ok
        · simpa using hv
        · exact .tuple (.cons hv (.cons (.atom rfl) .nil))
  · rename_i q0 q1 q2 inf hchk hf hinf
    split at he <;> try (simp at he; done)
    rename_i z hz
    cases hcz : closedV z with
    | false => rw [hcz] at he; simp at he
    | true =>
    rw [hcz] at he
    simp at he; obtain ⟨rfl, rfl⟩ := he
    obtain ⟨r', f1, f2⟩ := find_sound hrel hf W
    have hchk' := pureRun_run _ _ hchk W
    rw [← hemp] at hchk'
    cases r' with
    | some p => exact f2.elim
    | none =>
      refine sim_value (v' := if ok then .tuple #[z, .bool false] else z) h ?_ ?_
      · have hzr : (zeroValue et).run P W = .ok z W := by simp [zeroValue, run_typeInfo et hinf, hz]
        rcases hx with ⟨hx, rfl⟩ | ⟨b, cl, hx, hb⟩
        · simp only [Instr.lookup, Sem.run_bind, run_underlying ty hu, Result.andThen_ok, hx, hk', hchk', Sem.run_pure, f1, hzr]
        · simp only [Instr.lookup, Sem.run_bind, run_underlying ty hu, Result.andThen_ok, hx, hk', getObj, Sem.run, hb, hchk', Sem.run_pure, f1, hzr]
      · cases ok
        · simpa using closed_VR σ z hcz
        · exact .tuple (.cons (closed_VR σ z hcz) (.cons (.atom rfl) .nil))

theorem mapUpdate_sound {ty : TypeId} {x k y : Operand} {r : ANext} {A1 : AS} (h : R P base σ A W) (ht : TR σ t n a.tmps) (he : xMapUpdate P ty x k y t A = some (r, A1)) :
    OpSim P base σ A W ((do Instr.mapUpdate ty (a.eval x) (a.eval k) (a.eval y); pure .skip : Sem Next).run P W) r A1 := by
  unfold xMapUpdate mapUpdateV at he
  split at he <;> try (simp at he; done)
  rename_i b kv v kt vt hm hk hv hu
  split at he <;> try (simp at he; done)
  rename_i es c hg hck hlo
  split at he <;> try (simp at he; done)
  rename_i q0 hchk hf
  simp at he; obtain ⟨rfl, rfl⟩ := he
  have hk' : a.eval k = kv := (eval_sound h ht hk).eq_of_closed hck
  have hm' := eval_sound h ht hm
  have hv' := eval_sound h ht hv
  generalize hw : a.eval x = w at hm'
  cases hm' with
  | atom q => simp [atomV] at q
  | @map _ mm hb =>
  obtain ⟨o', e1, es', rfl, e2⟩ := h.live b _ mm hg hb
  obtain ⟨r', f1, f2⟩ := find_sound e2 hf W
  cases r' with
  | some p => exact f2.elim
  | none =>
  have hclt := (Array.getElem?_eq_some_iff.1 e1).1
  have he1 : ER σ { key := kv, val := v, born := c } { key := kv, val := a.eval y, born := c } := ⟨hck, rfl, rfl, hv'⟩
  have hup := h.upd (b := b) (m := mm) (o1 := .map (es ++ [{ key := kv, val := v, born := c }]) (c + 1)) (o1' := .map (es'.push { key := kv, val := a.eval y, born := c }) (c + 1))
    (W1 := { W with heap := W.heap.setIfInBounds mm.c (.map (es'.push { key := kv, val := a.eval y, born := c }) (c + 1)) }) (by rw [hg]; rfl) hb (Nat.le_of_ble_eq_true hlo)
    (by simp) (fun x hx => by simp [Array.getElem?_setIfInBounds_ne (Ne.symm hx)]) (by simp [Array.getElem?_setIfInBounds, hclt])
    ⟨_, rfl, by simpa using e2.append (.cons he1 .nil)⟩
  refine ⟨σ, _, undef, .inr ⟨?_, rfl⟩, hup.1, hup.2, closed_VR σ _ (by simp [undef, closedV, closedVs])⟩
  simp only [Instr.mapUpdate, Sem.run_bind, run_underlying ty hu, Result.andThen_ok, hk', getObj, Sem.run, e1, pureRun_run _ _ hchk W, f1, setObj, Sem.run_pure]

theorem assert_sound {x : Operand} {xty ty : TypeId} {ok : Bool} {r : ANext} {A1 : AS} (h : R P base σ A W) (ht : TR σ t n a.tmps) (he : xAssert P x ty ok t A = some (r, A1)) :
    OpSim P base σ A W ((do pure (.value (← Instr.typeAssert (a.eval x) xty ty ok)) : Sem Next).run P W) r A1 := by
  unfold xAssert assertV at he
  split at he <;> try (simp at he; done)
  rename_i tx v d hx hu
  have hx' := eval_sound h ht hx
  generalize a.eval x = w at hx'
  cases hx' with
  | atom q => simp [atomV] at q
  | @iface _ _ v' hv =>
  have hd : ∀ ms, d ≠ .interface ms := by
    rintro ms rfl; simp at he
  split at he
  · simp at he
  · cases hq : Nat.beq tx ty with
    | true =>
      rw [hq] at he
      simp at he; obtain ⟨rfl, rfl⟩ := he
      have hq := Nat.eq_of_beq_eq_true hq
      refine sim_value (v' := if ok then .tuple #[v', .bool true] else v') h ?_ ?_
      · simp only [Instr.typeAssert, Sem.run_bind, run_underlying ty hu, Result.andThen_ok]
        cases d <;> first | (exact absurd rfl (hd _)) | (simp [hq])
      · cases ok
        · simpa using hv
        · exact .tuple (.cons hv (.cons (.atom rfl) .nil))
    | false =>
      rw [hq] at he
      simp only [cond_false] at he
      have hne : ¬ tx = ty := by rintro rfl; simp at hq
      cases ok with
      | false => simp at he
      | true =>
        simp only [cond_true] at he
        split at he <;> try (simp at he; done)
        rename_i inf hinf
        split at he <;> try (simp at he; done)
        rename_i z hz
        cases hcz : closedV z with
        | false => rw [hcz] at he; simp at he
        | true =>
        rw [hcz] at he
        simp at he; obtain ⟨rfl, rfl⟩ := he
        refine sim_value (v' := .tuple #[z, .bool false]) h ?_ (.tuple (.cons (closed_VR σ z hcz) (.cons (.atom rfl) .nil)))
        have hzr : (zeroValue ty).run P W = .ok z W := by simp [zeroValue, run_typeInfo ty hinf, hz]
        simp only [Instr.typeAssert, Sem.run_bind, run_underlying ty hu, Result.andThen_ok]
        cases d <;> first | (exact absurd rfl (hd _)) | (simp [hne, hzr])

theorem part_sound {ty : TypeId} {l l' : List Value} {off : Nat} {v : Value} (hl : VRs σ l l') (e : partV P ty l off = some v) : ∃ v', (part ty ⟨l'⟩ off).run P W = .ok v' W ∧ VR σ v v' := by
  unfold partV at e
  split at e
  · rename_i hag
    split at e <;> try (simp at e; done)
    rename_i n hn
    simp at e; subst e
    refine ⟨.agg ⟨(l'.drop off).take n⟩, ?_, .agg (VRs.of_get (by simp [hl.length]) fun i u u' hu hu' => ?_)⟩
    · simp only [part, Sem.run_bind, run_isAgg ty hag, Result.andThen_ok, if_true, run_sizeOf ty hn, Sem.run_pure]
      have : (⟨l'⟩ : Array Value).extract off (off + n) = ⟨(l'.drop off).take n⟩ := by
        apply Array.ext'
        simp [List.extract_eq_take_drop]
      rw [this]
    · have hi : i < n := by
        rcases Nat.lt_or_ge i n with q | q
        · exact q
        · rw [List.getElem?_eq_none (by simp; omega)] at hu; simp at hu
      rw [List.getElem?_take_of_lt hi, List.getElem?_drop] at hu hu'
      obtain ⟨w, q1, q2⟩ := hl.get _ _ hu
      rw [q1] at hu'
      cases hu'
      exact q2
  · rename_i hag
    obtain ⟨v', q1, q2⟩ := hl.get _ _ e
    refine ⟨v', ?_, q2⟩
    simp [part, run_isAgg ty hag, q1]
  · simp at e

theorem fieldOf_sound {o : Oper} {s : TypeId} {x : Operand} {f : Nat} {r : ANext} {A1 : AS} (ho : o.op = .field s x f) (h : R P base σ A W) (ht : TR σ t n a.tmps) (he : xFieldOf P o s x f t A = some (r, A1)) :
    OpSim P base σ A W ((execOp a.eval o).run P W) r A1 := by
  unfold xFieldOf fieldOfV at he
  split at he
  · rename_i cs hx
    split at he <;> try (simp at he; done)
    rename_i fields hu
    split at he <;> try (simp at he; done)
    rename_i fl hfl
    obtain ⟨u, e1, rfl, rfl⟩ := okA_inv he
    have hv := eval_sound h ht hx
    generalize hw : a.eval x = w at hv
    cases hv with
    | atom q => simp [atomV] at q
    | @agg l l' hl =>
    obtain ⟨v', q1, q2⟩ := part_sound (P := P) (W := W) hl e1
    refine sim_value (v' := v') h ?_ q2
    simp only [execOp, ho, hw, Instr.field, Sem.run_bind, run_underlying s hu, Result.andThen_ok, hfl, asAgg, Sem.run_pure, q1]
  · exact pure_sound (by rw [ho]; simp) h ht he

theorem indexStr_sound {o : Oper} {ty : TypeId} {x ix : Operand} {r : ANext} {A1 : AS} (ho : o.op = .index ty x ix) (h : R P base σ A W) (ht : TR σ t n a.tmps) (he : xIndex P o ty x ix t A = some (r, A1)) :
    OpSim P base σ A W ((execOp a.eval o).run P W) r A1 := by
  unfold xIndex indexStr at he
  split at he
  · rename_i s k i hx hi hu
    split at he <;> try (simp at he; done)
    rename_i c hc
    simp at he; obtain ⟨rfl, rfl⟩ := he
    have hx' : a.eval x = .string s := (eval_sound h ht hx).eq_of_closed rfl
    have hi' : a.eval ix = .int k (.ofNat i) := (eval_sound h ht hi).eq_of_closed rfl
    refine sim_value (v' := .int .u8 (.ofNat c.toNat)) h ?_ (.atom rfl)
    obtain ⟨hlt, hat⟩ := List.getElem?_eq_some_iff.1 hc
    have hs : s[i]? = some c := by
      have hlt' : i < s.size := by
        have : s.size = s.data.toList.length := rfl
        omega
      rw [getElem?_pos s i hlt']
      rw [← hat]; rfl
    have hif : (if 0 ≤ (Int.ofNat i) then s[(Int.ofNat i).toNat]? else none) = some c := (if_pos (Int.natCast_nonneg i)).trans hs
    simp only [execOp, ho, hx', hi', Instr.index, asIntOf, Sem.run_bind, Sem.run_pure, Result.andThen_ok, run_underlying ty hu, hif]
    rfl
  · exact pure_sound (by rw [ho]; simp) h ht he

end Go.Eng
