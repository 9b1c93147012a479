/- Part of an abstract machine that runs the program's code in Lean's kernel, and of the proof that what it answers every run of the model answers (Go.Eng; program-independent). No condition. -/
import Derived.Test.YtdafgjfijdijlaaGreatDoorE13
namespace Go.Eng
open Go

variable {P : Program} {base : Nat} {σ : Sg} {A : AS} {W : World} {t : T Value} {n : Nat} {a : Act}

/-- Of a built-in function: its run, and what comes of it. -/
def BSim (P : Program) (base : Nat) (σ : Sg) (A : AS) (W : World) (run : Result Next) (v : Value) (A1 : AS) : Prop :=
  ∃ σ1 W1 v', run = .ok (.value v') W1 ∧ R P base σ1 A1 W1 ∧ Ext A σ W A1 σ1 W1 ∧ VR σ1 v v'

theorem fastBuiltin_sound {b : Builtin} {ts : List TypeId} {args args' : List Value} {v : Value} (h : R P base σ A W) (ha : VRs σ args args') (e : fastBuiltin P b ts args = some v) (ty : TypeId) (cs : Array Bool) :
    BSim P base σ A W ((builtin b ⟨ts⟩ ty cs ⟨args'⟩).run P W) v A := by
  unfold fastBuiltin at e
  split at e <;> try (simp at e; done)
  · split at e <;> try (simp at e; done)
    · rename_i tt more x k c
      split at e <;> try (simp at e; done)
      rename_i el hu
      simp at e; subst e
      obtain ⟨x', _, rfl, hx, ha⟩ := ha.snoc_inv
      cases ha
      have : ∃ p c', x' = .slice p k c' := by
        cases hx with
        | atom q => exact ⟨_, _, rfl⟩
        | slice => exact ⟨_, _, rfl⟩
      obtain ⟨p, c', rfl⟩ := this
      exact ⟨σ, W, _, by simp [builtin, Builtin.len_, run_underlying tt hu, goInt], h, Ext.refl _ _ _, .atom rfl⟩
    · rename_i tt more s
      split at e <;> try (simp at e; done)
      rename_i hu
      simp at e; subst e
      obtain ⟨x', _, rfl, hx, ha⟩ := ha.snoc_inv
      cases ha
      have : x' = .string s := hx.eq_of_closed rfl
      subst this
      exact ⟨σ, W, _, by simp [builtin, Builtin.len_, run_underlying tt hu, goInt], h, Ext.refl _ _ _, .atom rfl⟩
  · split at e <;> try (simp at e; done)
    rename_i k i k' j
    cases hk : kEq k k' with
    | false => rw [hk] at e; simp at e
    | true =>
    rw [hk] at e
    simp only [cond_true, Option.some.injEq] at e; subst e
    obtain ⟨x', _, rfl, hx, ha⟩ := ha.snoc_inv
    obtain ⟨y', _, rfl, hy, ha⟩ := ha.snoc_inv
    cases ha
    have hx := hx.eq_of_closed rfl
    have hy := hy.eq_of_closed rfl
    subst hx hy
    refine ⟨σ, W, _, ?_, h, Ext.refl _ _ _, .atom rfl⟩
    rw [ltI_eq]
    by_cases q : i < j <;> simp [builtin, Builtin.max_, Builtin.max2, q]
  · split at e <;> try (simp at e; done)
    rename_i k i k' j
    cases hk : kEq k k' with
    | false => rw [hk] at e; simp at e
    | true =>
    rw [hk] at e
    simp only [cond_true, Option.some.injEq] at e; subst e
    obtain ⟨x', _, rfl, hx, ha⟩ := ha.snoc_inv
    obtain ⟨y', _, rfl, hy, ha⟩ := ha.snoc_inv
    cases ha
    have hx := hx.eq_of_closed rfl
    have hy := hy.eq_of_closed rfl
    subst hx hy
    refine ⟨σ, W, _, ?_, h, Ext.refl _ _ _, .atom rfl⟩
    rw [ltI_eq]
    by_cases q : j < i <;> simp [builtin, Builtin.min_, Builtin.min2, q]

theorem depth_succ : ∃ d, P.depth = d + 1 := ⟨2 * (P.types.size + Made.depth) + 1, rfl⟩
theorem lies_row {e u : TypeId} {count off k : Nat} (h1 : P.cellsOf e = 1) (h2 : sameLayout P P.depth e u = true) (h3 : off + k ≤ count) : liesAt P P.depth e count off u k = true := by
  obtain ⟨d, hd⟩ := depth_succ (P := P)
  have hr : rowAt P (sameLayout P P.depth · u) P.depth e count off k = true := by
    rw [hd]
    simp only [rowAt, h1]
    rw [if_neg (by decide)]
    simp only [Nat.div_one, Nat.mod_one, Bool.or_eq_true, Bool.and_eq_true, decide_eq_true_eq]
    exact .inl ⟨⟨by simp, h3⟩, by rw [← hd]; exact h2⟩
  have : ∀ D, D = P.depth → (∃ d, D = d + 1) → liesAt P D e count off u k = true := by
    rintro D hD ⟨d', rfl⟩
    simp only [liesAt, Bool.or_eq_true]
    exact .inl hr
  exact this _ rfl depth_succ

theorem unsafeString_unf (pt : TypeId) (more : List TypeId) (ty : TypeId) (ad : Addr) (kk : IntKind) (i : Int) (e1 : ¬ i < 0) (e2 : ¬ i > IntKind.i64.max) (e3 : ¬ i = 0) : ∃ r : Sem Value, Builtin.unsafeString_ ⟨pt :: more⟩ ty ⟨[.pointer (some ad), .int kk i]⟩ = (do
    if ← variablesAt ad (← elemOf pt) i.toNat then do
      let s ← loadBytes ad .empty i.toNat
      freeze ad i.toNat
      pure (.string s)
    else r) :=
  ⟨_, Eq.trans (show Builtin.unsafeString_ ⟨pt :: more⟩ ty ⟨[.pointer (some ad), .int kk i]⟩ = ite (i < 0) _ _ from rfl) ((if_neg e1).trans ((if_neg e2).trans (if_neg e3)))⟩

theorem hull_may {fz fz' nf : Nat × Nat} {off n δ : Nat} (hn : 0 < n) (hz0 : fz.2 = 0 → fz' = (0, 0)) (hfz : ∀ i, fz'.1 ≤ i + δ → i + δ < fz'.2 → mayFz fz i) (ho : 2 ^ 64 ≤ fz.2 ∨ fz'.1 ≤ fz'.2)
    (hnf : nf = if fz'.1 = fz'.2 then (off + δ, off + δ + n) else (min fz'.1 (off + δ), max fz'.2 (off + δ + n))) :
    ((hullFz fz off n).2 = 0 → nf = (0, 0)) ∧ (∀ i, nf.1 ≤ i + δ → i + δ < nf.2 → mayFz (hullFz fz off n) i) ∧ (2 ^ 64 ≤ (hullFz fz off n).2 ∨ nf.1 ≤ nf.2) := by
  cases hz : Nat.beq fz.2 0 with
  | true =>
    obtain rfl := hz0 (Nat.eq_of_beq_eq_true hz)
    have h : hullFz fz off n = (off, off + n) := by simp [hullFz, hz]
    rw [h]
    simp at hnf
    subst hnf
    refine ⟨fun q => by simp at q; omega, fun i i1 i2 => ⟨by simp at i1 ⊢; omega, .inl (by simp at i2 ⊢; omega)⟩, .inr (by simp)⟩
  | false =>
    obtain ⟨M, hM, h, m1, m2⟩ : ∃ M, M = (bif Nat.ble (off + n) fz.2 then fz.2 else off + n) ∧ hullFz fz off n = (0, M) ∧ fz.2 ≤ M ∧ off + n ≤ M := by
      refine ⟨_, rfl, by simp [hullFz, hz], ?_, ?_⟩
      · cases q : Nat.ble (off + n) fz.2 with
        | true => exact Nat.le_refl _
        | false =>
          have : ¬ off + n ≤ fz.2 := fun w => by rw [Nat.ble_eq_true_of_le w] at q; simp at q
          simp; omega
      · cases q : Nat.ble (off + n) fz.2 with
        | true => exact Nat.le_of_ble_eq_true q
        | false => simp
    rw [h]
    refine ⟨fun q => by simp at q; omega, fun i i1 i2 => ⟨Nat.zero_le _, ?_⟩, ?_⟩
    · show i < M ∨ 2 ^ 64 ≤ M
      by_cases hb : 2 ^ 64 ≤ fz.2
      · exact .inr (Nat.le_trans hb m1)
      · have hle := ho.resolve_left hb
        by_cases he : fz'.1 = fz'.2
        · rw [if_pos he] at hnf
          subst hnf
          simp at i2
          exact .inl (by omega)
        · rw [if_neg he] at hnf
          subst hnf
          simp only at i1 i2
          by_cases h1 : i + δ < off + δ + n
          · exact .inl (by omega)
          · have h2 : i + δ < fz'.2 := by omega
            by_cases h3 : fz'.1 ≤ i + δ
            · rcases (hfz i h3 h2).2 with q | q
              · exact .inl (by omega)
              · exact absurd q hb
            · rcases (hfz (fz'.1 - δ) (by omega) (by omega)).2 with q | q
              · exact .inl (by omega)
              · exact absurd q hb
    · by_cases hb : 2 ^ 64 ≤ fz.2
      · exact .inl (Nat.le_trans hb m1)
      · have hle := ho.resolve_left hb
        right
        split at hnf <;> subst hnf <;> simp <;> omega

theorem aBuiltin_sound {b : Builtin} {ts : List TypeId} {args args' : List Value} {r : ANext} {A1 : AS} (h : R P base σ A W) (ha : VRs σ args args') (e : aBuiltin P b ts args A = some (r, A1)) (ty : TypeId) (cs : Array Bool) :
    ∃ v, r = .value v ∧ BSim P base σ A W ((builtin b ⟨ts⟩ ty cs ⟨args'⟩).run P W) v A1 := by
  unfold aBuiltin at e
  split at e <;> try (simp at e; done)
  · -- append
    split at e <;> try (simp at e; done)
    rename_i v A' hq
    simp at e; obtain ⟨rfl, rfl⟩ := e
    obtain ⟨σ1, W1, v', q1, q2, q3, q4⟩ := append_sound h ha hq ty
    exact ⟨v, rfl, σ1, W1, v', by simp [builtin, q1], q2, q3, q4⟩
  · -- len
    split at e <;> try (simp at e; done)
    rename_i tt more x
    obtain ⟨x', _, rfl, hx, ha⟩ := ha.snoc_inv
    cases ha
    split at e <;> try (simp at e; done)
    · rename_i el p k c hu
      simp at e; obtain ⟨rfl, rfl⟩ := e
      have : ∃ p c', x' = .slice p k c' := by
        cases hx with
        | atom q => exact ⟨_, _, rfl⟩
        | slice => exact ⟨_, _, rfl⟩
      obtain ⟨p, c', rfl⟩ := this
      exact ⟨_, rfl, σ, W, _, by simp [builtin, Builtin.len_, run_underlying tt hu], h, Ext.refl _ _ _, .atom rfl⟩
    · rename_i kt et bb hu
      split at e <;> try (simp at e; done)
      rename_i es c hg
      simp at e; obtain ⟨rfl, rfl⟩ := e
      cases hx with
      | atom q => simp [atomV] at q
      | @map _ m hb =>
      obtain ⟨_, w1, es', rfl, w2⟩ := h.live _ _ _ hg hb
      refine ⟨_, rfl, σ, W, _, by simp [builtin, Builtin.len_, run_underlying tt hu, getObj, Sem.run, w1]; rfl, h, Ext.refl _ _ _, ?_⟩
      have := w2.length
      simp at this
      rw [show (es'.size : Int) = (es.length : Int) by omega]
      exact .atom rfl
    · rename_i arr hu
      split at e <;> try (simp at e; done)
      rename_i k el hu2
      simp at e; obtain ⟨rfl, rfl⟩ := e
      exact ⟨_, rfl, σ, W, _, by simp [builtin, Builtin.len_, run_underlying tt hu, run_underlying arr hu2], h, Ext.refl _ _ _, .atom rfl⟩
  · -- copy
    split at e <;> try (simp at e; done)
    rename_i tt more bs dLen dc src
    obtain ⟨x', _, rfl, hx, ha⟩ := ha.snoc_inv
    obtain ⟨y', _, rfl, hy, ha⟩ := ha.snoc_inv
    cases ha
    split at e <;> try (simp at e; done)
    rename_i el m hu hm
    split at e <;> try (simp at e; done)
    rename_i sz hsz
    split at e <;> try (simp at e; done)
    · rename_i new bb off hnew
      split at e <;> try (simp at e; done)
      rename_i A' hp
      simp at e; obtain ⟨rfl, rfl⟩ := e
      obtain ⟨new', n1, n2⟩ := cells_sound h hy (fun len hl => by rw [hm] at hl; simp at hl; subst hl; exact Nat.min_le_left _ _) hnew
      have hlr := aLen_sound (P := P) hy hm W
      cases hx with
      | atom q => simp [atomV] at q
      | @slice _ _ o' _ _ cap' mm hb d1 d2 d3 d4 =>
      obtain ⟨W1, w1, w2, w3⟩ := putCells_sound h hb n2 hp
      have hst : (storeCells ⟨mm.c, o', none⟩ new').run P W = .ok () W1 := by
        by_cases hn : new' = []
        · subst hn; simpa [storeCells] using w1
        · have h0 : Nat.min m dLen ≠ 0 := fun q => hn (by
            have := n2.length
            rw [aCells_length hnew, q] at this
            simpa using this)
          have h0' : dLen ≠ 0 := fun q => h0 (by subst q; exact Nat.min_zero _)
          have : o' = off + mm.δ := by rcases d4 with d4 | d4 <;> omega
          rw [this]; exact w1
      refine ⟨_, rfl, σ, W1, _, ?_, w2, w3, .atom rfl⟩
      simp only [builtin, Builtin.copy_, List.getElem?_toArray, List.getElem?_cons_zero, List.getElem?_cons_succ, Sem.run_bind, run_underlying tt hu, Result.andThen_ok, hlr, run_sizeOf el hsz, n1, hst, Sem.run_pure]
    · rename_i new hnew
      simp at e; obtain ⟨rfl, rfl⟩ := e
      obtain ⟨new', n1, n2⟩ := cells_sound h hy (fun len hl => by rw [hm] at hl; simp at hl; subst hl; exact Nat.min_le_left _ _) hnew
      have hlr := aLen_sound (P := P) hy hm W
      have : x' = .slice none dLen dc := hx.eq_of_closed rfl
      subst this
      refine ⟨_, rfl, σ, W, _, ?_, h, Ext.refl _ _ _, .atom rfl⟩
      simp only [builtin, Builtin.copy_, List.getElem?_toArray, List.getElem?_cons_zero, List.getElem?_cons_succ, Sem.run_bind, run_underlying tt hu, Result.andThen_ok, hlr, run_sizeOf el hsz, n1, Sem.run_pure]
  · -- String out of bytes
    split at e <;> try (simp at e; done)
    rename_i pt more bb off ln
    obtain ⟨x', _, rfl, hx, ha⟩ := ha.snoc_inv
    obtain ⟨y', _, rfl, hy, ha⟩ := ha.snoc_inv
    cases ha
    split at e <;> try (simp at e; done)
    rename_i tr size z u el fz k eu hg hln hu
    cases hc : (Nat.beq (P.cellsOf el) 1 && sameLayout P P.depth el eu && Nat.ble (k + 1) (2 ^ 40) && Nat.ble (off + (k + 1)) size && Nat.ble A.lo bb) with
    | false => rw [hc] at e; simp at e
    | true =>
    rw [hc] at e
    simp only [cond_true] at e
    simp only [Bool.and_eq_true] at hc
    obtain ⟨⟨⟨⟨h1, h2⟩, h3⟩, h4⟩, h5⟩ := hc
    have h1 := Nat.eq_of_beq_eq_true h1
    have h3 := Nat.le_of_ble_eq_true h3
    have h4 := Nat.le_of_ble_eq_true h4
    have h5 := Nat.le_of_ble_eq_true h5
    split at e <;> try (simp at e; done)
    rename_i l hl
    split at e <;> try (simp at e; done)
    rename_i ns hns
    simp at e; obtain ⟨rfl, rfl⟩ := e
    obtain ⟨kk, rfl⟩ := natOf_inv hln
    have hy := hy.eq_of_closed rfl
    subst hy
    cases hx with
    | atom q => simp [atomV] at q
    | @ptr _ _ m hb =>
    obtain ⟨_, w1, cells, fz', rfl, hN, hmu, hle, h60, hcell, hz0, hfz, hδ⟩ := h.live _ _ _ hg hb
    obtain ⟨l', q1, q2, q3⟩ := h.cells hg hb h4 hl
    obtain rfl := bytesOf_spec hns
    have hl' : l' = ns.map (Value.int .u8) := q1.eq_of_closed (closed_bytes ns)
    subst hl'
    have hlen : ns.length = k + 1 := by simpa using q2
    have hload := run_loadBytes (P := P) m.c ns (off + m.δ) .empty W (fun j v hv => q3 j (.int .u8 v) (by simp [hv]))
    rw [hlen] at hload
    have hstr : (⟨⟨ByteArray.empty.data.toList ++ ns.map fun n => UInt8.ofNat n.toNat⟩⟩ : ByteArray) = strOf ns := by
      simp [strOf, ByteArray.empty, ByteArray.emptyWithCapacity]
      rfl
    rw [hstr] at hload
    have hlies : liesAt P P.depth el (cells.size / P.cellsOf el) (off + m.δ) eu (k + 1) = true := by
      rw [h1, Nat.div_one]
      exact lies_row h1 h2 (by omega)
    have hclt := (Array.getElem?_eq_some_iff.1 w1).1
    have hfr := frozen_upd (W := W) (c := m.c) (off := off + m.δ) (k := k + 1) w1 (by omega)
    obtain ⟨hh1, hh2, hh3⟩ := hull_may (off := off) (n := k + 1) (δ := m.δ) (by omega) hz0 hfz hδ.2 rfl
    have hup := h.upd (b := bb) (m := m) (W1 := W.freeze ⟨m.c, off + m.δ, none⟩ (k + 1)) (o1 := .cells tr size z u el (hullFz fz off (k + 1)))
      (by rw [hg]; rfl) hb h5 (by rw [hfr]; simp) (fun y hy => by rw [hfr, Array.getElem?_setIfInBounds_ne (Ne.symm hy)]) (by rw [hfr, Array.getElem?_setIfInBounds]; simp [hclt])
      ⟨cells, _, rfl, hN, hmu, hle, h60, hcell, hh1, hh2, hδ.1, hh3⟩
    refine ⟨_, rfl, σ, _, .string (strOf ns), ?_, hup.1, hup.2, .atom rfl⟩
    have e1 : ¬ ((Int.ofNat (k + 1)) < 0) := by simp; omega
    have e2 : ¬ ((Int.ofNat (k + 1)) > IntKind.i64.max) := by
      have : IntKind.i64.max = 9223372036854775807 := by decide
      rw [this]; simp; omega
    have e3 : ¬ ((Int.ofNat (k + 1)) = 0) := by simp; omega
    simp only [builtin, Sem.run_bind]
    obtain ⟨r9, hr9⟩ := unsafeString_unf pt more ty ⟨m.c, _, none⟩ _ _ e1 e2 e3
    rw [hr9]
    simp only [elemOf, variablesAt, program, shape, Sem.run_bind, run_underlying pt hu, Result.andThen_ok, Sem.run, World.shape?, w1, Sem.run_pure]
    rw [show (Int.ofNat (k + 1)).toNat = k + 1 from rfl, hlies]
    simp only [if_true, Sem.run_bind, hload, Result.andThen_ok, freeze, Sem.run, Sem.run_pure]
  · -- cap
    split at e <;> try (simp at e; done)
    rename_i tt more k c
    split at e <;> try (simp at e; done)
    rename_i el hu
    simp at e; obtain ⟨rfl, rfl⟩ := e
    obtain ⟨x', _, rfl, hx, ha⟩ := ha.snoc_inv
    cases ha
    have : x' = .slice none k c := hx.eq_of_closed rfl
    subst this
    exact ⟨_, rfl, σ, W, _, by simp [builtin, Builtin.cap_, run_underlying tt hu], h, Ext.refl _ _ _, .atom rfl⟩
  · -- SliceData
    split at e <;> try (simp at e; done)
    rename_i ad k c
    simp at e; obtain ⟨rfl, rfl⟩ := e
    obtain ⟨x', _, rfl, hx, ha⟩ := ha.snoc_inv
    cases ha
    cases hx with
    | atom q => simp [atomV] at q
    | @slice bb off o' _ _ cap' mm hb d1 d2 d3 d4 =>
    have ho' : o' = off + mm.δ := by rcases d4 with d4 | d4 <;> omega
    have hc : cap' ≠ 0 := by omega
    refine ⟨_, rfl, σ, W, .pointer (some ⟨mm.c, o', none⟩), ?_, h, Ext.refl _ _ _, by rw [ho']; exact .ptr hb⟩
    have hun : Builtin.unsafeSliceData_ ⟨ts⟩ ty ⟨[.slice (some ⟨mm.c, o', none⟩) k cap']⟩ = (if cap' ≠ 0 then pure (.pointer (some ⟨mm.c, o', none⟩))
      else do
        if (← viewAt mm.c).isSome then pure (.pointer (some ⟨mm.c, o', none⟩))
        else pure (.pointer (some ⟨← newObj (.view ⟨mm.c, o', none⟩ (← elemOf ty)), 0, none⟩))) := rfl
    simp only [builtin, Sem.run_bind]
    rw [hun, if_pos hc]
    rfl

/-! Calls. -/
theorem run_callFunc_args (f : FuncId) (l : List Value) (W : World) : (callFunc f ⟨l⟩).run P W = (callFunc f l.toArray).run P W := rfl

theorem method_sound {ty : TypeId} {v v' : Value} {name : String} {g : FuncId} {r : Value} (hv : VR σ v v') (e : methodP P ty v name = some (g, r)) (W : World) (k : Nat) :
    ∃ r', (method (k + 1) ty v' name).run P W = .ok (g, r') W ∧ VR σ r r' := by
  unfold methodP at e
  split at e <;> try (simp at e; done)
  rename_i inf hinf
  split at e <;> try (simp at e; done)
  rename_i m hm
  cases hp : m.path.isEmpty with
  | false => rw [hp] at e; simp at e
  | true =>
  rw [hp] at e
  simp only [cond_true] at e
  have hpath : m.path.toList = [] := by simpa using hp
  split at e <;> try (simp at e; done)
  · rename_i f el hf hu
    simp at e; obtain ⟨rfl, rfl⟩ := e
    exact ⟨v', by simp [method, run_typeInfo ty hinf, hm, hpath, follow, hf, receiverAt, run_underlying ty hu, Place.get], hv⟩
  · rename_i f d hno hf hu
    simp at e; obtain ⟨rfl, rfl⟩ := e
    refine ⟨v', ?_, hv⟩
    simp only [method, Sem.run_bind, run_typeInfo ty hinf, Result.andThen_ok, hm, hpath, follow, hf, receiverAt, run_underlying ty hu, Sem.run_pure]
    cases d <;> first | rfl | (exfalso; exact hno _ _ rfl rfl) | (exfalso; exact hno _ rfl rfl) | (exfalso; exact hno rfl)

end Go.Eng
