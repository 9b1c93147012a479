/- Part of an abstract machine that runs the program's code in Lean's kernel, and of the proof that what it answers every run of the model answers (Go.Eng; program-independent). No condition. -/
import Derived.Test.YtdafgjfijdijlaaGreatDoorE6
import Derived.Laws.Sem
namespace Go.Eng
open Go

variable {P : Program} {base : Nat} {σ : Sg} {A : AS} {W : World}

theorem pureRun_run {α : Type} : ∀ (s : Sem α) (a : α), pureRun P s = some a → ∀ w, s.run P w = .ok a w
  | .pure a, b, h, w => by simp only [pureRun, Option.some.injEq] at h; subst h; rfl
  | .program k, b, h, w => by simp only [pureRun] at h; exact pureRun_run (k P) b h w
  | .mark m k, b, h, w => by simp only [pureRun] at h; exact pureRun_run k b h w
  | .choose q k, b, h, w => by
    simp only [pureRun] at h
    split at h
    · rename_i hq; simp only [Sem.run, hq, if_true]; exact pureRun_run (k 0) b h w
    · simp at h
  | .load .., b, h, w => by simp [pureRun] at h
  | .store .., b, h, w => by simp [pureRun] at h
  | .new .., b, h, w => by simp [pureRun] at h
  | .shape .., b, h, w => by simp [pureRun] at h
  | .freeze .., b, h, w => by simp [pureRun] at h
  | .frozen .., b, h, w => by simp [pureRun] at h
  | .getObj .., b, h, w => by simp [pureRun] at h
  | .setObj .., b, h, w => by simp [pureRun] at h
  | .sys .., b, h, w => by simp [pureRun] at h
  | .halt .., b, h, w => by simp [pureRun] at h

/-! Types. -/
theorem run_underlying (t : TypeId) {d : TypeDesc} (h : P.underlying t = some d) (w : World) : (underlying t).run P w = .ok d w := by
  simp [underlying, program, Sem.run, Bind.bind, Sem.bind, h, pure]
theorem run_typeInfo (t : TypeId) {i : TypeInfo} (h : P.info? t = some i) (w : World) : (typeInfo t).run P w = .ok i w := by
  simp [typeInfo, program, Sem.run, Bind.bind, Sem.bind, h, pure]
theorem sizeP_info {t : TypeId} {n : Nat} (h : sizeP P t = some n) : ∃ i, P.info? t = some i ∧ i.size = n := by
  unfold sizeP at h
  cases hi : P.info? t with
  | none => simp [hi] at h
  | some i => simp [hi] at h; exact ⟨i, rfl, h⟩
theorem run_sizeOf (t : TypeId) {n : Nat} (h : sizeP P t = some n) (w : World) : (sizeOf t).run P w = .ok n w := by
  obtain ⟨i, h1, rfl⟩ := sizeP_info h
  simp [sizeOf, run_typeInfo t h1]
theorem run_zeroValue (t : TypeId) {z : List Value} (h : zeroP P t = some z) (w : World) : ∃ v, (zeroValue t).run P w = .ok v w ∧ closedV v = true ∧ v.cells.toList = z := by
  unfold zeroP at h
  cases hi : P.info? t with
  | none => simp [hi] at h
  | some i =>
    simp only [hi] at h
    cases hz : i.zero with
    | none => simp [hz] at h
    | some v =>
      simp only [hz] at h
      cases hc : closedV v with
      | false => simp [hc] at h
      | true =>
        simp [hc] at h
        exact ⟨v, by simp [zeroValue, run_typeInfo t hi, hz], hc, h⟩
theorem run_isAgg (t : TypeId) {b : Bool} (h : isAggP P t = some b) (w : World) : (isAgg t).run P w = .ok b w := by
  unfold isAggP at h
  cases hu : P.underlying t with
  | none => simp [hu] at h
  | some d =>
    rw [hu] at h
    simp only [isAgg, Sem.run_bind, run_underlying t hu, Result.andThen_ok]
    cases d <;> simp at h <;> subst h <;> rfl

/-! Loads. -/
theorem run_loadCellsFrom_at (c o : Nat) : ∀ (l : List Value) (i : Nat) (acc : Array Value) (W : World), (∀ j v, l[j]? = some v → W.cell? ⟨c, o + (i + j), none⟩ = some v) →
    (loadCellsFrom ⟨c, o, none⟩ i l.length acc).run P W = .ok (acc ++ l.toArray) W
  | [], i, acc, W, _ => by simp [loadCellsFrom]
  | v :: l, i, acc, W, h => by
    have h0 : W.cell? ((⟨c, o, none⟩ : Addr).add i) = some v := by
      have := h 0 v rfl
      unfold Addr.add
      by_cases hi : i = 0
      · subst hi; simpa using this
      · simpa [hi] using this
    simp only [List.length_cons, loadCellsFrom, Sem.run_bind]
    have hl : (load ((⟨c, o, none⟩ : Addr).add i)).run P W = .ok v W := by simp [load, Sem.run, h0]
    rw [hl, Result.andThen_ok, run_loadCellsFrom_at c o l (i + 1) (acc.push v) W (fun j x hx => by
      have := h (j + 1) x (by simpa using hx)
      rwa [show i + (j + 1) = i + 1 + j from by omega] at this)]
    simp

theorem load_sound {ty : TypeId} {a a' v : Value} (h : R P base σ A W) (ha : VR σ a a') (hv : aLoad P ty a A = some v) :
    ∃ v', (Instr.loadAt ty a').run P W = .ok v' W ∧ VR σ v v' := by
  unfold aLoad at hv
  split at hv <;> try (simp at hv; done)
  rename_i b off
  cases ha with
  | atom ha => simp [atomV] at ha
  | @ptr _ _ m hb =>
  split at hv <;> try (simp at hv; done)
  rename_i tr size z u e fz hg
  split at hv
  · rename_i hag
    split at hv <;> try (simp at hv; done)
    rename_i n hn
    cases hle : Nat.ble (off + n) size with
    | false => simp [hle] at hv
    | true =>
      simp only [hle, cond_true] at hv
      split at hv <;> try (simp at hv; done)
      rename_i l hl
      simp at hv; subst hv
      obtain ⟨l', e1, e2, e3⟩ := h.cells hg hb (Nat.le_of_ble_eq_true hle) hl
      refine ⟨.agg ⟨l'⟩, ?_, .agg e1⟩
      have := run_loadCellsFrom_at (P := P) m.c (off + m.δ) l' 0 #[] W (fun j v hv => by simpa using e3 j v hv)
      simp only [Instr.loadAt, Instr.sureAddr, loadVar, Sem.run_bind, Sem.run_pure, Result.andThen_ok, run_isAgg ty hag, if_true, run_sizeOf ty hn, loadCells]
      rw [e2] at this
      rw [this]
      simp
  · rename_i hag
    cases hlt : Nat.blt off size with
    | false => simp [hlt] at hv
    | true =>
      simp only [hlt, cond_true] at hv
      obtain ⟨v', e1, e2⟩ := h.cell hg hb (by simpa [Nat.blt, Nat.succ_le_iff] using hlt) hv
      refine ⟨v', ?_, e2⟩
      simp [Instr.loadAt, Instr.sureAddr, loadVar, run_isAgg ty hag, load, Sem.run, e1]
  · simp at hv

/-! Stores. -/
def wr : Array Value → Nat → List Value → Array Value
  | cs, _, [] => cs
  | cs, o, v :: l => wr (cs.setIfInBounds o v) (o + 1) l
theorem wr_size : ∀ (l : List Value) (cs : Array Value) (o : Nat), (wr cs o l).size = cs.size
  | [], _, _ => rfl
  | v :: l, cs, o => by rw [wr, wr_size l]; simp
theorem wr_get : ∀ (l : List Value) (cs : Array Value) (o j : Nat), o + l.length ≤ cs.size → (wr cs o l)[j]? = if o ≤ j ∧ j < o + l.length then l[j - o]? else cs[j]?
  | [], cs, o, j, _ => by rw [if_neg (by simp)]; rfl
  | v :: l, cs, o, j, h => by
    simp only [List.length_cons] at h
    rw [wr, wr_get l _ _ _ (by simp; omega)]
    by_cases h1 : o + 1 ≤ j ∧ j < o + 1 + l.length
    · rw [if_pos h1, if_pos (by simp; omega), show j - o = (j - (o + 1)) + 1 from by omega, List.getElem?_cons_succ]
    · rw [if_neg h1]
      by_cases e : j = o
      · subst e; rw [if_pos (by simp), Array.getElem?_setIfInBounds]; simp; omega
      · rw [if_neg (by simp; omega), Array.getElem?_setIfInBounds_ne (Ne.symm e)]

theorem setCell_heap {c o : Nat} {cs : Array Value} {e : TypeId} {fz : Nat × Nat} {v : Value} (h : W.heap[c]? = some (.cells cs e fz)) :
    (W.setCell ⟨c, o, none⟩ v).heap = W.heap.setIfInBounds c (.cells (cs.setIfInBounds o v) e fz) := by
  obtain ⟨hlt, hat⟩ := Array.getElem?_eq_some_iff.1 h
  simp only [World.setCell]
  apply Array.ext_getElem?
  intro i
  rw [Array.getElem?_modify, Array.getElem?_setIfInBounds]
  by_cases hi : c = i
  · subst hi; simp [hlt, hat]
  · simp [hi]

theorem run_storeCells_own (c o : Nat) (e : TypeId) (fz : Nat × Nat) : ∀ (l : List Value) (i : Nat) (cs : Array Value) (W : World), W.heap[c]? = some (.cells cs e fz) → o + i + l.length ≤ cs.size → l.all oneCell = true →
    (∀ j, j < l.length → ¬ (fz.1 ≤ o + i + j ∧ o + i + j < fz.2)) →
    ∃ W1, (storeCells ⟨c, o, none⟩ l i).run P W = .ok () W1 ∧ W1.heap = W.heap.setIfInBounds c (.cells (wr cs (o + i) l) e fz) ∧ Rest W W1
  | [], i, cs, W, h, _, _, _ => by
    refine ⟨W, by simp [storeCells], ?_, rfl, rfl⟩
    apply Array.ext_getElem?
    intro j
    rw [Array.getElem?_setIfInBounds]
    by_cases hj : c = j
    · subst hj; simp [wr, (Array.getElem?_eq_some_iff.1 h).1, (Array.getElem?_eq_some_iff.1 h).2]
    · simp [hj]
  | v :: l, i, cs, W, h, hs, h1, hf => by
    simp only [List.length_cons] at hs hf
    simp only [List.all_cons, Bool.and_eq_true] at h1
    have ha : (⟨c, o, none⟩ : Addr).add i = ⟨c, o + i, none⟩ := by
      unfold Addr.add
      by_cases hi : i = 0
      · subst hi; simp
      · simp [hi]
    have hlt : o + i < cs.size := by omega
    have hc : W.cell? ⟨c, o + i, none⟩ = some cs[o + i] := by simp [World.cell?, h, hlt]
    have hz : W.frozen? ⟨c, o + i, none⟩ = false := by
      have := hf 0 (by omega)
      obtain ⟨lo, hi⟩ := fz
      simp only [World.frozen?, h]
      simp at this ⊢
      exact this
    have hst : (store ⟨c, o + i, none⟩ v).run P W = .ok () (W.setCell ⟨c, o + i, none⟩ v) := by
      cases v <;> first | (simp [oneCell] at h1; done) | simp [store, Sem.run, hc, hz]
    have hh := setCell_heap (o := o + i) (v := v) h
    obtain ⟨W1, e1, e2, e3⟩ := run_storeCells_own c o e fz l (i + 1) (cs.setIfInBounds (o + i) v) (W.setCell ⟨c, o + i, none⟩ v)
      (by rw [hh, Array.getElem?_setIfInBounds]; simp [(Array.getElem?_eq_some_iff.1 h).1]) (by simp; omega) h1.2
      (fun j hj => by have := hf (j + 1) (by omega); rwa [show o + i + (j + 1) = o + (i + 1) + j from by omega] at this)
    refine ⟨W1, ?_, ?_, e3⟩
    · rw [storeCells, Sem.run_bind, ha, hst, Result.andThen_ok, e1]
    · rw [e2, hh]
      apply Array.ext_getElem?
      intro j
      simp only [Array.getElem?_setIfInBounds, Array.size_setIfInBounds]
      by_cases hj : c = j
      · subst hj; simp [wr, Nat.add_assoc]
      · simp [hj]

theorem thawed_spec {fz fz' : Nat × Nat} {off n δ : Nat} (h : thawed fz off n = true) (h0 : fz.2 = 0 → fz' = (0, 0)) (hf : ∀ i, fz'.1 ≤ i + δ → i + δ < fz'.2 → mayFz fz i) :
    ∀ j, j < n → ¬ (fz'.1 ≤ off + δ + j ∧ off + δ + j < fz'.2) := by
  intro j hj ⟨h1, h2⟩
  have := hf (off + j) (by omega) (by omega)
  obtain ⟨m1, m2⟩ := this
  simp only [thawed, Bool.or_eq_true, Bool.and_eq_true, Nat.blt] at h
  rcases h with (h | ⟨h, h'⟩) | h
  · have := h0 (Nat.eq_of_beq_eq_true h); subst this; simp at h2
  · have a := Nat.le_of_ble_eq_true h; have b := Nat.le_of_ble_eq_true h'; omega
  · have a := Nat.le_of_ble_eq_true h; omega

/-- Cells written into a block of its own. -/
theorem putCells_sound {b off : Nat} {m : Im} {l l' : List Value} {A1 : AS} (h : R P base σ A W) (hb : σ b = some m) (hl : VRs σ l l') (hp : aPutCells b off l A = some A1) :
    ∃ W1, (storeCells ⟨m.c, off + m.δ, none⟩ l').run P W = .ok () W1 ∧ R P base σ A1 W1 ∧ Ext A σ W A1 σ W1 := by
  unfold aPutCells at hp
  split at hp <;> try (simp at hp; done)
  rename_i tr size z u e fz hg
  cases hcond : (Nat.ble A.lo b && Nat.ble (off + l.length) size && thawed fz off l.length && l.all oneCell) with
  | false => simp [hcond] at hp
  | true =>
    simp only [hcond, cond_true, Option.some.injEq] at hp
    subst hp
    simp only [Bool.and_eq_true] at hcond
    obtain ⟨⟨⟨hlo, hsz⟩, hth⟩, hone⟩ := hcond
    have hsz' := Nat.le_of_ble_eq_true hsz
    obtain ⟨o', e1, c, fz', rfl, hN, hu, hle, h60, hcell, hz0, hfz, hδ⟩ := h.live b _ m hg hb
    have hlen : l'.length = l.length := hl.length
    obtain ⟨W1, r1, r2, r3⟩ := run_storeCells_own (P := P) m.c (off + m.δ) e fz' l' 0 c W e1 (by omega) (by rw [hl.all_oneCell]; exact hone)
      (fun j hj => by simpa using thawed_spec hth hz0 hfz j (by omega))
    refine ⟨W1, r1, ?_⟩
    have hclt := (Array.getElem?_eq_some_iff.1 e1).1
    refine h.upd (m := m) (o1' := .cells (wr c (off + m.δ) l') e fz') (by rw [hg]; rfl) hb (Nat.le_of_ble_eq_true hlo) (by rw [r2]; simp) (fun x hx => by rw [r2, Array.getElem?_setIfInBounds_ne (Ne.symm hx)])
      (by rw [r2, Array.getElem?_setIfInBounds]; simp [hclt]) ?_ r3
    refine ⟨_, fz', rfl, by rw [wr_size]; exact hN, hu, hle, h60, ?_, hz0, hfz, hδ⟩
    intro i v hi hv
    rw [wr_get _ _ _ _ (by omega)]
    have hat := T.setAll_at l tr off i (by omega)
    by_cases hin : off ≤ i ∧ i < off + l.length
    · rw [if_pos hin] at hat
      rw [if_pos (by omega)]
      have hv' : l[i - off]? = some v := by
        rcases cellF_lt hv with hq | ⟨hq, _⟩
        · rw [hat] at hq; exact hq
        · rw [hat, List.getElem?_eq_none_iff] at hq; omega
      obtain ⟨v', q1, q2⟩ := hl.get _ _ hv'
      exact ⟨v', by rw [show i + m.δ - (off + m.δ) = i - off from by omega]; exact q1, q2⟩
    · rw [if_neg hin] at hat
      rw [if_neg (by omega)]
      refine hcell i v hi ?_
      unfold cellF at hv ⊢
      rw [hat] at hv
      exact hv

theorem store_sound {ty : TypeId} {a a' v v' : Value} {A1 : AS} (h : R P base σ A W) (ha : VR σ a a') (hv : VR σ v v') (hs : aStore P ty a v A = some A1) :
    ∃ W1, (Instr.storeAt ty a' v').run P W = .ok () W1 ∧ R P base σ A1 W1 ∧ Ext A σ W A1 σ W1 := by
  unfold aStore at hs
  split at hs <;> try (simp at hs; done)
  rename_i b off
  cases ha with
  | atom ha => simp [atomV] at ha
  | @ptr _ _ m hb =>
  split at hs <;> try (simp at hs; done)
  rename_i n hn
  cases hq : Nat.beq v.cells.size n with
  | false => simp [hq] at hs
  | true =>
    simp only [hq, cond_true] at hs
    have hq' := Nat.eq_of_beq_eq_true hq
    obtain ⟨W1, e1, e2⟩ := putCells_sound h hb hv.cells hs
    refine ⟨W1, ?_, e2⟩
    have hlen := hv.cells.length
    simp only [Array.length_toList] at hlen
    simp only [Instr.storeAt, Instr.sureAddr, storeVar, Sem.run_bind, Sem.run_pure, Result.andThen_ok, run_sizeOf ty hn]
    rw [if_neg (by omega)]
    exact e1

end Go.Eng
