/- Part of an abstract machine that runs the program's code in Lean's kernel, and of the proof that what it answers every run of the model answers (Go.Eng; program-independent). No condition. -/
import Derived.Test.YtdafgjfijdijlaaGreatDoorE11
import Derived.Laws.BytesString
import Derived.Laws.Cover4
namespace Go.Eng
open Go

variable {P : Program} {base : Nat} {σ : Sg} {A : AS} {W : World} {t : T Value} {n : Nat} {a : Act}

/-! Cells that a slice or a string gives. -/
theorem aLen_sound {x x' : Value} {k : Nat} (hx : VR σ x x') (h : aLen x = some k) (W : World) : (Builtin.lenOf x').run P W = .ok k W := by
  unfold aLen at h
  split at h <;> simp at h <;> subst h
  · cases hx with
    | atom q => rfl
    | slice => rfl
  · cases hx with
    | atom q => rfl
theorem cells_sound {x x' : Value} {k size : Nat} {l : List Value} (h : R P base σ A W) (hx : VR σ x x') (hlen : ∀ len, aLen x = some len → k ≤ len) (e : aCells size k x A = some l) :
    ∃ l', (Builtin.firstCells size k x').run P W = .ok ⟨l'⟩ W ∧ VRs σ l l' := by
  unfold aCells at e
  split at e <;> try (simp at e; done)
  · cases hq : Nat.beq k 0 with
    | false => rw [hq] at e; simp at e
    | true =>
    rw [hq] at e
    simp at e; subst e
    cases hx with
    | atom q => exact ⟨[], rfl, .nil⟩
  · rename_i b off len cap
    split at e <;> try (simp at e; done)
    rename_i tr sz z u el fz hg
    cases hq : Nat.ble (off + k * size) sz with
    | false => rw [hq] at e; simp at e
    | true =>
    rw [hq] at e
    simp only [cond_true] at e
    have hq := Nat.le_of_ble_eq_true hq
    have hk : k ≤ len := hlen len rfl
    cases hx with
    | atom q => simp [atomV] at q
    | @slice _ _ o' _ _ cap' m hb d1 d2 d3 d4 =>
    obtain ⟨l', e1, e2, e3⟩ := h.cells hg hb hq e
    refine ⟨l', ?_, e1⟩
    have hload := run_loadCellsFrom_at (P := P) m.c o' l' 0 #[] W (fun j v hv => by
      have := e3 j v hv
      have hpos : 0 < l'.length := by
        have := (List.getElem?_eq_some_iff.1 hv).1; omega
      have hk0 : 0 < k := by
        rcases Nat.eq_zero_or_pos k with q | q
        · rw [q, Nat.zero_mul] at e2; omega
        · exact q
      have : o' = off + m.δ := by rcases d4 with d4 | d4 <;> omega
      subst this
      simpa using e3 j v hv)
    rw [e2] at hload
    simpa [Builtin.firstCells, loadCells] using hload
  · rename_i s
    cases hq : (Nat.beq size 1 && Nat.ble k s.size) with
    | false => rw [hq] at e; simp at e
    | true =>
    rw [hq] at e
    simp at e; subst e
    have : x' = .string s := hx.eq_of_closed rfl
    subst this
    refine ⟨((s.data.toList.take k).map fun b => Value.int .u8 b.toNat), ?_, ?_⟩
    · simp only [Builtin.firstCells, Sem.run_pure]
      congr 1
      apply Array.toList_inj.1
      have : (s.extract 0 k).data.toList = s.data.toList.take k := by
        rw [ByteArray.data_extract]; simp
      simp [this]
    · rw [← List.map_take]
      apply closed_VRs
      generalize s.data.toList.take k = bs
      induction bs with
      | nil => rfl
      | cons b bs ih => simp [closedVs, closedV, ih]

theorem aCells_length {x : Value} {k size : Nat} {l : List Value} (e : aCells size k x A = some l) : l.length = k * size := by
  unfold aCells at e
  split at e <;> try (simp at e; done)
  · cases hq : Nat.beq k 0 with
    | false => rw [hq] at e; simp at e
    | true =>
      rw [hq] at e
      simp at e; subst e
      have := Nat.eq_of_beq_eq_true hq
      subst this; simp
  · split at e <;> try (simp at e; done)
    rename_i b off len cap q0 tr sz z u el fz hg
    cases hq : Nat.ble (off + k * size) sz with
    | false => rw [hq] at e; simp at e
    | true => rw [hq] at e; exact (T.take_spec _ _ _ _ e).1
  · rename_i s
    cases hq : (Nat.beq size 1 && Nat.ble k s.size) with
    | false => rw [hq] at e; simp at e
    | true =>
    rw [hq] at e
    simp only [Bool.and_eq_true] at hq
    have h1 := Nat.eq_of_beq_eq_true hq.1
    have h2 := Nat.le_of_ble_eq_true hq.2
    simp at e; subst e
    have : s.data.toList.length = s.size := rfl
    simp at this ⊢
    subst h1; omega

theorem bytesOf_spec : ∀ {l : List Value} {ns : List Int}, bytesOf l = some ns → l = ns.map (Value.int .u8)
  | [], ns, h => by simp [bytesOf] at h; subst h; rfl
  | .int .u8 k :: l, ns, h => by
    simp only [bytesOf] at h
    split at h <;> try (simp at h; done)
    rename_i r hr
    simp at h; subst h
    simp [bytesOf_spec hr]
  | .int .i8 _ :: _, ns, h | .int .i16 _ :: _, ns, h | .int .i32 _ :: _, ns, h | .int .i64 _ :: _, ns, h | .int .u16 _ :: _, ns, h | .int .u32 _ :: _, ns, h | .int .u64 _ :: _, ns, h => by simp [bytesOf] at h
  | .bool _ :: _, ns, h | .float _ _ :: _, ns, h | .complex _ _ _ :: _, ns, h | .string _ :: _, ns, h | .pointer _ :: _, ns, h | .slice _ _ _ :: _, ns, h | .map _ :: _, ns, h | .chan _ :: _, ns, h
  | .func _ _ _ :: _, ns, h | .nilFunc :: _, ns, h | .iface _ _ :: _, ns, h | .nilIface :: _, ns, h | .agg _ :: _, ns, h | .tuple _ :: _, ns, h => by simp [bytesOf] at h
theorem closed_bytes : ∀ ns : List Int, closedVs (ns.map (Value.int .u8)) = true
  | [] => rfl
  | k :: ns => by simp [closedVs, closedV, closed_bytes ns]
theorem runesOf_spec : ∀ {l : List Value} {ns : List Int}, runesOf l = some ns → l = ns.map (Value.int .i32)
  | [], ns, h => by simp [runesOf] at h; subst h; rfl
  | .int .i32 k :: l, ns, h => by
    simp only [runesOf] at h
    split at h <;> try (simp at h; done)
    rename_i r hr
    simp at h; subst h
    simp [runesOf_spec hr]
  | .int .i8 _ :: _, ns, h | .int .i16 _ :: _, ns, h | .int .u8 _ :: _, ns, h | .int .i64 _ :: _, ns, h | .int .u16 _ :: _, ns, h | .int .u32 _ :: _, ns, h | .int .u64 _ :: _, ns, h => by simp [runesOf] at h
  | .bool _ :: _, ns, h | .float _ _ :: _, ns, h | .complex _ _ _ :: _, ns, h | .string _ :: _, ns, h | .pointer _ :: _, ns, h | .slice _ _ _ :: _, ns, h | .map _ :: _, ns, h | .chan _ :: _, ns, h
  | .func _ _ _ :: _, ns, h | .nilFunc :: _, ns, h | .iface _ _ :: _, ns, h | .nilIface :: _, ns, h | .agg _ :: _, ns, h | .tuple _ :: _, ns, h => by simp [runesOf] at h
theorem closed_runes : ∀ ns : List Int, closedVs (ns.map (Value.int .i32)) = true
  | [] => rfl
  | k :: ns => by simp [closedVs, closedV, closed_runes ns]
theorem foldl_runes : ∀ (ns : List Int) (s : ByteArray), ns.foldl (fun r n => r ++ Utf8.encode n) s = ⟨⟨s.data.toList ++ ns.flatMap fun n => (Utf8.encode n).data.toList⟩⟩
  | [], s => by simp
  | k :: ns, s => by
    rw [List.foldl_cons, foldl_runes ns]
    simp
theorem runesBytes_eq (ns : List Int) : runesBytes ns = strOfRunes ns := by
  unfold runesBytes strOfRunes
  rw [foldl_runes]
  simp
theorem foldl_str : ∀ (ns : List Int) (s : ByteArray), ns.foldl (fun r n => r.push (UInt8.ofNat n.toNat)) s = ⟨⟨s.data.toList ++ ns.map fun n => UInt8.ofNat n.toNat⟩⟩
  | [], s => by simp
  | k :: ns, s => by
    rw [List.foldl_cons, foldl_str ns]
    simp [ByteArray.push]

theorem convInt_sound {src dst : TypeId} {k : IntKind} {i : Int} {r : ANext} {A1 : AS} (h : R P base σ A W) (e : convInt P src dst i A = some (r, A1)) :
    OpSim P base σ A W ((do pure (.value (← convert src dst (.int k i))) : Sem Next).run P W) r A1 := by
  unfold convInt at e
  split at e <;> try (simp at e; done)
  rename_i d k' hs hd
  simp at e; obtain ⟨rfl, rfl⟩ := e
  refine sim_value (v' := .int k' (fastWrap k' i)) h ?_ (.atom rfl)
  rw [fastWrap_eq]
  simp only [convert, Sem.run_bind, run_underlying src hs, run_underlying dst hd, Result.andThen_ok]
  cases d <;> rfl

/-- What a size of a block says of the model's. -/
theorem liesAt_mono {p : Program} : ∀ (d : Nat) {e : TypeId} {count count' off : Nat} {u : TypeId} {n : Nat}, count ≤ count' → liesAt p d e count off u n = true → liesAt p d e count' off u n = true := by
  have hrow : ∀ (fits : TypeId → Bool) (d : Nat) {e : TypeId} {count count' off n : Nat}, count ≤ count' → rowAt p fits d e count off n = true → rowAt p fits d e count' off n = true := by
    intro fits d
    cases d with
    | zero => intro e c c' off n _ h; simp [rowAt] at h
    | succ d =>
      intro e c c' off n hc h
      simp only [rowAt] at h ⊢
      split at h
      · simp at h
      · rename_i hs
        rw [if_neg hs]
        simp only [Bool.or_eq_true, Bool.and_eq_true, decide_eq_true_eq] at h ⊢
        rcases h with ⟨⟨a, b⟩, cc⟩ | ⟨a, b⟩
        · exact .inl ⟨⟨a, by omega⟩, cc⟩
        · exact .inr ⟨by omega, b⟩
  intro d
  induction d with
  | zero => intro e c c' off u n _ h; simp [liesAt] at h
  | succ d ih =>
    intro e c c' off u n hc h
    simp only [liesAt, Bool.or_eq_true] at h ⊢
    rcases h with h | h
    · exact .inl (hrow _ _ hc h)
    · refine .inr ?_
      split at h
      · exact ih hc h
      · simp at h

theorem frozen_upd {c off k : Nat} {cs : Array Value} {e : TypeId} {fz : Nat × Nat} (h : W.heap[c]? = some (.cells cs e fz)) (hk : k ≠ 0) :
    (W.freeze ⟨c, off, none⟩ k).heap = W.heap.setIfInBounds c (.cells cs e (if fz.1 == fz.2 then (off, off + k) else (min fz.1 off, max fz.2 (off + k)))) := by
  obtain ⟨hlt, hat⟩ := Array.getElem?_eq_some_iff.1 h
  simp only [World.freeze, hk, if_false]
  apply Array.ext_getElem?
  intro i
  rw [Array.getElem?_modify, Array.getElem?_setIfInBounds]
  by_cases hi : c = i
  · subst hi; simp [hlt, hat]
  · simp [hi]

/-- Bytes read out of a block. -/
theorem run_loadBytes (c : Nat) : ∀ (ns : List Int) (o : Nat) (acc : ByteArray) (W : World), (∀ j (v : Int), ns[j]? = some v → W.cell? ⟨c, o + j, none⟩ = some (.int .u8 v)) →
    (loadBytes ⟨c, o, none⟩ acc ns.length).run P W = .ok ⟨⟨acc.data.toList ++ ns.map fun n => UInt8.ofNat n.toNat⟩⟩ W
  | [], o, acc, W, _ => by simp [loadBytes]
  | k :: ns, o, acc, W, h => by
    have h0 : W.cell? ⟨c, o, none⟩ = some (.int .u8 k) := by simpa using h 0 k rfl
    have ih := run_loadBytes c ns (o + 1) (acc.push k.toNat.toUInt8) W (fun j v hv => by
      have := h (j + 1) v (by simpa using hv)
      rwa [show o + (j + 1) = o + 1 + j from by omega] at this)
    simp only [List.length_cons, loadBytes, Sem.run_bind, load, Sem.run, h0, Result.andThen_ok, add_eq]
    rw [ih]
    simp [ByteArray.push]


theorem aConvert_sound {o : Oper} {src dst : TypeId} {x : Operand} {v : Value} {r : ANext} {A1 : AS} (ho : o.op = .convert src dst x) (h : R P base σ A W) (hv : VR σ v (a.eval x)) (e : aConvert P src dst v A = some (r, A1)) :
    OpSim P base σ A W ((execOp a.eval o).run P W) r A1 := by
  unfold aConvert at e
  split at e <;> try (simp at e; done)
  · -- bytes to a string
    rename_i el ad len c hs hd
    have hsl : ∃ a' c', a.eval x = .slice (some a') len c' := by
      generalize a.eval x = w at hv
      cases hv with
      | atom q => simp [atomV] at q
      | slice => exact ⟨_, _, rfl⟩
    split at e <;> try (simp at e; done)
    case h_2 =>
      rename_i l he hl
      split at e <;> try (simp at e; done)
      rename_i ns hns
      simp at e; obtain ⟨rfl, rfl⟩ := e
      obtain ⟨l', e1, e2⟩ := cells_sound h hv (fun q hq => by simp [aLen] at hq; omega) hl
      obtain rfl := runesOf_spec hns
      have hl' : l' = ns.map (Value.int .i32) := e2.eq_of_closed (closed_runes ns)
      subst hl'
      obtain ⟨a', c', hw⟩ := hsl
      rw [hw] at e1
      have hload : (loadCells a' len).run P W = .ok (ns.map (Value.int .i32)).toArray W := by simpa [Builtin.firstCells] using e1
      refine sim_value (v' := .string (strOfRunes ns)) h ?_ (.atom rfl)
      simp only [execOp, ho, hw, Sem.run_bind]
      rw [run_convert_runes_string W src dst el (some a') len c' hs he hd, run_runesToString W a' len c' ns hload, runesBytes_eq]
      simp
    rename_i l he hl
    split at e <;> try (simp at e; done)
    rename_i ns hns
    simp at e; obtain ⟨rfl, rfl⟩ := e
    obtain ⟨l', e1, e2⟩ := cells_sound h hv (fun q hq => by simp [aLen] at hq; omega) hl
    obtain rfl := bytesOf_spec hns
    have hl' : l' = ns.map (Value.int .u8) := e2.eq_of_closed (closed_bytes ns)
    subst hl'
    obtain ⟨a', c', hw⟩ := hsl
    rw [hw] at e1
    have hload : (loadCells a' len).run P W = .ok (ns.map (Value.int .u8)).toArray W := by simpa [Builtin.firstCells] using e1
    refine sim_value (v' := .string (strOf ns)) h ?_ (.atom rfl)
    simp only [execOp, ho, hw, Sem.run_bind]
    rw [run_convert_bytes_string W src dst el (some a') len c' hs he hd, run_bytesToString W a' len c' ns hload, foldl_str]
    simp [strOf, ByteArray.empty, ByteArray.emptyWithCapacity]
    rfl
  · -- a slice of bytes as it is
    rename_i q0 el b off len c hs hd
    split at e <;> try (simp at e; done)
    rename_i tr size z u ty fz he hg
    cases hc : (Nat.beq src dst && Nat.ble A.lo b) with
    | false => rw [hc] at e; simp at e
    | true =>
    rw [hc] at e
    simp only [cond_true, Option.some.injEq, Prod.mk.injEq] at e
    obtain ⟨rfl, rfl⟩ := e
    simp only [Bool.and_eq_true] at hc
    have hsd := Nat.eq_of_beq_eq_true hc.1
    have hlo := Nat.le_of_ble_eq_true hc.2
    subst hsd
    obtain rfl : q0 = el := by rw [hs] at hd; simpa using hd
    generalize hw : a.eval x = w at hv
    cases hv with
    | atom q => simp [atomV] at q
    | @slice _ _ o' _ _ cap' m hb d1 d2 d3 d4 =>
    obtain ⟨_, w1, cs, fz', rfl, hN, hu, hle, h60, hcell, hz0, hfz, hδ⟩ := h.live _ _ _ hg hb
    have hclt := (Array.getElem?_eq_some_iff.1 w1).1
    have hfr := frozen_upd (W := W) (c := m.c) (off := cs.size) (k := 1) w1 (by decide)
    have hup := h.upd (b := b) (m := m) (W1 := W.freeze ⟨m.c, cs.size, none⟩ 1) (o1 := .cells tr size z u ty (bif Nat.beq fz.2 0 then size else 0, 2 ^ 64))
      (by rw [hg]; rfl) hb hlo (by rw [hfr]; simp) (fun y hy => by rw [hfr, Array.getElem?_setIfInBounds_ne (Ne.symm hy)]) (by rw [hfr, Array.getElem?_setIfInBounds]; simp [hclt]; rfl)
      ⟨cs, _, rfl, hN, hu, hle, h60, hcell, (fun q => by simp at q), fun i i1 i2 => by
        refine ⟨?_, .inr (Nat.le_refl _)⟩
        cases hz : Nat.beq fz.2 0 with
        | true =>
          obtain rfl := hz0 (Nat.eq_of_beq_eq_true hz)
          simp at i1 i2 ⊢
          omega
        | false => exact Nat.zero_le _, hδ.1, .inl (Nat.le_refl _)⟩
    refine ⟨σ, _, .slice (some ⟨m.c, o', none⟩) len cap', .inl ?_, hup.1, hup.2, .slice hb d1 d2 d3 d4⟩
    simp [execOp, ho, hw, convert, run_underlying src hs, run_underlying _ he, markStringish, shape, Sem.run, World.shape?, w1, freeze]
  · -- a string to bytes
    rename_i el str hs hd
    split at e <;> try (simp at e; done)
    rename_i he
    obtain ⟨h60, rfl, rfl⟩ := newC_inv e
    have hw : a.eval x = .string str := hv.eq_of_closed rfl
    generalize hcap : (Question.appendCap str.size 0 el).cut (W.tape W.drawn (.appendCap str.size 0 el)) = cap
    have hle : str.size ≤ cap := by rw [← hcap]; simp [Question.cut]
    generalize harr : (str.data.map fun b => Value.int .u8 b.toNat) ++ Array.replicate (cap - str.size) (.int .u8 0) = arr
    have hsz : arr.size = cap := by
      rw [← harr]; simp; have : str.data.size = str.size := rfl; omega
    have hnew := h.new (o := .cells (T.setAll .leaf 0 (str.data.toList.map fun b => .int .u8 b.toNat)) str.size [] 1 el (str.size, 2 ^ 64)) (o' := .cells arr el (cap, cap + 1)) (m := ⟨W.heap.size, 0, cap, 1⟩)
      (W1 := { W with heap := W.heap.push (.cells arr el (cap, cap + 1)), drawn := W.drawn + 1 }) rfl rfl
      ⟨arr, _, rfl, hsz, rfl, by simpa using hle, h60, fun i v hi hv => by
        have hl : VRs σ (str.data.toList.map fun b => Value.int .u8 b.toNat) (str.data.toList.map fun b => Value.int .u8 b.toNat) := closed_VRs σ _ (by
          generalize str.data.toList = bs
          induction bs with
          | nil => rfl
          | cons b bs ih => simp [closedVs, closedV, ih])
        have hlen : str.data.toList.length = str.size := rfl
        obtain ⟨v', q1, q2⟩ := hl.setAll_cell (by simpa [hlen] using h60) i v (by simpa [hlen] using hi) hv
        refine ⟨v', ?_, q2⟩
        rw [← harr, Nat.add_zero, Array.getElem?_append_left (by simp; exact hi)]
        simpa using q1, fun q => by simp at q, fun i i1 i2 => ⟨by simp at i1; omega, .inr (Nat.le_refl _)⟩, fun q => by simp at q, .inl (Nat.le_refl _)⟩
    refine ⟨_, _, .slice (some ⟨W.heap.size, 0, none⟩) str.size cap, .inl ?_, hnew.1, hnew.2, .slice (Sg.add_at _ _ _) (Nat.le_refl _) hle (.inr (by simp)) (.inl rfl)⟩
    have hlast : (W.heap.push (.cells arr el))[W.heap.size]? = some (.cells arr el (0, 0)) := by simp
    have hfr := frozen_upd (W := { W with heap := W.heap.push (.cells arr el), drawn := W.drawn + 1 }) (c := W.heap.size) (off := cap) (k := 1) hlast (by decide)
    have hWf : ({ W with heap := W.heap.push (.cells arr el), drawn := W.drawn + 1 } : World).freeze ⟨W.heap.size, cap, none⟩ 1 = { W with heap := W.heap.push (.cells arr el (cap, cap + 1)), drawn := W.drawn + 1 } := by
      have : ∀ (w1 w2 : World), w1.heap = w2.heap → w1.tape = w2.tape → w1.drawn = w2.drawn → w1.os = w2.os → w1.output = w2.output → w1 = w2 := by
        rintro ⟨⟩ ⟨⟩ h1 h2 h3 h4 h5; simp_all
      apply this
      · rw [hfr]
        apply Array.ext_getElem?
        intro i
        simp only [Array.getElem?_setIfInBounds, Array.getElem?_push, Array.size_push]
        by_cases hi : W.heap.size = i
        · subst hi; simp
        · simp [hi, Ne.symm hi]
      all_goals simp [World.freeze]
    simp only [execOp, ho, hw, convert, Sem.run_bind, run_underlying src hs, run_underlying dst hd, run_underlying el he, Result.andThen_ok, Conv.stringToBytes, choose, Sem.run, Question.forced, Bool.false_eq_true, if_false, hcap, harr, run_newRow, markStringish, shape, World.shape?, hlast, hsz, freeze, hWf]
    rfl
  · -- a pointer forgets its type
    rename_i ty b off hs hd
    split at e <;> try (simp at e; done)
    rename_i tr size z u el fz k hg hk
    cases hc : Nat.blt off size with
    | false => rw [hc] at e; simp at e
    | true =>
    rw [hc] at e
    simp at e; obtain ⟨rfl, rfl⟩ := e
    have hlt : off < size := by simpa [Nat.blt, Nat.succ_le_iff] using hc
    generalize hw : a.eval x = w at hv
    cases hv with
    | atom q => simp [atomV] at q
    | @ptr _ _ m hb =>
    obtain ⟨_, w1, cs, fz', rfl, hN, hu, hle, _⟩ := h.live _ _ _ hg hb
    refine sim_value (v' := .pointer (some ⟨m.c, off + m.δ, none⟩)) h ?_ (.ptr hb)
    have hno : ¬ (cs.size ≤ off + m.δ) := by omega
    simp [execOp, ho, hw, convert, run_underlying src hs, run_underlying dst hd, Conv.unsafePointer, Conv.seenAt, viewAt, shape, Sem.run, World.shape?, w1, cellsIn, run_sizeOf ty hk, hno]
  · -- and gets one again
    rename_i ty b off hs hd
    split at e <;> try (simp at e; done)
    rename_i tr size z0 z u el fz k hg hk
    cases hc : liesAt P P.depth el (size / P.cellsOf el) off ty 1 with
    | false => rw [hc] at e; simp at e
    | true =>
    rw [hc] at e
    simp at e; obtain ⟨rfl, rfl⟩ := e
    generalize hw : a.eval x = w at hv
    cases hv with
    | atom q => simp [atomV] at q
    | @ptr _ _ m hb =>
    obtain ⟨_, w1, cs, fz', rfl, hN, hu, hle, h60, hcell, hz0, hfz, hδ⟩ := h.live _ _ _ hg hb
    have hδ := hδ.1 (by simp)
    refine sim_value (v' := .pointer (some ⟨m.c, off + m.δ, none⟩)) h ?_ (.ptr hb)
    have hlies : liesAt P P.depth el (cs.size / P.cellsOf el) (off + m.δ) ty 1 = true := by
      rw [hδ, Nat.add_zero]
      exact liesAt_mono _ (Nat.div_le_div_right (by omega)) hc
    simp [execOp, ho, hw, convert, run_underlying src hs, run_underlying dst hd, Conv.unsafePointer, Conv.seenAt, viewAt, shape, program, Sem.run, World.shape?, w1, run_sizeOf ty hk, variablesAt, hlies]

theorem convert_sound {o : Oper} {src dst : TypeId} {x : Operand} {r : ANext} {A1 : AS} (ho : o.op = .convert src dst x) (h : R P base σ A W) (ht : TR σ t n a.tmps) (e : xConvert P o src dst x t A = some (r, A1)) :
    OpSim P base σ A W ((execOp a.eval o).run P W) r A1 := by
  have slow : ∀ v, aEval P x t = some v → convSlow P o src dst v t A = some (r, A1) → OpSim P base σ A W ((execOp a.eval o).run P W) r A1 := by
    intro v hv e
    unfold convSlow at e
    cases hc : closedV v with
    | false => rw [hc] at e; exact aConvert_sound ho h (eval_sound h ht hv) e
    | true =>
      rw [hc] at e
      simp only [cond_true] at e
      split at e
      · rename_i q hq
        simp at e; subst e
        exact pure_sound (by rw [ho]; simp) h ht hq
      · exact aConvert_sound ho h (eval_sound h ht hv) e
  unfold xConvert convV at e
  split at e
  · rename_i k i hi
    split at e
    · rename_i q hq
      simp at e; subst e
      have : a.eval x = .int k i := (eval_sound h ht hi).eq_of_closed rfl
      have := convInt_sound (k := k) h hq
      simpa only [execOp, ho, ‹a.eval x = .int k i›] using this
    · exact slow _ hi e
  · rename_i v _ hv
    exact slow _ hv e
  · simp at e

end Go.Eng
