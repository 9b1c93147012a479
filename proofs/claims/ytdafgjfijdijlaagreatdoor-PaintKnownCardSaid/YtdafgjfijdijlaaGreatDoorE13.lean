/- Part of an abstract machine that runs the program's code in Lean's kernel, and of the proof that what it answers every run of the model answers (Go.Eng; program-independent). No condition. -/
import Derived.Test.YtdafgjfijdijlaaGreatDoorE12
namespace Go.Eng
open Go

variable {P : Program} {base : Nat} {σ : Sg} {A : AS} {W : World} {t : T Value} {n : Nat} {a : Act}

theorem nextcap_le (need cap : Nat) (h : cap < need) : Builtin.nextslicecap need cap ≤ 2 * need + 768 := by
  unfold Builtin.nextslicecap
  split
  · omega
  · split
    · omega
    · have key : ∀ (r c : Nat), c ≤ 2 * need + 768 → Builtin.growBy need r c ≤ 2 * need + 768 := by
        intro r
        induction r with
        | zero => intro c hc; simpa [Builtin.growBy] using hc
        | succ r ih =>
          intro c hc
          simp only [Builtin.growBy]
          split
          · exact hc
          · exact ih _ (by omega)
      exact key 4 cap (by omega)

theorem growOk_spec {inf : TypeInfo} {z : List Value} {need : Nat} (h : growOk inf z need = true) :
    z.length = inf.size ∧ need * inf.size ≤ 2 ^ 60 ∧ need ≤ 2 ^ 40 ∧ ∀ cap, cap < need → ¬ (Builtin.nextslicecap need cap * inf.bytes > 2 ^ 48) := by
  simp only [growOk, Bool.and_eq_true] at h
  obtain ⟨⟨⟨⟨h1, h2⟩, h3⟩, h4⟩, h5⟩ := h
  have h2 := Nat.le_of_ble_eq_true h2
  have h3 := Nat.le_of_ble_eq_true h3
  have h4 := Nat.le_of_ble_eq_true h4
  refine ⟨Nat.eq_of_beq_eq_true h1, Nat.le_of_ble_eq_true h5, h4, fun cap hc hgt => ?_⟩
  have hle := nextcap_le need cap hc
  have : Builtin.nextslicecap need cap * inf.bytes ≤ (2 * need + 768) * inf.bytes := Nat.mul_le_mul_right _ hle
  rw [Nat.add_mul, Nat.mul_assoc] at this
  have : 768 * inf.bytes ≤ 768 * 2 ^ 30 := Nat.mul_le_mul_left _ h2
  omega

theorem run_zero_length {z : List Value} {zv : Value} (hz : zv.cells.toList = z) : zv.cells.size = z.length := by rw [← hz]; simp

/-- The new row of an append. -/
theorem appendRow {inf : TypeInfo} {need newCap : Nat} {all' : List Value} {zv : Value} (hsz : zv.cells.size = inf.size) (hall : all'.length = need * inf.size) (hle : need ≤ newCap) :
    (all'.toArray ++ Builtin.zeroCells zv.cells (newCap - need)).size = newCap * inf.size := by
  simp only [Array.size_append, Builtin.zeroCells, Array.size_map, Array.size_range, hsz, List.size_toArray, hall]
  rw [← Nat.add_mul]; congr 1; omega

/-- Append's run where there is no room. -/
theorem run_append_new {sType xType : TypeId} {elem : TypeId} {xd : TypeDesc} {inf : TypeInfo} {z : List Value} {s x : Value} {bs : Option Addr} {sLen sCap k : Nat} {old new : Array Value} {ty : TypeId} {more : List TypeId}
    (hs : P.underlying sType = some (.slice elem)) (hx : P.underlying xType = some xd) (hxd : notInt xd = true) (hinf : P.info? elem = some inf) (hz : zeroP P elem = some z) (hg : growOk inf z (sLen + k) = true)
    (hsv : s = .slice bs sLen sCap) (hk : (Builtin.lenOf x).run P W = .ok k W) (hlt : sCap < sLen + k)
    (ho : ∀ W' : World, W'.heap = W.heap → (Builtin.firstCells inf.size sLen s).run P W' = .ok old W') (hn : ∀ W' : World, W'.heap = W.heap → (Builtin.firstCells inf.size k x).run P W' = .ok new W') :
    ∃ (newCap : Nat) (zv : Value), sLen + k ≤ newCap ∧ zv.cells.toList = z ∧ (Builtin.append_ ⟨sType :: xType :: more⟩ ty ⟨[s, x]⟩).run P W =
      .ok (.slice (some ⟨W.heap.size, 0, none⟩) (sLen + k) newCap) { W with heap := W.heap.push (.cells (old ++ new ++ Builtin.zeroCells zv.cells (newCap - (sLen + k))) elem), drawn := W.drawn + 1 } := by
  obtain ⟨hzl, h60, h40, hcap⟩ := growOk_spec hg
  have hszP : sizeP P elem = some inf.size := by simp [sizeP, hinf]
  obtain ⟨zv, hr, hcl, hzz⟩ := run_zeroValue elem hz { W with drawn := W.drawn + 1 }
  refine ⟨(Question.appendCap (sLen + k) sCap elem).cut (W.tape W.drawn (.appendCap (sLen + k) sCap elem)), zv, by simp [Question.cut], hzz, ?_⟩
  generalize hq : (Question.appendCap (sLen + k) sCap elem).cut (W.tape W.drawn (.appendCap (sLen + k) sCap elem)) = newCap
  subst hsv
  have hzeros : ∀ W' : World, ((do pure ((← underlying xType) matches .int _) : Sem Bool)).run P W' = .ok false W' := fun W' => by
    simp only [Sem.run_bind, run_underlying xType hx, Result.andThen_ok, Sem.run_pure]
    cases xd <;> first | rfl | (simp [notInt] at hxd)
  have h1 : ¬ (sLen + k ≤ sCap) := by omega
  have h2 : ¬ (((sLen + k : Nat) : Int) > IntKind.i64.max) := by
    have : IntKind.i64.max = 9223372036854775807 := by decide
    rw [this]; omega
  have h3 := hcap sCap hlt
  have hchoose : (choose (.appendCap (sLen + k) sCap elem)).run P W = .ok newCap { W with drawn := W.drawn + 1 } := by simp [choose, Sem.run, Question.forced, hq]
  have ho1 := ho { W with drawn := W.drawn + 1 } rfl
  have hn1 := hn { W with drawn := W.drawn + 1 } rfl
  simp only [Builtin.append_, List.getElem?_toArray, List.getElem?_cons_zero, List.getElem?_cons_succ, Sem.run_bind, run_underlying sType hs, run_underlying xType hx, Result.andThen_ok, run_sizeOf elem hszP, Sem.run_pure]
  have h4 : ∀ c : Prop, ¬ (((sLen + k : Nat) : Int) > IntKind.i64.max ∧ c) := fun c q => h2 q.1
  cases xd <;> first | (simp [notInt] at hxd; done) | skip
  all_goals
    simp only [Bool.false_eq_true, if_false, Sem.run_bind, hk, Result.andThen_ok]
    rw [if_neg h1]
    simp only [Sem.run_bind, run_typeInfo elem hinf, Result.andThen_ok]
    rw [if_neg (h4 _)]
    simp only [Sem.run_bind, run_typeInfo elem hinf, Result.andThen_ok]
    rw [if_neg h3]
    simp only [Sem.run_bind, hchoose, run_typeInfo elem hinf, run_askRoom, ho1, hn1, Bool.not_false, if_true, hr, run_newRow, Sem.run_pure, Result.andThen_ok]

/-- Append's run where there is room. -/
theorem run_append_in {sType xType : TypeId} {elem : TypeId} {xd : TypeDesc} {size : Nat} {s x : Value} {bs : Option Addr} {sLen sCap k : Nat} {new : Array Value} {ty : TypeId} {more : List TypeId}
    (hs : P.underlying sType = some (.slice elem)) (hx : P.underlying xType = some xd) (hxd : notInt xd = true) (hsz : sizeP P elem = some size)
    (hsv : s = .slice bs sLen sCap) (hk : (Builtin.lenOf x).run P W = .ok k W) (hle : sLen + k ≤ sCap) (hn : (Builtin.firstCells size k x).run P W = .ok new W) :
    (Builtin.append_ ⟨sType :: xType :: more⟩ ty ⟨[s, x]⟩).run P W =
      ((match bs with | some a => storeCells (a.add (sLen * size)) new.toList | none => pure () : Sem Unit).run P W).andThen fun _ W1 => .ok (.slice bs (sLen + k) sCap) W1 := by
  subst hsv
  simp only [Builtin.append_, List.getElem?_toArray, List.getElem?_cons_zero, List.getElem?_cons_succ, Sem.run_bind, run_underlying sType hs, run_underlying xType hx, Result.andThen_ok, run_sizeOf elem hsz, Sem.run_pure]
  cases xd <;> first | (simp [notInt] at hxd; done) | skip
  all_goals
    simp only [Bool.false_eq_true, if_false, Sem.run_bind, hk, Result.andThen_ok]
    rw [if_pos hle]
    simp only [Sem.run_bind, Bool.not_false, if_true, hn, Result.andThen_ok]
    cases bs with
    | none => simp
    | some a => simp only [Sem.run_bind, Sem.run_pure]


/-- Firstcells where only the tape's place has turned. -/
theorem cells_sound' {x x' : Value} {k size : Nat} {l : List Value} (h : R P base σ A W) (hx : VR σ x x') (hlen : ∀ len, aLen x = some len → k ≤ len) (e : aCells size k x A = some l) :
    ∃ l', VRs σ l l' ∧ ∀ W' : World, W'.heap = W.heap → (Builtin.firstCells size k x').run P W' = .ok ⟨l'⟩ W' := by
  obtain ⟨l', e1, e2⟩ := cells_sound h hx hlen e
  refine ⟨l', e2, fun W' hW => ?_⟩
  obtain ⟨l'', f1, f2⟩ := cells_sound (h.same hW) hx hlen e
  have : l'' = l' := by
    have g : ∀ (W1 W2 : World) (r1 r2 : Array Value), W1.heap = W2.heap → (Builtin.firstCells size k x').run P W1 = .ok r1 W1 → (Builtin.firstCells size k x').run P W2 = .ok r2 W2 → r1 = r2 := by
      intro W1 W2 r1 r2 hh q1 q2
      unfold Builtin.firstCells at q1 q2
      split at q1
      · rename_i ad _ _
        simp only [loadCells] at q1 q2
        have key : ∀ (m i : Nat) (acc r1 r2 : Array Value), (loadCellsFrom ad i m acc).run P W1 = .ok r1 W1 → (loadCellsFrom ad i m acc).run P W2 = .ok r2 W2 → r1 = r2 := by
          intro m
          induction m with
          | zero => intro i acc r1 r2 a b; simp [loadCellsFrom] at a b; rw [← a, ← b]
          | succ m ih =>
            intro i acc r1 r2 a b
            have hc : ∀ z, W1.cell? z = W2.cell? z := fun z => by simp [World.cell?, hh]
            have hf : ∀ z q, W1.farLoad P z q = W2.farLoad P z q := fun z q => by
              simp [World.farLoad, World.noCell, World.viewLoad, World.seen, hh]
            simp only [loadCellsFrom, Sem.run_bind, load, Sem.run, hc, hf] at a b
            cases hz : W2.cell? (ad.add i) with
            | some v => simp only [hz, Result.andThen_ok] at a b; exact ih _ _ _ _ a b
            | none =>
              simp only [hz] at a b
              cases hz2 : W2.farLoad P (ad.add i) (Mode.plain == Mode.atomic) with
              | ok p => obtain ⟨v, _⟩ := p; simp only [hz2, Result.andThen_ok] at a b; exact ih _ _ _ _ a b
              | error q => simp [hz2] at a
        exact key _ _ _ _ _ q1 q2
      · simp at q1 q2; rw [q1, q2]
      · simp at q1 q2; rw [← q1, ← q2]
      · simp [stuck] at q1
    have := g W' W _ _ hW f1 e1
    simpa using this
  rw [← this]; exact f1

theorem append_sound {ts : List TypeId} {args args' : List Value} {v : Value} {A1 : AS} (h : R P base σ A W) (ha : VRs σ args args') (e : aAppend P ts args A = some (v, A1)) (ty : TypeId) :
    ∃ σ1 W1 v', (Builtin.append_ ⟨ts⟩ ty ⟨args'⟩).run P W = .ok v' W1 ∧ R P base σ1 A1 W1 ∧ Ext A σ W A1 σ1 W1 ∧ VR σ1 v v' := by
  unfold aAppend at e
  split at e <;> try (simp at e; done)
  rename_i sType xType more bs sLen sCap x
  obtain ⟨s', _, rfl, hs', ha⟩ := ha.snoc_inv
  obtain ⟨x', _, rfl, hx', ha⟩ := ha.snoc_inv
  cases ha
  split at e <;> try (simp at e; done)
  rename_i elem xd k hst hxt hk
  cases hxd : notInt xd with
  | false => rw [hxd] at e; simp at e
  | true =>
  rw [hxd] at e
  simp only [cond_true] at e
  split at e <;> try (simp at e; done)
  rename_i inf z hinf hz
  have hsz : sizeP P elem = some inf.size := by simp [sizeP, hinf]
  split at e <;> try (simp at e; done)
  · -- a nil slice
    rename_i new hnew
    obtain ⟨new', n1, n2⟩ := cells_sound' h hx' (fun len hl => by rw [hk] at hl; simp at hl; omega) hnew
    cases hc : (Nat.beq sLen 0 && Nat.beq sCap 0) with
    | false => rw [hc] at e; simp at e
    | true =>
    rw [hc] at e
    simp only [cond_true] at e
    simp only [Bool.and_eq_true] at hc
    obtain rfl := Nat.eq_of_beq_eq_true hc.1
    obtain rfl := Nat.eq_of_beq_eq_true hc.2
    have hs0 : s' = .slice none 0 0 := hs'.eq_of_closed rfl
    have hkr := aLen_sound (P := P) hx' hk W
    unfold appendNil at e
    split at e
    · simp at e; obtain ⟨rfl, rfl⟩ := e
      refine ⟨σ, W, .slice none 0 0, ?_, h, Ext.refl _ _ _, .atom rfl⟩
      rw [run_append_in hst hxt hxd hsz hs0 hkr (Nat.le_refl _) (n2 W rfl)]
      simp
    · rename_i k
      cases hg : (growOk inf z (k + 1) && new.all oneCell) with
      | false => rw [hg] at e; simp at e
      | true =>
      rw [hg] at e
      simp only [cond_true, Option.some.injEq, Prod.mk.injEq] at e
      obtain ⟨rfl, rfl⟩ := e
      simp only [Bool.and_eq_true] at hg
      obtain ⟨hzl, h60, h40, _⟩ := growOk_spec hg.1
      obtain ⟨newCap, zv, c1, c2, c3⟩ := run_append_new (ty := ty) (more := more) (W := W) hst hxt hxd hinf hz (sLen := 0) (sCap := 0) (k := k + 1) (old := #[]) (new := ⟨new'⟩) (by simpa using hg.1) hs0 hkr (by omega)
        (fun W' _ => by simp [hs0, Builtin.firstCells]) n2
      have hlen : new'.length = (k + 1) * inf.size := by rw [n1.length]; exact aCells_length hnew
      have hzs : zv.cells.size = inf.size := by rw [run_zero_length c2, hzl]
      have hrow := appendRow (inf := inf) (need := k + 1) (newCap := newCap) (all' := new') (zv := zv) hzs hlen (by omega)
      simp only [Nat.zero_add, Array.empty_append] at c3
      obtain ⟨m, m1, m2, m3, m4, m5, r1, r2⟩ := h.newCells (tr := T.setAll .leaf 0 new) (size := (k + 1) * inf.size) (z := []) (u := inf.size) (e := elem) (fz := (0, 0)) (cs := new'.toArray ++ Builtin.zeroCells zv.cells (newCap - (k + 1))) h60
        (by rw [hrow]; exact Nat.mul_le_mul_right _ (by omega)) (fun i u hi hu => by
          obtain ⟨u', q1, q2⟩ := n1.setAll_cell (by rw [aCells_length hnew]; exact h60) i u (by rw [aCells_length hnew]; exact hi) hu
          refine ⟨u', ?_, q2⟩
          rw [Array.getElem?_append_left (by simp; omega)]
          simpa using q1)
      have hW : ∀ (X : World), X.heap = W.heap.push (.cells (new'.toArray ++ Builtin.zeroCells zv.cells (newCap - (k + 1))) elem) → Rest W X → R P base (σ.add A.nx m) (A.new (.cells (T.setAll .leaf 0 new) ((k + 1) * inf.size) [] inf.size elem (0, 0))) X ∧
          Ext A σ W (A.new (.cells (T.setAll .leaf 0 new) ((k + 1) * inf.size) [] inf.size elem (0, 0))) (σ.add A.nx m) X := fun X hX hr => ⟨r1.same hX, r2.trans (Ext.same' hX hr)⟩
      refine ⟨_, _, _, c3, (hW _ rfl (by exact ⟨rfl, rfl⟩)).1, (hW _ rfl (by exact ⟨rfl, rfl⟩)).2, ?_⟩
      have := VR.slice (σ := σ.add A.nx m) (b := A.nx) (o := 0) (o' := 0) (len := k + 1) (cap := k + 1) (cap' := newCap) (m := m) (Sg.add_at σ A.nx m) (Nat.le_refl _) (by omega) (.inr (by rw [m4, m3, hrow]; omega)) (.inl (by omega))
      rw [m1] at this
      exact this
  · -- a slice that lies somewhere
    rename_i new b off hnew
    obtain ⟨new', n1, n2⟩ := cells_sound' h hx' (fun len hl => by rw [hk] at hl; simp at hl; omega) hnew
    have hkr := aLen_sound (P := P) hx' hk W
    cases hs' with
    | atom q => simp [atomV] at q
    | @slice _ _ o' _ _ cap' m hb d1 d2 d3 d4 =>
    unfold appendTo at e
    split at e
    · cases hc : Nat.ble sLen sCap with
      | false => rw [hc] at e; simp at e
      | true =>
      rw [hc] at e
      simp at e; obtain ⟨rfl, rfl⟩ := e
      have hnew' : new' = [] := by
        have := n1.length
        rw [aCells_length hnew] at this
        simpa using this
      subst hnew'
      refine ⟨σ, W, .slice (some ⟨m.c, o', none⟩) sLen cap', ?_, h, Ext.refl _ _ _, .slice hb d1 d2 d3 d4⟩
      rw [run_append_in hst hxt hxd hsz rfl hkr (by omega) (n2 W rfl)]
      simp [storeCells]
    · rename_i k
      cases hroom : Nat.ble (sLen + (k + 1)) sCap with
      | true =>
        rw [hroom] at e
        simp only [cond_true] at e
        have hroom := Nat.le_of_ble_eq_true hroom
        unfold appendIn at e
        split at e <;> try (simp at e; done)
        rename_i A' hp
        simp at e; obtain ⟨rfl, rfl⟩ := e
        have ho' : o' = off + m.δ := by rcases d4 with d4 | d4 <;> omega
        obtain ⟨W1, w1, w2, w3⟩ := putCells_sound h hb n1 hp
        refine ⟨σ, W1, .slice (some ⟨m.c, o', none⟩) (sLen + (k + 1)) cap', ?_, w2, w3, .slice hb (by omega) d2 d3 d4⟩
        rw [run_append_in hst hxt hxd hsz rfl hkr (by omega) (n2 W rfl)]
        simp only [add_eq]
        rw [show o' + sLen * inf.size = off + sLen * inf.size + m.δ by omega, w1]
        rfl
      | false =>
        rw [hroom] at e
        simp only [cond_false] at e
        have hroom : ¬ (sLen + (k + 1) ≤ sCap) := fun q => by rw [Nat.ble_eq_true_of_le q] at hroom; simp at hroom
        unfold appendNew at e
        split at e <;> try (simp at e; done)
        rename_i old q1 q2 q3 q4 q5 q6 hold hg
        cases hc : (Nat.beq q5 elem && Nat.beq q4 inf.size && Nat.ble A.lo b && growOk inf z (sLen + (k + 1)) && Nat.ble q6.2 (off + sLen * inf.size) && Nat.ble (off + sLen * inf.size) (2 ^ 60) && new.all oneCell && Nat.ble sLen sCap) with
        | false => rw [hc] at e; simp at e
        | true =>
        rw [hc] at e
        simp only [cond_true, Option.some.injEq, Prod.mk.injEq] at e
        obtain ⟨rfl, rfl⟩ := e
        simp only [Bool.and_eq_true] at hc
        obtain ⟨⟨⟨⟨⟨⟨⟨h0, h1⟩, h2⟩, h3⟩, h4⟩, h5⟩, h6⟩, h7⟩ := hc
        obtain rfl := Nat.eq_of_beq_eq_true h0
        have h1 := Nat.eq_of_beq_eq_true h1
        have h2 := Nat.le_of_ble_eq_true h2
        have h4 := Nat.le_of_ble_eq_true h4
        have h5 := Nat.le_of_ble_eq_true h5
        obtain ⟨hzl, h60, h40, _⟩ := growOk_spec h3
        obtain ⟨_, w1, cs, fz', rfl, hN, hu, hle, h60', hcell, hz0, hfz, hδ⟩ := h.live _ _ _ hg hb
        have hsl : VR σ (.slice (some ⟨b, off, none⟩) sLen sCap) (.slice (some ⟨m.c, o', none⟩) sLen cap') := .slice hb d1 d2 d3 d4
        obtain ⟨old', o1, o2⟩ := cells_sound' h hsl (fun len hl => by simp [aLen] at hl; omega) hold
        have hlo : old.length = sLen * inf.size := aCells_length hold
        have hln : new.length = (k + 1) * inf.size := aCells_length hnew
        have hlo' : old'.length = sLen * inf.size := by rw [o1.length, hlo]
        have hln' : new'.length = (k + 1) * inf.size := by rw [n1.length, hln]
        have hsum : sLen * inf.size + (k + 1) * inf.size = (sLen + (k + 1)) * inf.size := (Nat.add_mul _ _ _).symm
        have hall := o1.append n1
        by_cases hin : sLen + (k + 1) ≤ cap'
        · -- it grows where it lies
          have hext : o' + cap' * m.u ≤ m.N := d3.resolve_left (by omega)
          have hus : m.u = inf.size := by rw [hu, h1]
          have hcapm : (sLen + (k + 1)) * inf.size ≤ cap' * m.u := by rw [hus]; exact Nat.mul_le_mul_right _ hin
          have hoo : off + m.δ ≤ o' := by rcases d4 with d4 | d4 <;> omega
          have hoff0 : o' ≠ off + m.δ → sLen = 0 := fun q => by rcases d4 with d4 | d4 <;> omega
          have hnofz : ∀ i, off + sLen * inf.size ≤ i → ¬ mayFz q6 i := by
            rintro i hi ⟨_, hm⟩
            rcases hm with hm | hm
            · omega
            · omega
          have hnf : ∀ j, o' + sLen * inf.size ≤ j → ¬ (fz'.1 ≤ j ∧ j < fz'.2) := by
            rintro j hj ⟨f1, f2⟩
            refine hnofz (j - m.δ) ?_ (hfz (j - m.δ) (by omega) (by omega))
            omega
          obtain ⟨W1, s1, s2, s3⟩ := run_storeCells_own (P := P) m.c (o' + sLen * inf.size) q5 fz' new' 0 cs W w1 (by omega) (by rw [n1.all_oneCell]; exact h6) (fun j _ => hnf _ (by omega))
          have hclt := (Array.getElem?_eq_some_iff.1 w1).1
          have hal := h.alias (hr := s3) (b := b) (m := m) (m1 := ⟨m.c, o', m.N, inf.size⟩) (W1 := W1) (o1 := .cells (T.setAll .leaf 0 (old ++ new)) ((sLen + (k + 1)) * inf.size) [] inf.size q5 (bif Nat.beq q6.2 0 then (0, 0) else (0, sLen * inf.size + 1)))
            (o1' := .cells (wr cs (o' + sLen * inf.size) new') q5 fz') (by rw [hg]; rfl) hb h2 (by rw [s2]; simp) (fun y hy => by rw [s2, Array.getElem?_setIfInBounds_ne (Ne.symm hy)])
            (by rw [s2, Array.getElem?_setIfInBounds]; simp [hclt]) rfl
            ⟨_, fz', rfl, by rw [wr_size]; exact hN, rfl, by dsimp only; omega, h60, fun i u hi hu => by
              dsimp only
              obtain ⟨u', g1, g2⟩ := hall.setAll_cell (by simp only [List.length_append]; omega) i u (by simp only [List.length_append]; omega) hu
              refine ⟨u', ?_, g2⟩
              rw [wr_get _ _ _ _ (by omega)]
              by_cases hi2 : i < sLen * inf.size
              · rw [if_neg (by omega)]
                rw [List.getElem?_append_left (by omega)] at g1
                have hoff : o' = off + m.δ := Classical.byContradiction fun q => by rw [hoff0 q] at hi2; simp at hi2
                have hsz2 : off + sLen * inf.size ≤ q2 ∧ T.take (cellF q1 q3) (sLen * inf.size) off = some old := by
                  have hold' := hold
                  simp only [aCells, hg] at hold'
                  cases hqq : Nat.ble (off + sLen * inf.size) q2 with
                  | false => rw [hqq] at hold'; simp at hold'
                  | true => rw [hqq] at hold'; exact ⟨Nat.le_of_ble_eq_true hqq, hold'⟩
                obtain ⟨l'', y1, y2, y3⟩ := h.cells hg hb hsz2.1 hsz2.2
                have hu2 : old[i]? = some u := by
                  have hat := T.setAll_at (old ++ new) (.leaf : T Value) 0 i (by simp only [List.length_append]; omega)
                  rw [if_pos (by simp only [List.length_append]; omega)] at hat
                  rcases cellF_lt hu with hq | ⟨_, hq⟩
                  · rw [hat, Nat.sub_zero, List.getElem?_append_left (by omega)] at hq; exact hq
                  · simp [nth] at hq
                obtain ⟨u'', z1, z2⟩ := y1.get i u hu2
                have hc2 := y3 i u'' z1
                -- the old cells are the ones that lie there
                have hsame : l'' = old' := by
                  have e1 := o2 W rfl
                  have e2 := run_loadCellsFrom_at (P := P) m.c o' l'' 0 #[] W (fun j v hv => by have := y3 j v hv; rw [← hoff] at this; simpa using this)
                  rw [y2] at e2
                  simp only [Builtin.firstCells, loadCells] at e1
                  rw [e2] at e1
                  simpa using e1
                rw [hsame] at z1
                rw [g1] at z1
                obtain rfl := Option.some.inj z1
                rw [← hoff] at hc2
                simp only [World.cell?, w1, Option.isSome_none, Bool.false_eq_true, if_false] at hc2
                rw [Nat.add_comm]; exact hc2
              · rw [if_pos (by omega)]
                rw [List.getElem?_append_right (by omega), hlo'] at g1
                rw [show i + o' - (o' + sLen * inf.size) = i - sLen * inf.size by omega]
                exact g1,
             fun q => by
              cases hz : Nat.beq q6.2 0 with
              | true => exact hz0 (Nat.eq_of_beq_eq_true hz)
              | false =>
                rw [hz] at q
                simp at q,
             fun i i1 i2 => by
              dsimp only at i1 i2
              cases hz : Nat.beq q6.2 0 with
              | true => obtain rfl := hz0 (Nat.eq_of_beq_eq_true hz); simp at i2
              | false =>
                refine ⟨Nat.zero_le _, .inl ?_⟩
                exact Classical.byContradiction fun hge => hnf (i + o') (by simp at hge; omega) ⟨i1, i2⟩,
             fun q => by simp at q, .inr (hδ.2.resolve_left (by omega))⟩
          refine ⟨_, W1, .slice (some ⟨m.c, o', none⟩) (sLen + (k + 1)) cap', ?_, hal.1, hal.2, ?_⟩
          · rw [run_append_in hst hxt hxd hsz rfl hkr hin (n2 W rfl)]
            simp only [add_eq, s1, Result.andThen_ok]
          · have := VR.slice (σ := σ.add A.nx ⟨m.c, o', m.N, inf.size⟩) (b := A.nx) (o := 0) (o' := o') (len := sLen + (k + 1)) (cap := sLen + (k + 1)) (cap' := cap') (m := ⟨m.c, o', m.N, inf.size⟩) (Sg.add_at σ A.nx _) (Nat.le_refl _) hin (.inr (by rw [← hus]; exact hext)) (.inl (by simp))
            exact this
        · -- it moves
          obtain ⟨newCap, zv, c1, c2, c3⟩ := run_append_new (ty := ty) (more := more) (W := W) hst hxt hxd hinf hz (sLen := sLen) (sCap := cap') (k := k + 1) (old := ⟨old'⟩) (new := ⟨new'⟩) h3 rfl hkr (by omega) o2 n2
          have hzs : zv.cells.size = inf.size := by rw [run_zero_length c2, hzl]
          have hall' : (old' ++ new').length = (sLen + (k + 1)) * inf.size := by rw [List.length_append]; omega
          have hrow := appendRow (inf := inf) (need := sLen + (k + 1)) (newCap := newCap) (all' := old' ++ new') (zv := zv) hzs hall' c1
          have hcs : (⟨old'⟩ ++ ⟨new'⟩ ++ Builtin.zeroCells zv.cells (newCap - (sLen + (k + 1))) : Array Value) = (old' ++ new').toArray ++ Builtin.zeroCells zv.cells (newCap - (sLen + (k + 1))) := by simp
          rw [hcs] at c3
          obtain ⟨k1, k2⟩ := h.kill b
          obtain ⟨mm, m1, m2, m3, m4, m5, r1, r2⟩ := k1.newCells (tr := T.setAll .leaf 0 (old ++ new)) (size := (sLen + (k + 1)) * inf.size) (z := []) (u := inf.size) (e := q5) (fz := bif Nat.beq q6.2 0 then (0, 0) else (0, sLen * inf.size + 1))
            (cs := (old' ++ new').toArray ++ Builtin.zeroCells zv.cells (newCap - (sLen + (k + 1)))) h60
            (by rw [hrow]; exact Nat.mul_le_mul_right _ c1) (fun i u hi hu => by
              obtain ⟨u', g1, g2⟩ := hall.setAll_cell (by simp only [List.length_append]; omega) i u (by simp only [List.length_append]; omega) hu
              refine ⟨u', ?_, g2⟩
              rw [Array.getElem?_append_left (by simp only [List.size_toArray]; omega)]
              simpa using g1)
          refine ⟨_, _, _, c3, r1.same rfl, (k2.trans r2).trans (Ext.same' rfl), ?_⟩
          have := VR.slice (σ := σ.add A.nx mm) (b := A.nx) (o := 0) (o' := 0) (len := sLen + (k + 1)) (cap := sLen + (k + 1)) (cap' := newCap) (m := mm) (Sg.add_at σ A.nx mm) (Nat.le_refl _) c1 (.inr (by rw [m4, m3, hrow]; omega)) (.inl (by omega))
          rw [m1] at this
          exact this

end Go.Eng
