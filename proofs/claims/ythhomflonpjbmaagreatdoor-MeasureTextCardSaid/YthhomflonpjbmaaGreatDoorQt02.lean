/-
  Slices that a call made: of whatever elements: read, written, grown.
-/
import Derived.Test.YthhomflonpjbmaaGreatDoorProg
import Derived.WalkKit
import Derived.WalkSpells
import Derived.WalkLawsBesides
import Derived.WalkSmall
import Derived.Lib.SmallJoins
import Derived.Lib.Hide
import Derived.Test.YthhomflonpjbmaaGreatDoorQt01
import Derived.Maps.OwnOps
import Derived.DeepKeys4
import Derived.Maps.OwnSet
namespace Go.Proofs.YthhomflonpjbmaaGreatDoor
open Go.RowKit

theorem below_drewN {B : Nat} {a w : World} (h : Below B a w) (n : Nat) : Below B a (w.drewN n) := ⟨h.os, h.tape, h.output, h.size, h.block⟩
/-- What the append law asks of a slice type T of elements e, each of sz cells and so many bytes. -/
structure ElOK (T e sz bytes : Nat) (z : Value) : Prop where
  hT : Tryz.prog.underlying T = some (.slice e)
  hI : (Tryz.prog.info? e).map (fun i => (i.zero, i.size, i.bytes)) = some (some z, sz, bytes)
  hz : z.cells.size = sz
  hs : 0 < sz
  hb : bytes ≤ 64
/-- THE WALK's STEP over 'append(out, x)' of one element on a slice of the call's own. -/
theorem wpList_append_new {ops : Array Oper} {rest : List Oper} {a : Act} {Q : Exit → Act → World → Prop} {W : World} {dst : Option Tmp} {ty : TypeId} {s x : Operand} {pos : String} {after : Array Edge} {v z : Value} {xs : List Value} {nw : Array Value} {B g n T e sz bytes : Nat}
    (E : ElOK T e sz bytes z) (hs : a.eval s = v) (hx : a.eval x = .slice (some ⟨g, 0, none⟩) 1 1) (hg : g = W.heap.size) (hrow : W.ownsRow B e sz v n xs) (hB : B ≤ W.heap.size) (hlen : n < 1000000000000)
    (hn : nw.size = sz) (h1 : ∀ u ∈ nw.toList, u.oneCell' = true)
    (h : ∀ v' w', w'.ownsRow B e sz v' (n + 1) (xs ++ nw.toList) → (W.alloc (.cells nw e)).grownBy w' v.ownBlock → (v'.ownBlock = v.ownBlock ∨ v'.ownBlock = some (W.heap.size + 1)) → ∀ K : Act → World → Prop, (∀ a w, wpList Tryz.prog ops Q rest a w → K a w) → K (a.put dst v') w') :
    wpList Tryz.prog ops Q ({ dst := dst, op := .call { callee := .builtin .append, args := #[s, x], argTypes := #[T, T] }, type := ty, pos := pos, after := after, guard := none } :: rest) a (W.alloc (.cells nw e)) := by
  obtain ⟨i0, hi, hz0, hz1, hz2⟩ := info_parts E.hI
  subst hg
  have hb := E.hb
  refine wpList_append_place (w := W.alloc (.cells nw e)) rfl s x T rfl B e i0 z sz bytes E.hT hi hz0 hz1 hz2 E.hz E.hs v n xs hs (hrow.alloc _)
    ⟨W.heap.size, 0, none⟩ 1 1 nw.toList hx (by simp [hn]) ?_ h1 ?_ ?_ ?_ (by decide) ?_
  · intro j u hj
    have hj' : j < nw.size := by have := (List.getElem?_eq_some_iff.1 hj).1; simpa using this
    have : (W.alloc (.cells nw e)).cell? ⟨W.heap.size, 0 + j, none⟩ = nw[j]? := by rw [Nat.zero_add]; exact World.cell?_alloc_new _ _ _ _
    rw [show (⟨W.heap.size, 0, none⟩ : Addr).add j = ⟨W.heap.size, 0 + j, none⟩ by simp [Addr.add]; omega]
    exact this.trans (by simpa using hj)
  · simp [maxLen]; omega
  · have : (n + 1) * bytes ≤ 1000000000000 * 64 := Nat.mul_le_mul (by omega) hb
    omega
  · simp; omega
  · intro v' w' hown hgr hp
    rw [World.size_alloc] at hp
    exact h v' w' hown hgr hp _ (fun _ _ h => h)

/-- THE WALK's STEP over 'append(out, x..)' of m elements on a slice of the call's own. -/
theorem wpList_append_cells {ops : Array Oper} {rest : List Oper} {a : Act} {Q : Exit → Act → World → Prop} {W : World} {dst : Option Tmp} {ty : TypeId} {s x : Operand} {pos : String} {after : Array Edge} {v z : Value} {xs news : List Value} {B g o n m c T e sz bytes : Nat}
    (E : ElOK T e sz bytes z) (hs : a.eval s = v) (hx : a.eval x = .slice (some ⟨g, o, none⟩) m c) (hl : news.length = m * sz) (hnews : ∀ j u, news[j]? = some u → W.cell? ⟨g, o + j, none⟩ = some u) (h1 : ∀ u ∈ news, u.oneCell' = true)
    (hrow : W.ownsRow B e sz v n xs) (hB : B ≤ W.heap.size) (hlen : n + m < 1000000000000) (hm : 0 < m)
    (h : ∀ v' w', w'.ownsRow B e sz v' (n + m) (xs ++ news) → W.grownBy w' v.ownBlock → (v'.ownBlock = v.ownBlock ∨ v'.ownBlock = some W.heap.size) → ∀ K : Act → World → Prop, (∀ a w, wpList Tryz.prog ops Q rest a w → K a w) → K (a.put dst v') w') :
    wpList Tryz.prog ops Q ({ dst := dst, op := .call { callee := .builtin .append, args := #[s, x], argTypes := #[T, T] }, type := ty, pos := pos, after := after, guard := none } :: rest) a W := by
  obtain ⟨i0, hi, hz0, hz1, hz2⟩ := info_parts E.hI
  have hb := E.hb
  refine wpList_append_place (w := W) rfl s x T rfl B e i0 z sz bytes E.hT hi hz0 hz1 hz2 E.hz E.hs v n xs hs hrow
    ⟨g, o, none⟩ m c news hx hl ?_ h1 ?_ ?_ hB hm ?_
  · intro j u hj
    rw [show (⟨g, o, none⟩ : Addr).add j = ⟨g, o + j, none⟩ by simp [Addr.add]]
    exact hnews j u hj
  · simp [maxLen]; omega
  · have : (n + m) * bytes ≤ 1000000000000 * 64 := Nat.mul_le_mul (by omega) hb
    omega
  · intro v' w' hown hgr hp
    exact h v' w' hown hgr hp _ (fun _ _ h => h)

theorem news_of_alloc (w : World) (cs : Array Value) (t k : Nat) (news : List Value) (h : news = cs.toList.take k) : ∀ (j : Nat) u, news[j]? = some u → (w.alloc (.cells cs t)).cell? ⟨w.heap.size, 0 + j, none⟩ = some u := by
  intro j u hj
  subst h
  rw [Nat.zero_add, World.cell?_alloc_new]
  obtain ⟨h1, h2⟩ := List.getElem?_eq_some_iff.1 hj
  rw [List.getElem_take] at h2
  rw [← h2]
  simp at h1 ⊢
theorem orow_le {w : World} {base base' size n e : Nat} {v : Value} {xs : List Value} (h : w.ownsRow base e size v n xs) (hb : base' ≤ base) : w.ownsRow base' e size v n xs :=
  ⟨h.1, h.2.elim Or.inl (fun ⟨g, cap, cur, hv, hg, r⟩ => Or.inr ⟨g, cap, cur, hv, Nat.le_trans hb hg, r⟩)⟩
theorem orow_below {w w' : World} {B B' e sz n : Nat} {v : Value} {xs : List Value} (h : w.ownsRow B e sz v n xs) (hb : Below B' w w') (hv : ∀ k, v.ownBlock = some k → k < B') : w'.ownsRow B e sz v n xs := by
  refine ⟨h.1, ?_⟩
  rcases h.2 with h' | ⟨g, cap, cur, h1, h2, h3, h4⟩
  · exact .inl h'
  · refine .inr ⟨g, cap, cur, h1, h2, ?_, h4⟩
    rw [hb.block g (hv g (by simp [h1, Value.ownBlock]))]; exact h3
theorem orow_belowSize {w w' : World} {B e sz n : Nat} {v : Value} {xs : List Value} (h : w.ownsRow B e sz v n xs) (hb : Below w.heap.size w w') : w'.ownsRow B e sz v n xs :=
  orow_below h hb fun k hk => (World.ownsRow.lt h k hk).2
theorem orow_drewN {w : World} {B e sz n : Nat} {v : Value} {xs : List Value} (h : w.ownsRow B e sz v n xs) (k : Nat) : (w.drewN k).ownsRow B e sz v n xs := h

/-- A call answers a new slice of these elements; it makes memory, and turns none. -/
def VRow (e sz n : Nat) (xs : List Value) (w : World) (r : Ending) (w' : World) : Prop := ∃ v, r = .returned v ∧ Below w.heap.size w w' ∧ w'.ownsRow w.heap.size e sz v n xs
end Go.Proofs.YthhomflonpjbmaaGreatDoor
/-
  The keys of measure's map: their type has its law.
-/
namespace Go.Proofs.YthhomflonpjbmaaGreatDoor
open Go.RowKit Go.Maps
theorem own_laid : laidOutB Tryz.prog = true := by kernel_rfl
theorem key_row : 64 < Tryz.prog.types.size := of_decide_eq_true (by kernel_rfl)
theorem key_keyed : Keyed Tryz.prog 64 := Keyed.of_law (deep_law_laid own_laid (m := 3) (by omega) key_row (by kernel_rfl) (by kernel_rfl))
end Go.Proofs.YthhomflonpjbmaaGreatDoor
/-
  What a measure is in memory: its cells, its table of kinds, its map; the map in the measure's words.
-/
namespace Go.Proofs.YthhomflonpjbmaaGreatDoor
open Go.RowKit Go.Maps
theorem grownBy_drew (w : World) (row : Option Nat) : w.grownBy w.drew row := ⟨rfl, rfl, rfl, Nat.le_refl _, fun _ _ _ => rfl⟩
theorem grownBy_drewN (w : World) (n : Nat) (row : Option Nat) : w.grownBy (w.drewN n) row := ⟨rfl, rfl, rfl, Nat.le_refl _, fun _ _ _ => rfl⟩
theorem grownBy_below {w w' : World} (h : Below w.heap.size w w') (row : Option Nat) : w.grownBy w' row := ⟨h.os, h.tape, h.output, h.size, fun k hk _ => h.block k hk⟩
theorem below_grownBy {w w' : World} {b B : Nat} (h : w.grownBy w' (some b)) (hb : B ≤ b) (hB : B ≤ w.heap.size) : Below B w w' := ⟨h.os, h.tape, h.output, h.size, fun k hk => h.block k (by omega) (by intro e; have := Option.some.inj e; omega)⟩
/-- What a new block, or a store into the row's own, does. -/
theorem grownBy_then {w w' w'' : World} {row : Option Nat} (h : w.grownBy w' row) (hb : Below w'.heap.size w' w'') : w.grownBy w'' row := World.grownBy.trans h (grownBy_below hb row)
theorem grownBy_fresh {w w' : World} {b : Nat} (h : Below w.heap.size w w') : w.grownBy w' (some b) := grownBy_below h _
def keyV (n y x : Int) : Value := .agg #[.int .i64 n, .int .i64 y, .int .i64 x]
theorem key_desc : Tryz.prog.keyType 64 = true := by kernel_rfl
theorem key_formed (n y x : Int) : (keyV n y x).formed Tryz.prog 64 = true := by kernel_rfl
theorem key_lits (n y x : Int) (hn : (Lit.int .i64 n).wf = true) (hy : (Lit.int .i64 y).wf = true) (hx : (Lit.int .i64 x).wf = true) : Tryz.prog.keyLits (Tryz.prog.types.size + 1) 64 (keyV n y x).cells.toList = some [.int .i64 n, .int .i64 y, .int .i64 x] := by
  obtain ⟨d, hd⟩ : ∃ d, Tryz.prog.types.size = d + 1 := ⟨Tryz.prog.types.size - 1, by have : 0 < Tryz.prog.types.size := of_decide_eq_true (by kernel_rfl); omega⟩
  have c3 : Tryz.prog.cellsOf 3 = 1 := by kernel_rfl
  have ck : Tryz.prog.cellsOf 64 = 3 := by kernel_rfl
  rw [hd]
  simp [Program.keyLits, Tryz.underlying64, Tryz.underlying3, c3, ck, keyV, Value.cells, hn, hy, hx]
theorem key_reads (n y x : Int) (hn : (Lit.int .i64 n).wf = true) (hy : (Lit.int .i64 y).wf = true) (hx : (Lit.int .i64 x).wf = true) : ∃ kl, keyOf Tryz.prog 64 (keyV n y x) = some kl := by
  refine ⟨.string (keyBytes [.int .i64 n, .int .i64 y, .int .i64 x]), ?_⟩
  simp only [keyOf, Tryz.underlying64, key_desc, key_formed, key_lits n y x hn hy hx]
  rfl
def I64 (n : Int) : Prop := -9223372036854775808 ≤ n ∧ n ≤ 9223372036854775807
theorem keyV_inj {n y x n' y' x' : Int} (h : keyV n y x = keyV n' y' x') : n = n' ∧ y = y' ∧ x = x' := by
  simpa [keyV] using h
/-- What is known is right. -/
def Known (D : DataW Unit) (f : Int → Int → Int → Int) : Prop :=
  ∀ n y x kl, keyOf Tryz.prog 64 (keyV n y x) = some kl → Maps.has D kl = true → D.atKey kl (.lit (.int .i64 0)) = .lit (.int .i64 (f n y x))
theorem known_empty (f : Int → Int → Int → Int) : Known (.map []) f := by
  intro n y x kl _ h
  simp [Maps.has] at h
theorem Known.put {D : DataW Unit} {f : Int → Int → Int → Int} (h : Known D f) (hm : IsMap D) {n y x : Int} {kl : Lit} (hk : keyOf Tryz.prog 64 (keyV n y x) = some kl) :
    Known (D.put kl (.lit (.int .i64 (f n y x)))) f := by
  intro n' y' x' kl' hk' hh
  by_cases e : kl' = kl
  · subst e
    obtain ⟨rfl, rfl, rfl⟩ := keyV_inj (key_keyed.inj hk' hk)
    rw [Maps.atKey_put_same hm (key_keyed.key hk)]
  · rw [Maps.has_put_other e] at hh
    rw [Maps.atKey_put_other e]
    exact h n' y' x' kl' hk' hh
/-- A measure at this place: its nodes' block, its table of kinds, its map of at most K entries, each of them right. -/
structure MInv (w : World) (pm g bk bm nn cc K : Nat) (f : Int → Int → Int → Int) : Prop where
  c0 : w.cell? ⟨pm, 0, none⟩ = some (.slice (some ⟨g, 0, none⟩) nn cc)
  c1 : w.cell? ⟨pm, 1, none⟩ = some (.slice (some ⟨bk, 0, none⟩) 12 12)
  c2 : w.cell? ⟨pm, 2, none⟩ = some (.map (some bm))
  k3 : w.cell? ⟨bk, 3, none⟩ = some (.func (.func 48) #[] #[])
  k4 : w.cell? ⟨bk, 4, none⟩ = some (.func (.func 49) #[] #[])
  k5 : w.cell? ⟨bk, 5, none⟩ = some (.func (.func 50) #[] #[])
  k6 : w.cell? ⟨bk, 6, none⟩ = some (.func (.func 51) #[] #[])
  k7 : w.cell? ⟨bk, 7, none⟩ = some (.func (.func 52) #[] #[])
  k8 : w.cell? ⟨bk, 8, none⟩ = some (.func (.func 53) #[] #[])
  np : pm ≠ bm
  nk : bk ≠ bm
  ng : g ≠ bm
  lg : g < w.heap.size
  map : ∃ D : DataW Unit, w.ownsMap Tryz.prog 64 (plainElem Tryz.prog 3) bm K D ∧ Known D f
theorem MInv.lp {w : World} {pm g bk bm nn cc K : Nat} {f : Int → Int → Int → Int} (h : MInv w pm g bk bm nn cc K f) : pm < w.heap.size := World.block_lt_of_cell? w ⟨pm, 0, none⟩ h.c0
theorem MInv.lk {w : World} {pm g bk bm nn cc K : Nat} {f : Int → Int → Int → Int} (h : MInv w pm g bk bm nn cc K f) : bk < w.heap.size := World.block_lt_of_cell? w ⟨bk, 3, none⟩ h.k3
theorem MInv.lm {w : World} {pm g bk bm nn cc K : Nat} {f : Int → Int → Int → Int} (h : MInv w pm g bk bm nn cc K f) : bm < w.heap.size := by obtain ⟨D, h1, _⟩ := h.map; exact h1.lt
theorem MInv.mono {w : World} {pm g bk bm nn cc K K' : Nat} {f : Int → Int → Int → Int} (h : MInv w pm g bk bm nn cc K f) (hK : K ≤ K') : MInv w pm g bk bm nn cc K' f := by
  obtain ⟨D, h1, h2⟩ := h.map
  exact { h with map := ⟨D, h1.mono hK, h2⟩ }
/-- Another block's turning, or a new block, is nothing to a measure. -/
theorem MInv.kept {w w' : World} {row : Option Nat} {pm g bk bm nn cc K : Nat} {f : Int → Int → Int → Int} (h : MInv w pm g bk bm nn cc K f) (hg : w.grownBy w' row) (hp : some pm ≠ row) (hk : some bk ≠ row) (hm : some bm ≠ row) : MInv w' pm g bk bm nn cc K f := by
  obtain ⟨D, h1, h2⟩ := h.map
  exact ⟨hg.cell h.c0 hp, hg.cell h.c1 hp, hg.cell h.c2 hp, hg.cell h.k3 hk, hg.cell h.k4 hk, hg.cell h.k5 hk, hg.cell h.k6 hk, hg.cell h.k7 hk, hg.cell h.k8 hk, h.np, h.nk, h.ng, Nat.lt_of_lt_of_le h.lg hg.size, D, h1.kept hg hm, h2⟩
theorem MInv.below {w w' : World} {pm g bk bm nn cc K : Nat} {f : Int → Int → Int → Int} (h : MInv w pm g bk bm nn cc K f) (hb : Below w.heap.size w w') : MInv w' pm g bk bm nn cc K f :=
  h.kept (grownBy_below hb none) (by simp) (by simp) (by simp)
/-- The map has turned, and is right. -/
theorem MInv.turned {w w' : World} {pm g bk bm nn cc K K' : Nat} {f : Int → Int → Int → Int} (h : MInv w pm g bk bm nn cc K f) (hg : w.grownBy w' (some bm)) {D : DataW Unit} (ho : w'.ownsMap Tryz.prog 64 (plainElem Tryz.prog 3) bm K' D) (hk : Known D f) : MInv w' pm g bk bm nn cc K' f :=
  ⟨hg.cell h.c0 (by simpa using h.np), hg.cell h.c1 (by simpa using h.np), hg.cell h.c2 (by simpa using h.np), hg.cell h.k3 (by simpa using h.nk), hg.cell h.k4 (by simpa using h.nk), hg.cell h.k5 (by simpa using h.nk), hg.cell h.k6 (by simpa using h.nk), hg.cell h.k7 (by simpa using h.nk), hg.cell h.k8 (by simpa using h.nk), h.np, h.nk, h.ng, Nat.lt_of_lt_of_le h.lg hg.size, D, ho, hk⟩
/-- A call on a measure: its answer; the measure's map alone may have turned, and is right. -/
def MPost (v : Int) (w : World) (pm g bk bm nn cc K : Nat) (f : Int → Int → Int → Int) (e : Ending) (w' : World) : Prop :=
  e = .returned (.int .i64 v) ∧ w.grownBy w' (some bm) ∧ MInv w' pm g bk bm nn cc K f
end Go.Proofs.YthhomflonpjbmaaGreatDoor
