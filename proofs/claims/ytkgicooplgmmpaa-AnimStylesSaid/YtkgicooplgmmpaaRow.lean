/-
  Slices of floats that a call made: what they hold, read, written, grown.
-/
import Derived.Test.YtkgicooplgmmpaaWb
import Derived.WalkSmall
import Derived.Test.YtkgicooplgmmpaaApp
namespace Go.Proofs.Ytkgicooplgmmpaa
open Go.RowKit

theorem infoF : (Try.prog.info? 22).map (fun i => (i.zero, i.size, i.bytes)) = some (some (.float .f64 0), 1, 8) := by kernel_rfl

def fvs (bs : List Nat) : List Value := bs.map (Value.float .f64)
/-- A slice of the call's own (its block is B or behind), which holds these words. -/
def FRow (w : World) (B : Nat) (v : Value) (bs : List Nat) : Prop := w.ownsRow B 22 1 v bs.length (fvs bs)

theorem fvs_get (bs : List Nat) (i : Nat) (h : i < bs.length) : (fvs bs)[i]? = some (.float .f64 (bs.getD i 0)) := by
  simp [fvs, h]
theorem FRow.cell {w : World} {B g n c : Nat} {bs : List Nat} (h : FRow w B (.slice (some ⟨g, 0, none⟩) n c) bs) (hn : n = bs.length) (i : Nat) (hi : i < n) :
    w.cell? ⟨g, i, none⟩ = some (.float .f64 (bs.getD i 0)) := by
  subst hn
  have := World.ownsRow.cellAt h i (by simpa using hi)
  rw [this, fvs_get bs i hi]
theorem FRow.len {w : World} {B : Nat} {g n c : Nat} {bs : List Nat} (h : FRow w B (.slice (some ⟨g, 0, none⟩) n c) bs) : n = bs.length := by
  rcases h.2 with ⟨h', _⟩ | ⟨g', cap', cur, h', _⟩
  · simp at h'
  · simp only [Value.slice.injEq] at h'; exact h'.2.1
theorem FRow.frozen {w : World} {B g n c : Nat} {bs : List Nat} (h : FRow w B (.slice (some ⟨g, 0, none⟩) n c) bs) (i : Nat) : w.frozen? ⟨g, i, none⟩ = false := by
  have hn := h.len; subst hn
  exact World.ownsRow.frozenAt h i
theorem FRow.set {w : World} {B g n c : Nat} {bs : List Nat} (h : FRow w B (.slice (some ⟨g, 0, none⟩) n c) bs) (i b : Nat) :
    FRow (w.setCell ⟨g, i, none⟩ (.float .f64 b)) B (.slice (some ⟨g, 0, none⟩) n c) (bs.set i b) := by
  have hn := h.len; subst hn
  have := (World.ownsRow.stored h i (.float .f64 b)).1
  unfold FRow
  rw [List.length_set]
  have e : fvs (bs.set i b) = (fvs bs).set i (.float .f64 b) := by simp [fvs, List.map_set]
  rw [e]; exact this
theorem FRow.drewN {w : World} {B : Nat} {v : Value} {bs : List Nat} (h : FRow w B v bs) (n : Nat) : FRow (w.drewN n) B v bs := h
theorem FRow.base {w : World} {B B' : Nat} {v : Value} {bs : List Nat} (h : FRow w B v bs) (hB : B' ≤ B) : FRow w B' v bs := by
  refine ⟨h.1, ?_⟩
  rcases h.2 with h' | ⟨g, cap, cur, h1, h2, h3⟩
  · exact .inl h'
  · exact .inr ⟨g, cap, cur, h1, Nat.le_trans hB h2, h3⟩
/-- What lies below a bound stays. -/
theorem FRow.below {w w' : World} {B B' : Nat} {v : Value} {bs : List Nat} (h : FRow w B v bs) (hb : Below B' w w') (hv : ∀ k, v.ownBlock = some k → k < B') : FRow w' B v bs := by
  refine ⟨h.1, ?_⟩
  rcases h.2 with h' | ⟨g, cap, cur, h1, h2, h3, h4⟩
  · exact .inl h'
  · refine .inr ⟨g, cap, cur, h1, h2, ?_, h4⟩
    rw [hb.block g (hv g (by simp [h1, Value.ownBlock]))]; exact h3
theorem FRow.belowSize {w w' : World} {B : Nat} {v : Value} {bs : List Nat} (h : FRow w B v bs) (hb : Below w.heap.size w w') : FRow w' B v bs :=
  h.below hb fun k hk => (World.ownsRow.lt h k hk).2
theorem FRow.nil (w : World) (B : Nat) : FRow w B (.slice none 0 0) [] := World.ownsRow_nil w B _ 1

/-- What a walk that reads a slice of floats needs: nil, or the cells of a row. -/
def FSee (w : World) (v : Value) (bs : List Nat) : Prop :=
  (v = .slice none 0 0 ∧ bs = []) ∨ ∃ g off c, v = .slice (some ⟨g, off, none⟩) bs.length c ∧ bs.length ≤ maxLen ∧ ∀ i, i < bs.length → w.cell? ⟨g, off + i, none⟩ = some (.float .f64 (bs.getD i 0))
theorem FRow.see {w : World} {B : Nat} {v : Value} {bs : List Nat} (h : FRow w B v bs) : FSee w v bs := by
  rcases h.2 with ⟨h1, h2⟩ | ⟨g, cap, cur, h1, h2, h3, h4, h5, h6⟩
  · exact .inl ⟨h1, List.eq_nil_of_length_eq_zero h2⟩
  · refine .inr ⟨g, 0, cap, h1, by omega, fun i hi => ?_⟩
    subst h1
    rw [Nat.zero_add]; exact h.cell rfl i hi

theorem FRow.alloc {w : World} {B : Nat} {v : Value} {bs : List Nat} (h : FRow w B v bs) (o : Obj) : FRow (w.alloc o) B v bs := World.ownsRow.alloc h o
theorem FRow.setLow {w : World} {B : Nat} {v : Value} {bs : List Nat} (h : FRow w B v bs) {a : Addr} (ha : a.block < B) (u : Value) : FRow (w.setCell a u) B v bs := ownsRow_setCell_below h ha u
theorem FRow.grown {w w' : World} {B : Nat} {v : Value} {bs : List Nat} {row : Option Nat} (h : FRow w B v bs) (hg : w.grownBy w' row) (hne : v.ownBlock = none ∨ v.ownBlock ≠ row) : FRow w' B v bs := World.ownsRow.kept h hg hne

/-- THE WALK's STEP over 'append(out, x)' on a slice of floats of the call's own. -/
theorem wpList_append_F {ops : Array Oper} {rest : List Oper} {a : Act} {Q : Exit → Act → World → Prop} {W : World} {r : Nat} {dst : Option Tmp} {ty : TypeId} {s x : Operand} {pos : String} {after : Array Edge} {v : Value} {bs : List Nat} {B g : Nat}
    (hs : a.eval s = v) (hx : a.eval x = .slice (some ⟨g, 0, none⟩) 1 1) (hg : g = W.heap.size) (hrow : FRow W B v bs) (hB : B ≤ W.heap.size) (hlen : bs.length < 1000000000000)
    (h : ∀ v' w', FRow w' B v' (bs ++ [r]) → (W.alloc (.cells #[.float .f64 r] 22)).grownBy w' v.ownBlock → (v'.ownBlock = v.ownBlock ∨ v'.ownBlock = some (W.heap.size + 1)) → ∀ K : Act → World → Prop, (∀ a w, wpList Try.prog ops Q rest a w → K a w) → K (a.put dst v') w') :
    wpList Try.prog ops Q ({ dst := dst, op := .call { callee := .builtin .append, args := #[s, x], argTypes := #[26, 26] }, type := ty, pos := pos, after := after, guard := none } :: rest) a (W.alloc (.cells #[.float .f64 r] 22)) := by
  obtain ⟨i0, hi, hz0, hz1, hz2⟩ := info_parts infoF
  subst hg
  refine wpList_append_place (w := W.alloc (.cells #[.float .f64 r] 22)) rfl s x 26 rfl B 22 i0 (.float .f64 0) 1 8 Try.underlying26 hi hz0 hz1 hz2 rfl (by decide) v bs.length (fvs bs) hs (hrow.alloc _)
    ⟨W.heap.size, 0, none⟩ 1 1 [.float .f64 r] hx rfl ?_ ?_ ?_ ?_ ?_ (by decide) ?_
  · intro j u hj
    match j with
    | 0 => simp at hj; subst hj; simp [Addr.add]
    | j + 1 => simp at hj
  · intro u hu; simp at hu; subst hu; rfl
  · simp [maxLen]; omega
  · omega
  · simp; omega
  · intro v' w' hown hgr hp
    rw [World.size_alloc] at hp
    refine h v' w' ?_ hgr hp _ (fun _ _ h => h)
    unfold FRow
    simpa [fvs] using hown
theorem take_set_snoc (bs : List Nat) (k b : Nat) (h : k < bs.length) : (bs.set k b).take (k + 1) = bs.take k ++ [b] := by
  rw [List.take_succ_eq_append_getElem (by simpa using h), List.take_set_of_le (Nat.le_refl _)]; simp

end Go.Proofs.Ytkgicooplgmmpaa
