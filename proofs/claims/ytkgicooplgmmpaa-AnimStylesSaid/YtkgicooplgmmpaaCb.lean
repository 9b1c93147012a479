/-
  AnimChain: the first loop, which makes a function of each link.
-/
import Derived.Test.YtkgicooplgmmpaaLk
import Derived.Laws.EntriesVeiled
namespace Go.Proofs.Ytkgicooplgmmpaa
open Go.RowKit

theorem infoFn : (Try.prog.info? 43).map (fun i => (i.zero, i.size, i.bytes)) = some (some .nilFunc, 1, 8) := by kernel_rfl

/-- THE WALK's STEP over 'append(l, g)' on a slice of functions of the call's own. -/
theorem wpList_append_fn {ops : Array Oper} {rest : List Oper} {a : Act} {Q : Exit → Act → World → Prop} {W : World} {r : Value} {dst : Option Tmp} {ty : TypeId} {s x : Operand} {pos : String} {after : Array Edge} {v : Value} {fs : List Value} {B g : Nat}
    (hs : a.eval s = v) (hx : a.eval x = .slice (some ⟨g, 0, none⟩) 1 1) (hg : g = W.heap.size) (hrow : W.ownsRow B 43 1 v fs.length fs) (hB : B ≤ W.heap.size) (hlen : fs.length ≤ 4398046511104) (h1 : r.oneCell' = true)
    (h : ∀ v' w', w'.ownsRow B 43 1 v' (fs.length + 1) (fs ++ [r]) → (W.alloc (.cells #[r] 43)).grownBy w' v.ownBlock → (v'.ownBlock = v.ownBlock ∨ v'.ownBlock = some (W.heap.size + 1)) → ∀ K : Act → World → Prop, (∀ a w, wpList Try.prog ops Q rest a w → K a w) → K (a.put dst v') w') :
    wpList Try.prog ops Q ({ dst := dst, op := .call { callee := .builtin .append, args := #[s, x], argTypes := #[40, 40] }, type := ty, pos := pos, after := after, guard := none } :: rest) a (W.alloc (.cells #[r] 43)) := by
  obtain ⟨i0, hi, hz0, hz1, hz2⟩ := info_parts infoFn
  subst hg
  refine wpList_append_place (w := W.alloc (.cells #[r] 43)) rfl s x 40 rfl B 43 i0 .nilFunc 1 8 Try.underlying40 hi hz0 hz1 hz2 rfl (by decide) v fs.length fs hs (hrow.alloc _)
    ⟨W.heap.size, 0, none⟩ 1 1 [r] hx rfl ?_ ?_ ?_ ?_ ?_ (by decide) ?_
  · intro j u hj
    match j with
    | 0 => simp at hj; subst hj; simp [Addr.add]
    | j + 1 => simp at hj
  · intro u hu; simp at hu; subst hu; exact h1
  · simp [maxLen]; omega
  · omega
  · simp; omega
  · intro v' w' hown hgr hp
    rw [World.size_alloc] at hp
    exact h v' w' hown hgr hp _ (fun _ _ h => h)

structure Lk where
  t : Nat
  p : Nat
  nn : Bool
  way : Int

/-- What lies at a link's box. -/
def BoxAt (w : World) (b o : Nat) (l : Lk) : Prop :=
  w.cell? ⟨b, o, none⟩ = some (.float .f64 l.t) ∧ w.cell? ⟨b, o + 1, none⟩ = some (.float .f64 l.p) ∧ w.cell? ⟨b, o + 2, none⟩ = some (.bool l.nn) ∧ w.cell? ⟨b, o + 3, none⟩ = some (.int .i64 l.way)
theorem BoxAt.keep {w w' : World} {b o : Nat} {l : Lk} (h : BoxAt w b o l) (hc : ∀ o, w'.cell? ⟨b, o, none⟩ = w.cell? ⟨b, o, none⟩) : BoxAt w' b o l := by
  unfold BoxAt; rw [hc, hc, hc, hc]; exact h

def FnOk (w : World) (cb : Nat) (v : Value) (l : Lk) (f : Value) : Prop :=
  if l.nn then f = .nilFunc else ∃ xb, cb < xb ∧ xb < w.heap.size ∧ v.ownBlock ≠ some xb ∧ f = .func (.func 23) #[] #[.pointer (some ⟨cb, 0, none⟩), .pointer (some ⟨xb, 0, none⟩)] ∧ BoxAt w xb 0 l

structure CbInv (ls : List Lk) (w : World) (k : Nat) (v : Value) (fs : List Value) (wr : World) : Prop where
  len : fs.length = k
  row : wr.ownsRow (w.heap.size + 1) 43 1 v fs.length fs
  fns : ∀ (i : Nat) l f, ls[i]? = some l → fs[i]? = some f → FnOk wr w.heap.size v l f
  cnt : wr.heap[w.heap.size]? = some (.cells #[.int .i64 0] 3 (0, 0))
  bel : Below w.heap.size w wr
  hi : w.heap.size + 1 ≤ wr.heap.size

theorem CbInv.start (ls : List Lk) (w : World) : CbInv ls w 0 (.slice none 0 0) [] (w.alloc (.cells #[.int .i64 0] 3)) :=
  ⟨rfl, World.ownsRow_nil _ _ _ _, fun i l f _ h => by simp at h, heap_alloc_new w _, (Below.refl _ w).alloc (Nat.le_refl _) _, by simp⟩

/-- One link more: o the blocks that the round lays before the append. -/
theorem CbInv.step {ls : List Lk} {w wr w0 w1 : World} {k : Nat} {v v' : Value} {fs : List Value} {l : Lk} {f : Value} (h : CbInv ls w k v fs wr) (hl : ls[k]? = some l)
    (hb0 : Below wr.heap.size wr w0) (hf : FnOk w0 w.heap.size v l f) (hrow : w1.ownsRow (w.heap.size + 1) 43 1 v' (fs.length + 1) (fs ++ [f])) (hg : (w0.alloc (.cells #[f] 43)).grownBy w1 v.ownBlock)
    (hp : v'.ownBlock = v.ownBlock ∨ v'.ownBlock = some (w0.heap.size + 1)) : CbInv ls w (k + 1) v' (fs ++ [f]) w1 := by
  obtain ⟨len, row, fns, cnt, bel, hi⟩ := h
  have hs0 := hb0.size
  have hs1 := hg.size
  simp at hs1
  have own := fun k hk => World.ownsRow.lt row k hk
  have keepF : ∀ {l : Lk} {f : Value}, FnOk w0 w.heap.size v l f → FnOk w1 w.heap.size v' l f := by
    intro l f hf
    unfold FnOk at hf ⊢
    split
    · rename_i hnn; rw [if_pos hnn] at hf; exact hf
    · rename_i hnn
      rw [if_neg hnn] at hf
      obtain ⟨xb, h1, h2, h3, h4, h5⟩ := hf
      refine ⟨xb, h1, by omega, ?_, h4, h5.keep fun o => ?_⟩
      · rcases hp with hp | hp <;> rw [hp]
        · exact h3
        · intro e; cases e; omega
      · rw [(grown_cell hg (by simp; omega) (fun e => h3 e.symm) o).1, World.cell?_alloc_lt _ _ _ h2]
  refine ⟨by simp [len], by simpa using hrow, ?_, ?_, ?_, by omega⟩
  · intro i l' f' hl' hf'
    rcases Nat.lt_or_ge i fs.length with hi' | hi'
    · rw [List.getElem?_append_left hi'] at hf'
      apply keepF
      have hF := fns i l' f' hl' hf'
      unfold FnOk at hF ⊢
      split
      · rename_i hnn; rw [if_pos hnn] at hF; exact hF
      · rename_i hnn
        rw [if_neg hnn] at hF
        obtain ⟨xb, h1, h2, h3, h4, h5⟩ := hF
        exact ⟨xb, h1, by omega, h3, h4, h5.keep fun o => (bcell hb0).1 _ _ h2⟩
    · rw [List.getElem?_append_right hi'] at hf'
      have : i = fs.length := by
        rcases Nat.lt_or_ge fs.length i with h | h
        · rw [List.getElem?_eq_none (by simp; omega)] at hf'; cases hf'
        · omega
      subst this
      simp at hf'
      subst hf'
      rw [len, hl] at hl'
      cases hl'
      exact keepF hf
  · rw [hg.block _ (by simp; omega) (fun e => by have := (own _ e.symm).1; omega), Below.heap_alloc _ _ _ (by omega), hb0.block _ (by omega)]
    exact cnt
  · exact ((bel.trans (hb0.mono (by omega))).alloc (by omega) _).grown hg (by simp; omega) fun k hk => by have := (own k hk).1; omega
end Go.Proofs.Ytkgicooplgmmpaa
