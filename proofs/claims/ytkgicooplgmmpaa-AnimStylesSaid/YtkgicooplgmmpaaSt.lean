/-
  AnimStyles: links as functions.
-/
import Derived.Test.YtkgicooplgmmpaaCw
import Derived.Maps.AppendAt
namespace Go.Proofs.Ytkgicooplgmmpaa
open Go.RowKit

/-- The function that AnimStyles makes of a link. -/
def FnC (w : World) (B : Nat) (v : Value) (l : Lk) (f : Value) : Prop :=
  if l.nn then f = .nilFunc else ∃ xb, B ≤ xb ∧ xb < w.heap.size ∧ v.ownBlock ≠ some xb ∧ f = .func (.func 52) #[] #[.pointer (some ⟨xb, 0, none⟩)] ∧ BoxAt w xb 0 l

structure ClInv (ls : List Lk) (w : World) (k : Nat) (v : Value) (fs : List Value) (wr : World) : Prop where
  len : fs.length = k
  row : wr.ownsRow w.heap.size 43 1 v fs.length fs
  fns : ∀ (i : Nat) l f, ls[i]? = some l → fs[i]? = some f → FnC wr w.heap.size v l f
  bel : Below w.heap.size w wr

theorem ClInv.start (ls : List Lk) (w : World) : ClInv ls w 0 (.slice none 0 0) [] w :=
  ⟨rfl, World.ownsRow_nil _ _ _ _, fun i l f _ h => by simp at h, Below.refl _ _⟩

theorem ClInv.step {ls : List Lk} {w wr w0 w1 : World} {k : Nat} {v v' : Value} {fs : List Value} {l : Lk} {f : Value} (h : ClInv ls w k v fs wr) (hl : ls[k]? = some l)
    (hb0 : Below wr.heap.size wr w0) (hf : FnC w0 w.heap.size v l f) (hrow : w1.ownsRow w.heap.size 43 1 v' (fs.length + 1) (fs ++ [f])) (hg : (w0.alloc (.cells #[f] 43)).grownBy w1 v.ownBlock)
    (hp : v'.ownBlock = v.ownBlock ∨ v'.ownBlock = some (w0.heap.size + 1)) : ClInv ls w (k + 1) v' (fs ++ [f]) w1 := by
  obtain ⟨len, row, fns, bel⟩ := h
  have hi := bel.size
  have hs0 := hb0.size
  have hs1 := hg.size
  simp at hs1
  have own := fun k hk => World.ownsRow.lt row k hk
  have keepF : ∀ {l : Lk} {f : Value}, FnC w0 w.heap.size v l f → FnC w1 w.heap.size v' l f := by
    intro l f hf
    unfold FnC at hf ⊢
    split
    · rename_i hnn; rw [if_pos hnn] at hf; exact hf
    · rename_i hnn
      rw [if_neg hnn] at hf
      obtain ⟨xb, h1, h2, h3, h4, h5⟩ := hf
      refine ⟨xb, h1, by omega, ?_, h4, h5.keep fun o => ?_⟩
      · rcases hp with hp | hp <;> rw [hp]
        · exact h3
        · intro e; cases e; omega
      · rw [(grown_cell hg (by simp; omega) (fun e => h3 e.symm) o).1, World.cell?_alloc_lt _ _ _ h2]
  refine ⟨by simp [len], by simpa using hrow, ?_, ?_⟩
  · intro i l' f' hl' hf'
    rcases Nat.lt_or_ge i fs.length with hi' | hi'
    · rw [List.getElem?_append_left hi'] at hf'
      apply keepF
      have hF := fns i l' f' hl' hf'
      unfold FnC at hF ⊢
      split
      · rename_i hnn; rw [if_pos hnn] at hF; exact hF
      · rename_i hnn
        rw [if_neg hnn] at hF
        obtain ⟨xb, h1, h2, h3, h4, h5⟩ := hF
        exact ⟨xb, h1, by omega, h3, h4, h5.keep fun o => (bcell hb0).1 _ _ h2⟩
    · rw [List.getElem?_append_right hi'] at hf'
      have : i = fs.length := by
        rcases Nat.lt_or_ge fs.length i with h | h
        · rw [List.getElem?_eq_none (by simp; omega)] at hf'; cases hf'
        · omega
      subst this
      simp at hf'
      subst hf'
      rw [len, hl] at hl'
      cases hl'
      exact keepF hf
  · exact ((bel.trans (hb0.mono (by omega))).alloc (by omega) _).grown hg (by simp; omega) fun k hk => by have := (own k hk).1; omega
theorem FnC.nil {w : World} {B t p : Nat} {way : Int} {v : Value} : FnC w B v ⟨t, p, true, way⟩ .nilFunc := by unfold FnC; rw [if_pos rfl]
theorem FnC.fresh {ls : List Lk} {w wr : World} {k : Nat} {v : Value} {fs : List Value} {t p : Nat} {way : Int} (h : ClInv ls w k v fs wr) {ty : TypeId} :
    FnC (wr.alloc (.cells #[.float .f64 t, .float .f64 p, .bool false, .int .i64 way] ty)) w.heap.size v ⟨t, p, false, way⟩ (.func (.func 52) #[] #[.pointer (some ⟨wr.heap.size, 0, none⟩)]) := by
  unfold FnC
  rw [if_neg (by simp)]
  refine ⟨wr.heap.size, h.bel.size, by simp, fun e => ?_, rfl, ?_⟩
  · have := (World.ownsRow.lt h.row _ e).2; omega
  · unfold BoxAt; simp

/-- What chain answers. -/
def ClRet (ls : List Lk) (w : World) (e : Ending) (w' : World) : Prop := ∃ v fs, e = .returned v ∧ ClInv ls w ls.length v fs w'
set_option maxRecDepth 100000 in
set_option maxHeartbeats 2000000 in
theorem links_any (ls : List Lk) (vl : Value) (w : World) (hl : LkSee w vl ls) : Calls Try.prog 30 #[vl] w (ClRet ls w) := by
  obtain ⟨pl, cl, rfl, hln, hlk⟩ := hl
  have LK := Lib.hid hlk
  clear hlk
  generalize hn : ls.length = n at hln ⊢
  have HN := Lib.hid hn
  clear hn
  go_enter Try.func30, Try.ntmps30
  go_wp2_with fail
  have hst := ClInv.start ls w
  go_loopw [3, 4] (fun v i wr => ∃ k : Nat, k ≤ n ∧ i = .int .i64 k ∧ ∃ fs, ClInv ls w k v fs wr) (fun _ i _ => n - (intOf i).toNat)
  case atStart => exact ⟨0, Nat.zero_le _, rfl, _, hst⟩
  case round =>
    clear hst
    obtain ⟨k, hk, rfl, fs, hI⟩ := hrel
    by_cases hkn : k < n
    · obtain ⟨l, hl⟩ : ∃ l, ls[k]? = some l := ⟨ls[k]'(by rw [HN.out]; exact hkn), by simp⟩
      obtain ⟨g, o, rfl, hg, hbox⟩ := LK.out k l hl
      have HL := Lib.hid hl
      clear hl
      have hbx : BoxAt _ g (o + k * 4) l := hbox.keep fun o => hI.bel.cell (p := ⟨g, o, none⟩) hg
      obtain ⟨lt, lp, lnn, lw⟩ := l
      obtain ⟨b0, b1, b2, b3⟩ := hbx
      clear hbox
      have hrow := hI.row
      have hlo := hI.bel.size
      have hlen : fs.length ≤ 4398046511104 := by have := hI.len; omega
      cases lnn
      · go_wp2_with (first | ((with_reducible apply wpList_append_fn (B := w.heap.size) (fs := fs)); exact rfl; exact rfl; simp; exact hrow.alloc _; (simp; omega); exact hlen; exact rfl; intro v' w4 hrow4 hgr4 hpl4 K hK))
        go_roundw
        case rel => exact ⟨k + 1, by omega, by go_num, _, hI.step HL.out ((Below.refl _ wr).alloc (Nat.le_refl _) _) (FnC.fresh hI) hrow4 hgr4 hpl4⟩
        case measure => simp [intOf]; omega
      · go_wp2_with (first | ((with_reducible apply wpList_append_fn (B := w.heap.size) (fs := fs)); exact rfl; exact rfl; simp; exact hrow.alloc _; (simp; omega); exact hlen; exact rfl; intro v' w4 hrow4 hgr4 hpl4 K hK))
        go_roundw
        case rel => exact ⟨k + 1, by omega, by go_num, _, hI.step HL.out ((Below.refl _ wr).alloc (Nat.le_refl _) _) FnC.nil hrow4 hgr4 hpl4⟩
        case measure => simp [intOf]; omega
    · obtain rfl : k = n := by omega
      have HI := Lib.hid (show ClInv ls w ls.length _ fs wr by rw [HN.out]; exact hI)
      clear hI
      go_wp2_with fail
      go_ret
      exact ⟨_, _, rfl, HI.out⟩
end Go.Proofs.Ytkgicooplgmmpaa
