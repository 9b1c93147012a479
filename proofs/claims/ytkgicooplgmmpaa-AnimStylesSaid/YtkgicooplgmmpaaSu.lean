/-
  AnimStyles: append of one row of functions onto another; what the chains do.
-/
import Derived.Test.YtkgicooplgmmpaaSt
import Derived.Test.YtkgicooplgmmpaaMe
namespace Go.Proofs.Ytkgicooplgmmpaa
open Go.RowKit

theorem run_append_fns {W : World} {ty : TypeId} {v xv : Value} {xs news : List Value} {B B2 : Nat} (hrow : W.ownsRow B 43 1 v xs.length xs) (hrow2 : W.ownsRow B2 43 1 xv news.length news) (hB : B ≤ W.heap.size)
    (h1 : xs.length ≤ 4398046511104) (h2 : news.length ≤ 4398046511104) (hone : ∀ u ∈ news, u.oneCell' = true) :
    ∃ v' w', (Builtin.append_ #[40, 40] ty #[v, xv]).run Try.prog W = .ok v' w' ∧ w'.ownsRow B 43 1 v' (xs.length + news.length) (xs ++ news) ∧ W.grownBy w' v.ownBlock ∧ (v'.ownBlock = v.ownBlock ∨ v'.ownBlock = some W.heap.size) := by
  obtain ⟨i0, hi, hz0, hz1, hz2⟩ := info_parts infoFn
  rcases hrow2.2 with ⟨rfl, h0⟩ | ⟨g, cap, cur, rfl, _, hg, hnc, _⟩
  · have : news = [] := List.eq_nil_of_length_eq_zero h0
    subst this
    refine ⟨v, W, ?_, by simpa using hrow, World.grownBy.refl W _, .inl rfl⟩
    rcases hrow.2 with ⟨rfl, hn⟩ | ⟨g, cap, cur, rfl, _, _, hnc, _⟩
    · simp [Builtin.append_, run_underlying Try.underlying40, sizeOf, typeInfo, hi, Builtin.lenOf, Builtin.firstCells]
    · simp [Builtin.append_, run_underlying Try.underlying40, sizeOf, typeInfo, hi, Builtin.lenOf, Builtin.firstCells, hnc, storeCells]
  · obtain ⟨v', w', hrun, r2, r3, _, r5⟩ := run_append_own_at (P := Try.prog) W B 40 ty 43 i0 .nilFunc 1 8 Try.underlying40 hi hz0 hz1 hz2 rfl (by decide) v xs.length xs hrow
      ⟨g, 0, none⟩ news.length cap news (by simp) (fun j u hu => by
        have hj : j < news.length := (List.getElem?_eq_some_iff.1 hu).1
        have := World.ownsRow.cellAt hrow2 j (by simpa using hj)
        rw [show (⟨g, 0, none⟩ : Addr).add j = ⟨g, j, none⟩ by unfold Addr.add; split <;> simp_all, this, hu]) hone (by simp [maxLen]; omega) (by omega) hB
    exact ⟨v', w', hrun, r2, r3, r5⟩
theorem wpList_append_fns {ops : Array Oper} {rest : List Oper} {a : Act} {Q : Exit → Act → World → Prop} {W : World} {dst : Option Tmp} {ty : TypeId} {s x : Operand} {pos : String} {after : Array Edge} {v xv : Value} {xs news : List Value} {B B2 : Nat}
    (hs : a.eval s = v) (hx : a.eval x = xv) (hrow : W.ownsRow B 43 1 v xs.length xs) (hrow2 : W.ownsRow B2 43 1 xv news.length news) (hB : B ≤ W.heap.size)
    (h1 : xs.length ≤ 4398046511104) (h2 : news.length ≤ 4398046511104) (hone : ∀ u ∈ news, u.oneCell' = true)
    (h : ∀ v' w', w'.ownsRow B 43 1 v' (xs.length + news.length) (xs ++ news) → W.grownBy w' v.ownBlock → (v'.ownBlock = v.ownBlock ∨ v'.ownBlock = some W.heap.size) → ∀ K : Act → World → Prop, (∀ a w, wpList Try.prog ops Q rest a w → K a w) → K (a.put dst v') w') :
    wpList Try.prog ops Q ({ dst := dst, op := .call { callee := .builtin .append, args := #[s, x], argTypes := #[40, 40] }, type := ty, pos := pos, after := after, guard := none } :: rest) a W := by
  refine wpList_plain rfl fun K hK => ?_
  obtain ⟨v', w', hrun, r2, r3, r4⟩ := run_append_fns (ty := ty) hrow hrow2 hB h1 h2 hone
  unfold Oper.wp execOp
  simp only [resolve, invoke, builtin, Sem.run_bind, Sem.run_pure, Result.andThen_ok, List.map_toArray, List.map_cons, List.map_nil, hs, hx, hrun]
  exact h v' w' r2 r3 r4 K hK

/-- A link as AnimStyles takes it: no easing. -/
def plainL (l : Lk) : Lk := { l with way := -1 }
theorem foldF_append (a b : List Lk) (x : FL) : foldF (a ++ b) x = foldF b (foldF a x) := by
  induction a generalizing x with
  | nil => rfl
  | cons l r ih => exact ih _

set_option maxHeartbeats 400000 in
theorem closC_any (xb t p : Nat) (x : Nat) (w : World) (c0 : w.cell? ⟨xb, 0, none⟩ = some (.float .f64 t)) (c1 : w.cell? ⟨xb, 1, none⟩ = some (.float .f64 p)) :
    Calls Try.prog 52 #[.float .f64 x, .pointer (some ⟨xb, 0, none⟩)] w (FRet (fadd (fmul (fl x) (fl t)) (fl p)) w) := by
  go_enter Try.func52, Try.ntmps52
  go_wp2_with (first | ((with_reducible apply wpList_fop fop_mul); exact rfl; exact rfl; intro r nq hr K hK) | ((with_reducible apply wpList_fop fop_add); exact rfl; exact rfl; intro r nq hr K hK) | ((with_reducible apply wpList_fop fop_sub); exact rfl; exact rfl; intro r nq hr K hK) | ((with_reducible apply wpList_fop fop_quo); exact rfl; exact rfl; intro r nq hr K hK))
  go_ret
  exact ⟨_, _, by simp [*], rfl, rfl⟩

/-- What is known of a function of a link in a world W. -/
def FnB (W : World) (l : Lk) (f : Value) : Prop := if l.nn then f = .nilFunc else ∃ xb, xb < W.heap.size ∧ f = .func (.func 52) #[] #[.pointer (some ⟨xb, 0, none⟩)] ∧ BoxAt W xb 0 l
theorem FnC.b {W : World} {B : Nat} {v : Value} {l : Lk} {f : Value} (h : FnC W B v l f) : FnB W l f := by
  unfold FnC at h; unfold FnB
  split
  · rename_i hn; rw [if_pos hn] at h; exact h
  · rename_i hn; rw [if_neg hn] at h
    obtain ⟨xb, _, h2, _, h4, h5⟩ := h
    exact ⟨xb, h2, h4, h5⟩
theorem FnB.below {W W' : World} {l : Lk} {f : Value} (h : FnB W l f) (hb : Below W.heap.size W W') : FnB W' l f := by
  unfold FnB at h ⊢
  split
  · rename_i hn; rw [if_pos hn] at h; exact h
  · rename_i hn; rw [if_neg hn] at h
    obtain ⟨xb, h2, h4, h5⟩ := h
    exact ⟨xb, Nat.lt_of_lt_of_le h2 hb.size, h4, h5.keep fun o => (bcell hb).1 _ _ h2⟩
theorem FnB.isFn {W : World} {l : Lk} {f : Value} (h : FnB W l f) : f = .nilFunc ∨ IsFn f := by
  unfold FnB at h
  split at h
  · exact .inl h
  · obtain ⟨xb, _, h, _⟩ := h; exact .inr ⟨_, _, h⟩
/-- Rows of such functions. -/
def FnsB (W : World) (ls : List Lk) (fs : List Value) : Prop := fs.length = ls.length ∧ ∀ (i : Nat) l f, ls[i]? = some l → fs[i]? = some f → FnB W l f
theorem FnsB.below {W W' : World} {ls : List Lk} {fs : List Value} (h : FnsB W ls fs) (hb : Below W.heap.size W W') : FnsB W' ls fs := ⟨h.1, fun i l f hl hf => (h.2 i l f hl hf).below hb⟩
theorem FnsB.append {W : World} {l1 l2 : List Lk} {f1 f2 : List Value} (h1 : FnsB W l1 f1) (h2 : FnsB W l2 f2) : FnsB W (l1 ++ l2) (f1 ++ f2) := by
  refine ⟨by simp [h1.1, h2.1], fun i l f hl hf => ?_⟩
  rcases Nat.lt_or_ge i l1.length with hi | hi
  · rw [List.getElem?_append_left hi] at hl
    rw [List.getElem?_append_left (by rw [h1.1]; exact hi)] at hf
    exact h1.2 i l f hl hf
  · rw [List.getElem?_append_right hi] at hl
    rw [List.getElem?_append_right (by rw [h1.1]; exact hi), h1.1] at hf
    exact h2.2 _ l f hl hf
theorem FnsB.all {W : World} {ls : List Lk} {fs : List Value} (h : FnsB W ls fs) : ∀ g ∈ fs, g = .nilFunc ∨ IsFn g := by
  intro g hg
  obtain ⟨i, hi, e⟩ := List.getElem_of_mem hg
  have hl : i < ls.length := by have := h.1; omega
  exact (h.2 i ls[i] g (by simp [hl]) (by simp [hi, e])).isFn
theorem FnsB.one {W : World} {ls : List Lk} {fs : List Value} (h : FnsB W ls fs) : ∀ u ∈ fs, u.oneCell' = true := by
  intro u hu
  rcases h.all u hu with rfl | ⟨k, cap, rfl⟩ <;> rfl
/-- What a chain of such a row does. -/
theorem FnsB.beh {W : World} {ls : List Lk} {fs : List Value} (h : FnsB W ls fs) {B : Nat} {f : Value} (hc : ChainAt W B (nonnil fs).reverse f) : Beh (Kept W) 0 (foldF (ls.map plainL)) f := by
  obtain ⟨hlen, hP⟩ := pairs_beh (P := Beh (Kept W) 0) (ls.map plainL) fs (by simp [h.1]) fun i l g hl hf => by
    simp only [List.getElem?_map, Option.map_eq_some_iff] at hl
    obtain ⟨l0, hl0, rfl⟩ := hl
    have hF := h.2 i l0 g hl0 hf
    refine ⟨fun hn => by unfold FnB at hF; rw [if_pos (show l0.nn = true from hn)] at hF; exact hF, fun hn => ?_⟩
    unfold FnB at hF
    rw [if_neg (by rw [show l0.nn = false from hn]; simp)] at hF
    obtain ⟨xb, h1, rfl, b0, b1, _⟩ := hF
    refine ⟨⟨_, _, rfl⟩, _, _, rfl, fun _ _ => by kernel_rfl, fun c x w' hJ => ?_⟩
    have hJ' : Below W.heap.size W w' := hJ
    refine (closC_any xb l0.t l0.p x w' (((bcell hJ').1 _ _ h1).trans b0) (((bcell hJ').1 _ _ h1).trans b1)).mono ?_
    rintro e w2 ⟨r, n, hr, rfl, rfl⟩
    exact ⟨r, by rw [hr]; show _ = linkF (fl l0.t) (fl l0.p) (-1) (fl x); unfold linkF; rw [if_neg (by decide)], rfl, show Below W.heap.size W _ from below_drewN hJ' n⟩
  have hcc := beh_chain (J := Kept W) (w0 := W) (B := B) (n := 0) (fun c w' hj => hj.drew) (fun c w' hj b _ hs => (bcell (show Below W.heap.size W w' from hj)).1 b 0 hs) (nonnil fs).reverse (lfs (ls.map plainL)).reverse f (by simp [hlen, lfs_len]) (fun i g F hg hF => by
    have hi : i < (nonnil fs).length := by
      rcases Nat.lt_or_ge i (nonnil fs).length with h | h
      · exact h
      · rw [List.getElem?_eq_none (by simpa using h)] at hg; cases hg
    rw [List.getElem?_reverse hi] at hg
    rw [List.getElem?_reverse (by rw [lfs_len, ← hlen]; exact hi)] at hF
    exact hP _ g F hg (by rw [lfs_len, ← hlen] at hF; exact hF)) hc
  have e : comp (lfs (ls.map plainL)).reverse = foldF (ls.map plainL) := funext (comp_lfs _)
  rw [e, Nat.zero_mul] at hcc
  exact hcc
/-- A chain of two functions. -/
theorem beh_two {W : World} {B : Nat} {f1 f2 f : Value} {F1 F2 : FL → FL} (h1 : Beh (Kept W) 0 F1 f1) (h2 : Beh (Kept W) 0 F2 f2) (hc : ChainAt W B [f2, f1] f) : Beh (Kept W) 0 (fun x => F2 (F1 x)) f := by
  have hcc := beh_chain (J := Kept W) (w0 := W) (B := B) (n := 0) (fun c w' hj => hj.drew) (fun c w' hj b _ hs => (bcell (show Below W.heap.size W w' from hj)).1 b 0 hs) [f2, f1] [F2, F1] f rfl (fun i g F hg hF => by
    match i, hg, hF with
    | 0, hg, hF => cases hg; cases hF; exact h2
    | 1, hg, hF => cases hg; cases hF; exact h1
    | i + 2, hg, hF => simp at hF) hc
  rw [Nat.zero_mul] at hcc
  exact hcc
theorem LkSee.below {w w' : World} {v : Value} {ls : List Lk} (h : LkSee w v ls) (hb : Below w.heap.size w w') : LkSee w' v ls := by
  obtain ⟨p, c, h1, h2, h3⟩ := h
  refine ⟨p, c, h1, h2, fun i l hl => ?_⟩
  obtain ⟨g, o, e, hg, hbx⟩ := h3 i l hl
  exact ⟨g, o, e, Nat.lt_of_lt_of_le hg hb.size, hbx.keep fun o => (bcell hb).1 _ _ hg⟩
end Go.Proofs.Ytkgicooplgmmpaa
