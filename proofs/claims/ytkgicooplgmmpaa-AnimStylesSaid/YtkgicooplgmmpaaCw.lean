/-
  The walk of AnimChain.
-/
import Derived.Test.YtkgicooplgmmpaaCb
namespace Go.Proofs.Ytkgicooplgmmpaa
open Go.RowKit

/-- A slice of links, as it came in. -/
def LkSee (w : World) (v : Value) (ls : List Lk) : Prop :=
  ∃ p c, v = .slice p ls.length c ∧ ls.length ≤ 4398046511104 ∧ ∀ i l, ls[i]? = some l → ∃ g o, p = some ⟨g, o, none⟩ ∧ g < w.heap.size ∧ BoxAt w g (o + i * 4) l
def FlSee (w : World) (v : Value) (bs : List Nat) : Prop :=
  ∃ p c, v = .slice p bs.length c ∧ bs.length ≤ 9223372036854775807 ∧ ∀ i, i < bs.length → ∃ g o, p = some ⟨g, o, none⟩ ∧ g < w.heap.size ∧ w.cell? ⟨g, o + i, none⟩ = some (.float .f64 (bs.getD i 0))

theorem FnOk.nil {w : World} {cb t p : Nat} {way : Int} {v : Value} : FnOk w cb v ⟨t, p, true, way⟩ .nilFunc := by unfold FnOk; rw [if_pos rfl]
theorem chain_row {fs : List Value} (hgs : ∀ g ∈ fs, g = .nilFunc ∨ IsFn g) {v : Value} {B : Nat} (hm : fs.length ≤ maxLen) (w : World) (hrow : w.ownsRow B 43 1 v fs.length fs) :
    Calls Try.prog 25 #[v] w fun e w' => ∃ f, e = .returned f ∧ ChainAt w' w.heap.size (nonnil fs).reverse f ∧ Below w.heap.size w w' := by
  rcases hrow.2 with ⟨h1, h2⟩ | ⟨g, cap, cur, h1, _, h3, _⟩
  · subst h1
    have : fs = [] := List.eq_nil_of_length_eq_zero h2
    subst this
    exact chain_nil w
  · subst h1
    refine chain_some fs hgs g 0 cap hm w (Array.getElem?_eq_some_iff.1 h3).1 fun i hi => ?_
    rw [Nat.zero_add, World.ownsRow.cellAt hrow i (by simpa using hi)]
    simp [hi]
theorem FnOk.isFn {w : World} {cb : Nat} {v : Value} {l : Lk} {f : Value} (h : FnOk w cb v l f) : f = .nilFunc ∨ IsFn f := by
  unfold FnOk at h
  split at h
  · exact .inl h
  · obtain ⟨xb, _, _, _, h, _⟩ := h; exact .inr ⟨_, _, h⟩
theorem CbInv.fnsAll {ls : List Lk} {w wr : World} {k : Nat} {v : Value} {fs : List Value} (h : CbInv ls w k v fs wr) (hk : ls.length = k) : ∀ g ∈ fs, g = .nilFunc ∨ IsFn g := by
  intro g hg
  obtain ⟨i, hi, e⟩ := List.getElem_of_mem hg
  have hl : i < ls.length := by have := h.len; omega
  exact (h.fns i ls[i] g (by simp [hl]) (by simp [hi, e])).isFn

/-- All that is known when the chain is made and its list is written over. -/
structure CwInv (ls : List Lk) (w : World) (v f : Value) (fs : List Value) (wr : World) (B : Nat) : Prop where
  len : fs.length = ls.length
  row : ∃ xs, xs.length = ls.length ∧ wr.ownsRow (w.heap.size + 1) 43 1 v xs.length xs
  fns : ∀ (i : Nat) l f, ls[i]? = some l → fs[i]? = some f → FnOk wr w.heap.size v l f
  cnt : wr.heap[w.heap.size]? = some (.cells #[.int .i64 0] 3 (0, 0))
  chain : ChainAt wr B (nonnil fs).reverse f
  own : ∀ k, v.ownBlock = some k → k < B
  lo : w.heap.size + 1 ≤ B
  bel : Below w.heap.size w wr
  hi : B ≤ wr.heap.size

theorem FnOk.below {w w' : World} {cb : Nat} {v : Value} {l : Lk} {f : Value} (h : FnOk w cb v l f) (hb : Below w.heap.size w w') : FnOk w' cb v l f := by
  unfold FnOk at h ⊢
  split
  · rename_i hn; rw [if_pos hn] at h; exact h
  · rename_i hn
    rw [if_neg hn] at h
    obtain ⟨xb, h1, h2, h3, h4, h5⟩ := h
    exact ⟨xb, h1, Nat.lt_of_lt_of_le h2 hb.size, h3, h4, h5.keep fun o => (bcell hb).1 _ _ h2⟩
theorem ownsRow_below {w w' : World} {B e n : Nat} {v : Value} {xs : List Value} (h : w.ownsRow B e 1 v n xs) (hb : Below w.heap.size w w') : w'.ownsRow B e 1 v n xs := by
  refine ⟨h.1, ?_⟩
  rcases h.2 with h' | ⟨g, cap, cur, h1, h2, h3, h4⟩
  · exact .inl h'
  · exact .inr ⟨g, cap, cur, h1, h2, by rw [hb.block g (Array.getElem?_eq_some_iff.1 h3).1]; exact h3, h4⟩
theorem CwInv.start {ls : List Lk} {w wr w1 : World} {v f : Value} {fs : List Value} (h : CbInv ls w ls.length v fs wr) (hch : ChainAt w1 wr.heap.size (nonnil fs).reverse f) (hb : Below wr.heap.size wr w1) : CwInv ls w v f fs w1 wr.heap.size :=
  ⟨h.len, ⟨fs, h.len, ownsRow_below h.row hb⟩, fun i l f hl hf => (h.fns i l f hl hf).below hb, by rw [hb.block _ (by have := h.hi; omega)]; exact h.cnt, hch, fun k hk => (World.ownsRow.lt h.row k hk).2, h.hi,
    h.bel.trans (hb.mono (by have := h.hi; omega)), hb.size⟩
theorem CwInv.shape {ls : List Lk} {w wr : World} {v f : Value} {fs : List Value} {B : Nat} (h : CwInv ls w v f fs wr B) : ∃ p c, v = .slice p ls.length c := by
  obtain ⟨xs, hx, row⟩ := h.row
  rcases row.2 with ⟨h', h2⟩ | ⟨g', cap', cur, h', _⟩
  · exact ⟨none, 0, by rw [h', ← hx, h2]⟩
  · exact ⟨_, _, by rw [h', hx]⟩
theorem CwInv.below {ls : List Lk} {w wr w1 : World} {v f : Value} {fs : List Value} {B : Nat} (h : CwInv ls w v f fs wr B) (hb : Below wr.heap.size wr w1) : CwInv ls w v f fs w1 B := by
  obtain ⟨len, ⟨xs, hx, row⟩, fns, cnt, chain, own, lo, bel, hi⟩ := h
  exact ⟨len, ⟨xs, hx, ownsRow_below row hb⟩, fun i l f hl hf => (fns i l f hl hf).below hb, by rw [hb.block _ (by omega)]; exact cnt, chain.keep hb.size fun b _ hlt => (bcell hb).1 _ _ hlt, own, lo,
    bel.trans (hb.mono (by omega)), Nat.le_trans hi hb.size⟩
theorem CwInv.write {ls : List Lk} {w wr : World} {n c g : Nat} {f : Value} {fs : List Value} {B : Nat} (h : CwInv ls w (.slice (some ⟨g, 0, none⟩) n c) f fs wr B) (i : Nat) (u : Value) : CwInv ls w (.slice (some ⟨g, 0, none⟩) n c) f fs (wr.setCell ⟨g, i, none⟩ u) B := by
  obtain ⟨len, ⟨xs, hx, row⟩, fns, cnt, chain, own, lo, bel, hi⟩ := h
  have hn : n = xs.length := by
    rcases row.2 with ⟨h', _⟩ | ⟨g', cap', cur, h', _⟩
    · simp at h'
    · simp only [Value.slice.injEq] at h'; exact h'.2.1
  subst hn
  have hg := own g rfl
  have hgl := (World.ownsRow.lt row g rfl).1
  refine ⟨len, ⟨xs.set i u, by simp [hx], by simpa using (World.ownsRow.stored row i u).1⟩, ?_, ?_, ?_, own, lo, bel.setCell (by show w.heap.size ≤ g; omega) _, by simpa using hi⟩
  · intro j l f' hl hf
    have hF := fns j l f' hl hf
    unfold FnOk at hF ⊢
    split
    · rename_i hnn; rw [if_pos hnn] at hF; exact hF
    · rename_i hnn
      rw [if_neg hnn] at hF
      obtain ⟨xb, h1, h2, h3, h4, h5⟩ := hF
      exact ⟨xb, h1, by simpa using h2, h3, h4, h5.keep fun o => World.cell?_setCell_other _ _ _ _ (by intro e; simp at e; exact h3 (by simp [Value.ownBlock, e.1]))⟩
  · rw [Below.heap_setCell _ _ _ _ (by show w.heap.size ≠ g; omega)]; exact cnt
  · exact chain.keep (by simp) fun b hb _ => World.cell?_setCell_other _ _ _ _ (by rintro e; cases e; omega)
theorem CwInv.at {ls : List Lk} {w wr : World} {n c : Nat} {p : Option Addr} {f : Value} {fs : List Value} {B : Nat} (h : CwInv ls w (.slice p n c) f fs wr B) (i : Nat) (hi : i < n) :
    ∃ g u, p = some ⟨g, 0, none⟩ ∧ wr.cell? ⟨g, i, none⟩ = some u ∧ wr.frozen? ⟨g, i, none⟩ = false := by
  obtain ⟨xs, hx, row⟩ := h.row
  rcases row.2 with ⟨h', h2⟩ | ⟨g', cap', cur, h', _⟩
  · cases h'; omega
  · cases h'
    refine ⟨g', xs[i]'hi, rfl, ?_, World.ownsRow.frozenAt row i⟩
    rw [World.ownsRow.cellAt row i (by simpa using hi)]
    simp [hi]
theorem FnOk.fresh {ls : List Lk} {w wr : World} {k : Nat} {v : Value} {fs : List Value} {t p : Nat} {way : Int} (h : CbInv ls w k v fs wr) {ty : TypeId} :
    FnOk (wr.alloc (.cells #[.float .f64 t, .float .f64 p, .bool false, .int .i64 way] ty)) w.heap.size v ⟨t, p, false, way⟩ (.func (.func 23) #[] #[.pointer (some ⟨w.heap.size, 0, none⟩), .pointer (some ⟨wr.heap.size, 0, none⟩)]) := by
  unfold FnOk
  rw [if_neg (by simp)]
  refine ⟨wr.heap.size, by have := h.hi; omega, by simp, fun e => ?_, rfl, ?_⟩
  · have := (World.ownsRow.lt h.row _ e).2; omega
  · unfold BoxAt; simp

set_option maxHeartbeats 400000 in
theorem alikeR_any (x y : Nat) (h : fl x = fl y) (w : World) : Calls Try.prog 26 #[.float .f64 x, .float .f64 y] w (FBool true w) := by
  have H := Lib.hid h
  cases h1 : feq (fl y) (fl y)
  · have h2 : feq (fl x) (fl x) = false := by rw [H.out]; exact h1
    have h3 : feq (fl x) (fl y) = false := by rw [H.out]; exact h1
    clear h
    go_enter Try.func26, Try.ntmps26
    go_wp2
    go_ret
    exact FBool.same rfl
  · have h3 : feq (fl x) (fl y) = true := by rw [H.out]; exact h1
    clear h
    go_enter Try.func26, Try.ntmps26
    go_wp2
    go_ret
    exact FBool.same rfl
theorem JC.at {w0 : World} {cb S c : Nat} {w : World} (h : JC w0 cb S (0 + c) w) (hc : c ≤ 4398046511104) : w.cell? ⟨cb, 0, none⟩ = some (.int .i64 c) := by
  rw [h.count.1, Nat.zero_add]
  have : wrap64 (c : Int) = c := by unfold wrap64; omega
  rw [this]

/-- What the links do, the first one first; how many of them are. -/
def foldF : List Lk → FL → FL
  | [], x => x
  | l :: r, x => foldF r (if l.nn then x else linkF (fl l.t) (fl l.p) l.way x)
def cntN : List Lk → Nat
  | [] => 0
  | l :: r => (if l.nn then 0 else 1) + cntN r
theorem foldF_snoc (a : List Lk) (l : Lk) (x : FL) : foldF (a ++ [l]) x = if l.nn then foldF a x else linkF (fl l.t) (fl l.p) l.way (foldF a x) := by
  induction a generalizing x with
  | nil => rfl
  | cons b r ih => exact ih _
theorem cntN_snoc (a : List Lk) (l : Lk) : cntN (a ++ [l]) = cntN a + if l.nn then 0 else 1 := by
  induction a with
  | nil => simp [cntN]
  | cons b r ih => simp only [List.cons_append, cntN, ih]; omega
theorem cntN_le (a : List Lk) : cntN a ≤ a.length := by
  induction a with
  | nil => simp [cntN]
  | cons b r ih => simp only [cntN, List.length_cons]; split <;> omega
def lfs : List Lk → List (FL → FL)
  | [] => []
  | l :: r => if l.nn then lfs r else linkF (fl l.t) (fl l.p) l.way :: lfs r
theorem lfs_len (a : List Lk) : (lfs a).length = cntN a := by
  induction a with
  | nil => rfl
  | cons b r ih => simp only [lfs, cntN]; split <;> simp [ih]; omega
theorem comp_append (A B : List (FL → FL)) (x : FL) : comp (A ++ B) x = comp A (comp B x) := by
  induction A with
  | nil => rfl
  | cons F A ih => simp [comp, ih]
theorem comp_lfs (a : List Lk) (x : FL) : comp (lfs a).reverse x = foldF a x := by
  induction a generalizing x with
  | nil => rfl
  | cons b r ih =>
    simp only [lfs, foldF]
    split
    · exact ih x
    · rw [List.reverse_cons, comp_append, ih]; rfl
theorem pairs_beh {P : (FL → FL) → Value → Prop} : ∀ (ls : List Lk) (fs : List Value), fs.length = ls.length → (∀ (i : Nat) l f, ls[i]? = some l → fs[i]? = some f → (l.nn = true → f = .nilFunc) ∧ (l.nn = false → IsFn f ∧ P (linkF (fl l.t) (fl l.p) l.way) f)) →
    (nonnil fs).length = cntN ls ∧ ∀ (i : Nat) g F, (nonnil fs)[i]? = some g → (lfs ls)[i]? = some F → P F g
  | [], [], _, _ => ⟨rfl, fun i g F h => by simp [nonnil] at h⟩
  | l :: ls, f :: fs, hl, h => by
    obtain ⟨ih1, ih2⟩ := pairs_beh ls fs (by simpa using hl) fun i l f hl hf => h (i + 1) l f (by simpa using hl) (by simpa using hf)
    obtain ⟨h1, h2⟩ := h 0 l f rfl rfl
    cases hnn : l.nn
    · obtain ⟨⟨k, cap, rfl⟩, hP⟩ := h2 hnn
      have e : nonnil (Value.func (.func k) #[] cap :: fs) = .func (.func k) #[] cap :: nonnil fs := rfl
      rw [e]
      refine ⟨by simp [cntN, hnn, ih1]; omega, fun i g F hg hF => ?_⟩
      simp only [lfs, hnn] at hF
      cases i with
      | zero => simp at hg hF; subst hg; subst hF; exact hP
      | succ i => simp at hg hF; exact ih2 i g F hg hF
    · rw [h1 hnn]
      have e : nonnil (Value.nilFunc :: fs) = nonnil fs := rfl
      rw [e]
      refine ⟨by simp [cntN, hnn, ih1], fun i g F hg hF => ?_⟩
      simp only [lfs, hnn, if_true] at hF
      exact ih2 i g F hg hF
  | [], _ :: _, h, _ => by simp at h
  | _ :: _, [], h, _ => by simp at h

theorem JC.below {w0 : World} {cb S c : Nat} {w w' : World} (h : JC w0 cb S c w) (hb : Below S w w') : JC w0 cb S c w' :=
  ⟨by rw [hb.block _ h.lt]; exact h.cnt, fun b hl hn => by rw [hb.block _ hl]; exact h.keep b hl hn, Nat.le_trans h.size hb.size, by rw [hb.os]; exact h.os, by rw [hb.tape]; exact h.tape, by rw [hb.output]; exact h.output, h.lt⟩
theorem JC.set0 {w0 : World} {cb S c : Nat} {w : World} (h : JC w0 cb S c w) : JC w0 cb S 0 (w.setCell ⟨cb, 0, none⟩ (.int .i64 0)) := by
  refine ⟨?_, fun b hl hn => by rw [Below.heap_setCell _ _ _ _ hn]; exact h.keep b hl hn, by simpa using h.size, h.os, h.tape, h.output, h.lt⟩
  simp [World.setCell, Array.getElem?_modify, h.cnt, wrap64]

theorem CwInv.start0 {ls : List Lk} {w w0 : World} {v f : Value} {fs : List Value} {B : Nat} (h : CwInv ls w v f fs w0 B) : JC w0 w.heap.size w0.heap.size 0 w0 :=
  ⟨by rw [h.cnt]; simp [wrap64], fun _ _ _ => rfl, Nat.le_refl _, rfl, rfl, rfl, by have := h.lo; have := h.hi; omega⟩
theorem JC.fin {ls : List Lk} {w w0 w1 : World} {v f : Value} {fs : List Value} {B c : Nat} (hj : JC w0 w.heap.size w0.heap.size c w1) (h : CwInv ls w v f fs w0 B) : Below w.heap.size w w1 := by
  have hb := h.bel
  have hlt := hj.lt
  exact { size := Nat.le_trans hb.size hj.size, block := fun b hl => by rw [hj.keep b (by omega) (by omega)]; exact hb.block b hl, os := by rw [hj.os]; exact hb.os, tape := by rw [hj.tape]; exact hb.tape, output := by rw [hj.output]; exact hb.output }
theorem CwInv.beh {ls : List Lk} {w w0 : World} {v f : Value} {fs : List Value} {B : Nat} (h : CwInv ls w v f fs w0 B) : Beh (JC w0 w.heap.size w0.heap.size) (cntN ls) (foldF ls) f := by
  have hlo := h.lo
  obtain ⟨hlen, hP⟩ := pairs_beh (P := Beh (JC w0 w.heap.size w0.heap.size) 1) ls fs h.len fun i l g hl hf => by
    have hF := h.fns i l g hl hf
    refine ⟨fun hn => by unfold FnOk at hF; rw [if_pos hn] at hF; exact hF, fun hn => ?_⟩
    unfold FnOk at hF
    rw [if_neg (by simp [hn])] at hF
    obtain ⟨xb, h1, h2, h3, rfl, h5⟩ := hF
    obtain ⟨b0, b1, b2, b3⟩ := h5
    refine ⟨⟨_, _, rfl⟩, _, _, rfl, fun _ _ => by kernel_rfl, fun c x w' hJ => ?_⟩
    exact closure_any xb h2 (by omega) l.t l.p l.nn l.way b0 b1 b2 b3 c x w' hJ
  have hc := beh_chain (J := JC w0 w.heap.size w0.heap.size) (w0 := w0) (B := B) (n := 1) (fun c w' hj => hj.drew) (fun c w' hj b hb hs => hj.cell hs (by omega) 0) (nonnil fs).reverse (lfs ls).reverse f (by simp [hlen, lfs_len]) (fun i g F hg hF => by
    have hi : i < (nonnil fs).length := by
      rcases Nat.lt_or_ge i (nonnil fs).length with h | h
      · exact h
      · rw [List.getElem?_eq_none (by simpa using h)] at hg; cases hg
    rw [List.getElem?_reverse hi] at hg
    rw [List.getElem?_reverse (by rw [lfs_len, ← hlen]; exact hi)] at hF
    exact hP _ g F hg (by rw [lfs_len, ← hlen] at hF; exact hF)) h.chain
  have e : comp (lfs ls).reverse = foldF ls := funext (comp_lfs ls)
  rw [e, List.length_reverse, hlen, Nat.one_mul] at hc
  exact hc

set_option maxRecDepth 100000 in
set_option maxHeartbeats 2000000 in
theorem lawChain_any (ls : List Lk) (bs : List Nat) (vl va : Value) (w : World) (hl : LkSee w vl ls) (ha : FlSee w va bs) : Calls Try.prog 7 #[vl, va] w (BBool true w) := by
  obtain ⟨pl, cl, rfl, hln, hlk⟩ := hl
  obtain ⟨pa, ca, rfl, han, hak⟩ := ha
  have LK := Lib.hid hlk
  have AK := Lib.hid hak
  clear hlk hak
  generalize hn : ls.length = n at hln ⊢
  generalize hm : bs.length = m at han ⊢
  have HN := Lib.hid hn
  have HM := Lib.hid hm
  clear hn hm
  go_enter Try.func7, Try.ntmps7
  go_wp2_with fail
  have hst := CbInv.start ls w
  generalize w.alloc (.cells #[.int .i64 0] 3) = w1 at hst ⊢
  go_loopw [6, 7] (fun v i wr => ∃ k : Nat, k ≤ n ∧ i = .int .i64 k ∧ ∃ fs, CbInv ls w k v fs wr) (fun _ i _ => n - (intOf i).toNat)
  case atStart => exact ⟨0, Nat.zero_le _, rfl, _, hst⟩
  case round =>
    clear hst
    obtain ⟨k, hk, rfl, fs, hI⟩ := hrel
    by_cases hkn : k < n
    · obtain ⟨l, hl⟩ : ∃ l, ls[k]? = some l := ⟨ls[k]'(by rw [HN.out]; exact hkn), by simp⟩
      obtain ⟨g, o, rfl, hg, hbox⟩ := LK.out k l hl
      have HL := Lib.hid hl
      clear hl
      have hbx : BoxAt _ g (o + k * 4) l := hbox.keep fun o => hI.bel.cell (p := ⟨g, o, none⟩) hg
      obtain ⟨lt, lp, lnn, lw⟩ := l
      obtain ⟨b0, b1, b2, b3⟩ := hbx
      clear hbox
      cases lnn
      · have hrow := hI.row
        have hlo := hI.hi
        have hlen : fs.length ≤ 4398046511104 := by have := hI.len; omega
        go_wp2_with (first | ((with_reducible apply wpList_append_fn (B := w.heap.size + 1) (fs := fs)); exact rfl; exact rfl; simp; exact hrow.alloc _; (simp; omega); exact hlen; exact rfl; intro v' w4 hrow4 hgr4 hpl4 K hK))
        go_roundw
        case rel => exact ⟨k + 1, by omega, by go_num, _, hI.step HL.out ((Below.refl _ wr).alloc (Nat.le_refl _) _) (FnOk.fresh hI) hrow4 hgr4 hpl4⟩
        case measure => simp [intOf]; omega
      · have hrow := hI.row
        have hlo := hI.hi
        have hlen : fs.length ≤ 4398046511104 := by have := hI.len; omega
        go_wp2_with (first | ((with_reducible apply wpList_append_fn (B := w.heap.size + 1) (fs := fs)); exact rfl; exact rfl; simp; exact hrow.alloc _; (simp; omega); exact hlen; exact rfl; intro v' w4 hrow4 hgr4 hpl4 K hK))
        go_roundw
        case rel => exact ⟨k + 1, by omega, by go_num, _, hI.step HL.out ((Below.refl _ wr).alloc (Nat.le_refl _) _) FnOk.nil hrow4 hgr4 hpl4⟩
        case measure => simp [intOf]; omega
    · obtain rfl : k = n := by omega
      have hq1 := run_eql_func_nil
      have hrow := hI.row
      have hall := Lib.hid (hI.fnsAll HN.out)
      have hmx := Lib.hid (show fs.length ≤ maxLen by have := hI.len; simp [maxLen]; omega)
      have HR := Lib.hid hrow
      have HI := Lib.hid (show CbInv ls w ls.length _ fs wr by rw [HN.out]; exact hI)
      clear hI hrow
      go_wp2_with (first | (go_at_call 25; (with_reducible refine (chain_row hall.out hmx.out _ HR.out).mono ?_); rintro e w2 ⟨f, rfl, hch, hb2⟩; have I2 := Lib.hid (CwInv.start HI.out hch hb2); obtain ⟨kf, capf, rfl⟩ := hch.fn; clear hch) | (go_at_call 15; ((with_reducible refine (alive_any _).mono ?_); rintro e wz ⟨rfl, hbz⟩)))
      have I3 := I2.out.below hbz
      clear I2 hbz HI HR hall hmx hb2
      obtain ⟨pv, cv, hv⟩ := I3.shape
      rw [HN.out] at hv
      subst hv
      generalize hB : wr.heap.size = B at I3
      clear hB hq1 wr w1
      generalize wz = wy at I3 ⊢
      have hst := Lib.hid I3
      clear I3
      go_loopw [10] (fun i wr => ∃ j : Nat, j ≤ k ∧ i = .int .i64 j ∧ CwInv ls w (.slice pv k cv) (.func (.func kf) #[] capf) fs wr B) (fun i _ => k - (intOf i).toNat)
      case atStart => exact ⟨0, Nat.zero_le _, rfl, hst.out⟩
      case round =>
        clear hst
        obtain ⟨j, hj, rfl, hI⟩ := hrel
        by_cases hjk : j < k
        · obtain ⟨g, u, rfl, hc, hf⟩ := hI.at j hjk
          have HI := Lib.hid hI
          clear hI
          go_wp2_with fail
          go_roundw
          case rel => exact ⟨j + 1, by omega, by go_num, HI.out.write j _⟩
          case measure => simp [intOf]; omega
        · obtain rfl : j = k := by omega
          have HI := Lib.hid hI
          clear hI
          go_wp2_with fail
          have J0 := HI.out.start0
          have HBeh := Lib.hid HI.out.beh
          have HC := Lib.hid (cntN_le ls)
          generalize hM : cntN ls = M at HBeh HC
          have HM2 := Lib.hid hM
          clear hM
          have hst := Lib.hid J0
          clear J0
          generalize wr = w0 at HI HBeh hst ⊢
          generalize hcb : w.heap.size = cb at hst HBeh ⊢
          go_loopw [11] (fun i wr => ∃ k : Nat, k ≤ m ∧ i = .int .i64 k ∧ ∃ c, JC w0 cb w0.heap.size c wr) (fun i _ => m - (intOf i).toNat)
          case atStart => exact ⟨0, Nat.zero_le _, rfl, 0, hst.out⟩
          case round =>
            clear hst
            obtain ⟨k, hk, rfl, c, hJ⟩ := hrel
            by_cases hkm : k < m
            · have HJ := Lib.hid hJ
              have hSz := hJ.size
              have hL0 := HI.out.bel.size
              obtain ⟨g, o, rfl, hg, hc⟩ := AK.out k (by rw [HM.out]; exact hkm)
              have hcell : ∀ c' wr', JC w0 cb w0.heap.size c' wr' → wr'.cell? ⟨g, o + k, none⟩ = some (.float .f64 (bs.getD k 0)) := fun c' wr' hj => by rw [hj.cell (by omega) (by omega), HI.out.bel.cell (p := ⟨g, o + k, none⟩) hg]; exact hc
              have HCell := Lib.hid hcell
              have hcw := hcell _ _ hJ
              have hgw : g < wr.heap.size := by omega
              clear hcell hc hJ
              generalize bs.getD k 0 = x at hcw HCell
              go_wp2_with fail
              have hst := HJ.out
              go_loopw [12, 13, 14] (fun want many i wr => ∃ (k : Nat) (q : Nat) (mm : Nat), k ≤ j ∧ i = .int .i64 k ∧ want = .float .f64 q ∧ many = .int .i64 mm ∧ fl q = foldF (ls.take k) (fl x) ∧ mm = cntN (ls.take k) ∧ JC w0 cb w0.heap.size c wr) (fun _ _ i _ => j - (intOf i).toNat)
              case atStart => exact ⟨0, x, 0, Nat.zero_le _, rfl, rfl, rfl, rfl, rfl, hst⟩
              case round =>
                clear hst hcw
                obtain ⟨i, q, mm, hi, rfl, rfl, rfl, hq, hmm, hJ⟩ := hrel
                have hml : mm ≤ i := by rw [hmm]; exact Nat.le_trans (cntN_le _) (List.length_take_le _ _)
                have HQ := Lib.hid hq
                have HMM := Lib.hid hmm
                have HJ2 := Lib.hid hJ
                clear hq hmm
                by_cases hij : i < j
                · obtain ⟨l, hl⟩ : ∃ l, ls[i]? = some l := ⟨ls[i]'(by rw [HN.out]; exact hij), by simp⟩
                  obtain ⟨g2, o2, rfl, hg2, hbox⟩ := LK.out i l hl
                  have htk : ls.take (i + 1) = ls.take i ++ [l] := by rw [List.take_add_one, hl]; rfl
                  have HTK := Lib.hid htk
                  clear htk
                  clear hl
                  have hbx : BoxAt wr g2 (o2 + i * 4) l := hbox.keep fun o => by rw [hJ.cell (by omega) (by omega), HI.out.bel.cell (p := ⟨g2, o, none⟩) hg2]
                  have hgw2 : g2 < wr.heap.size := by have := hJ.size; omega
                  obtain ⟨lt, lp, lnn, lw⟩ := l
                  obtain ⟨b0, b1, b2, b3⟩ := hbx
                  clear hbox hJ
                  cases lnn
                  · go_wp2_with (first | (go_at_call 24; ((with_reducible refine (of_any _ _ _ _ _ _).mono ?_); rintro e w1 ⟨r, hr, rfl, hb⟩)))
                    go_roundw
                    case rel => exact ⟨i + 1, r, mm + 1, by omega, by go_num, rfl, by go_num, by rw [hr, HTK.out, foldF_snoc, HQ.out]; rfl, by rw [HTK.out, cntN_snoc, ← HMM.out]; rfl, HJ2.out.below (hb.mono HJ2.out.size)⟩
                    case measure => simp [intOf]; omega
                  · go_wp2_with fail
                    go_roundw
                    case rel => exact ⟨i + 1, q, mm, by omega, by go_num, rfl, rfl, by rw [HTK.out, foldF_snoc, HQ.out]; rfl, by rw [HTK.out, cntN_snoc, ← HMM.out]; rfl, HJ2.out⟩
                    case measure => simp [intOf]; omega
                · obtain rfl : i = j := by omega
                  have htk : ls.take i = ls := List.take_of_length_le (by rw [HN.out]; exact Nat.le_refl _)
                  have HQ2 := Lib.hid (show fl q = foldF ls (fl x) by have := HQ.out; rwa [htk] at this)
                  have hmM : mm = M := by rw [HMM.out, htk, HM2.out]
                  clear htk HQ HMM
                  subst hmM
                  have hml : mm ≤ 4398046511104 := by have := HC.out; rw [HN.out] at this; omega
                  obtain ⟨k0, k1⟩ := hJ.count
                  have hcb' : cb < wr.heap.size := Nat.lt_of_lt_of_le hJ.lt hJ.size
                  have n1 : ¬ g = cb := by omega
                  have n2 : ¬ cb = g := by omega
                  have hcw := HCell.out _ _ hJ
                  have hgw' : g < wr.heap.size := by have := hJ.size; omega
                  obtain ⟨kf', capf', heq, hcall, hcalls⟩ := HBeh.out
                  cases heq
                  have HF := Lib.hid hcalls
                  have HJ0 := Lib.hid hJ.set0
                  clear hcalls hJ
                  go_wp2_with (first | ((with_reducible refine (HF.out 0 x _ HJ0.out).mono ?_); rintro e w1 ⟨r, hr, rfl, hJ1⟩; have HE := Lib.hid (hr.trans HQ2.out.symm); have HJ1 := Lib.hid hJ1; have hca := hJ1.at hml; have hcb1 : cb < w1.heap.size := Nat.lt_of_lt_of_le hJ1.lt hJ1.size; clear hr hJ1) | (go_at_call 26; ((with_reducible refine (alikeR_any _ _ HE.out _).mono ?_); rintro e w' ⟨n2, rfl, rfl⟩)))
                  go_roundw
                  case rel => exact ⟨k + 1, by omega, by go_num, _, HJ1.out.below (below_drewN (Below.refl _ _) _)⟩
                  case measure => simp [intOf]; omega
            · obtain rfl : k = m := by omega
              subst hcb
              have HJ := Lib.hid (hJ.fin HI.out)
              clear hJ
              go_wp2_with fail
              go_ret
              exact ⟨rfl, HJ.out⟩
end Go.Proofs.Ytkgicooplgmmpaa
