/-
  The walks of Chain and of what it makes.
-/
import Derived.Test.YtkgicooplgmmpaaRe
import Derived.Laws.EntriesVeiled
import Derived.Deep.RegionWith
namespace Go.Proofs.Ytkgicooplgmmpaa
open Go.RowKit

theorem run_neq_func_nil (fn : Fn) (fi ca : Array Value) (w : World) : (binOp .neq 43 (.func fn fi ca) .nilFunc).run Try.prog w = .ok (.bool true) w := by kernel_rfl
theorem run_neq_nil_nil (w : World) : (binOp .neq 43 .nilFunc .nilFunc).run Try.prog w = .ok (.bool false) w := by kernel_rfl
theorem run_eql_func_nil (fn : Fn) (fi ca : Array Value) (w : World) : (binOp .eql 43 (.func fn fi ca) .nilFunc).run Try.prog w = .ok (.bool false) w := by kernel_rfl

def IsFn (g : Value) : Prop := ∃ k cap, g = .func (.func k) #[] cap
def nonnil (gs : List Value) : List Value := gs.filter fun g => match g with | .nilFunc => false | _ => true

/-- f runs the functions (the last one first in the list); what it captured lies from block B on. -/
def ChainAt (w : World) (B : Nat) : List Value → Value → Prop
  | [], f => f = .func (.func 48) #[] #[]
  | g :: rest, f => ∃ gb ab a, B ≤ gb ∧ gb < w.heap.size ∧ B ≤ ab ∧ ab < w.heap.size ∧ f = .func (.func 49) #[] #[.pointer (some ⟨gb, 0, none⟩), .pointer (some ⟨ab, 0, none⟩)] ∧
      w.cell? ⟨gb, 0, none⟩ = some g ∧ w.cell? ⟨ab, 0, none⟩ = some a ∧ ChainAt w B rest a

theorem ChainAt.fn {w : World} {B : Nat} {gs : List Value} {f : Value} (h : ChainAt w B gs f) : IsFn f := by
  cases gs with
  | nil => exact ⟨_, _, h⟩
  | cons g rest => obtain ⟨gb, ab, a, _, _, _, _, rfl, _⟩ := h; exact ⟨_, _, rfl⟩

theorem ChainAt.keep {w w' : World} {B : Nat} (hs : w.heap.size ≤ w'.heap.size) (hc : ∀ b, B ≤ b → b < w.heap.size → w'.cell? ⟨b, 0, none⟩ = w.cell? ⟨b, 0, none⟩) :
    ∀ {gs : List Value} {f : Value}, ChainAt w B gs f → ChainAt w' B gs f
  | [], _, h => h
  | _ :: _, _, ⟨gb, ab, a, h1, h2, h3, h4, h5, h6, h7, h8⟩ =>
    ⟨gb, ab, a, h1, Nat.lt_of_lt_of_le h2 hs, h3, Nat.lt_of_lt_of_le h4 hs, h5, by rw [hc _ h1 h2, h6], by rw [hc _ h3 h4, h7], h8.keep hs hc⟩

theorem nonnil_snoc_nil (l : List Value) : (nonnil (l ++ [.nilFunc])).reverse = (nonnil l).reverse := by simp [nonnil]
theorem nonnil_snoc_fn (l : List Value) (fn : Fn) (fi ca : Array Value) : (nonnil (l ++ [.func fn fi ca])).reverse = .func fn fi ca :: (nonnil l).reverse := by simp [nonnil]

theorem getD_mem (gs : List Value) (k : Nat) (h : k < gs.length) (d : Value) : gs.getD k d ∈ gs := by
  have : gs.getD k d = gs[k] := by simp [h]
  rw [this]; exact List.getElem_mem _

structure ChInv (gs : List Value) (w : World) (k : Nat) (f : Value) (wr : World) : Prop where
  chain : ChainAt wr w.heap.size (nonnil (gs.take k)).reverse f
  bel : Below w.heap.size w wr

theorem ChInv.skip {gs : List Value} {w wr : World} {k : Nat} {f : Value} (h : ChInv gs w k f wr) (hk : k < gs.length) (hg : gs.getD k .nilFunc = .nilFunc) (o : Obj) : ChInv gs w (k + 1) f (wr.alloc o) := by
  have e : gs.take (k + 1) = gs.take k ++ [.nilFunc] := by rw [List.take_succ_eq_append_getElem hk]; simp [hk] at hg; rw [hg]
  exact ⟨by rw [e, nonnil_snoc_nil]; exact h.chain.keep (by simp) fun b _ hb => World.cell?_alloc_lt _ _ _ hb, h.bel.alloc h.bel.size _⟩

theorem ChInv.link {gs : List Value} {w wr : World} {k : Nat} {f : Value} (h : ChInv gs w k f wr) (hk : k < gs.length) {fn : Fn} {fi ca : Array Value} (hg : gs.getD k .nilFunc = .func fn fi ca) (t : TypeId) :
    ChInv gs w (k + 1) (.func (.func 49) #[] #[.pointer (some ⟨wr.heap.size, 0, none⟩), .pointer (some ⟨wr.heap.size + 1, 0, none⟩)]) ((wr.alloc (.cells #[.func fn fi ca] t)).alloc (.cells #[f] t)) := by
  have e : gs.take (k + 1) = gs.take k ++ [.func fn fi ca] := by rw [List.take_succ_eq_append_getElem hk]; simp [hk] at hg; rw [hg]
  have hs := h.bel.size
  refine ⟨?_, (h.bel.alloc hs _).alloc (by simp; omega) _⟩
  rw [e, nonnil_snoc_fn]
  refine ⟨wr.heap.size, wr.heap.size + 1, f, hs, by simp; omega, by omega, by simp, rfl, ?_, ?_, ?_⟩
  · rw [World.cell?_alloc_lt _ _ _ (by simp)]; simp
  · simp
  · refine h.chain.keep (by simp; omega) fun b _ hb => ?_
    rw [World.cell?_alloc_lt _ _ _ (by simp; omega), World.cell?_alloc_lt _ _ _ hb]

set_option maxRecDepth 100000 in
set_option maxHeartbeats 1000000 in
theorem chain_nil (w : World) : Calls Try.prog 25 #[.slice none 0 0] w fun e w' => ∃ f, e = .returned f ∧ ChainAt w' w.heap.size [] f ∧ Below w.heap.size w w' := by
  go_enter Try.func25, Try.ntmps25
  go_wp2_with fail
  refine wp_loop_rounds 1 ?_
  rw [rounds_succ]
  go_wp2_with fail
  go_ret
  exact ⟨_, rfl, rfl, Below.refl _ _⟩

set_option maxRecDepth 100000 in
set_option maxHeartbeats 1000000 in
theorem chain_some (gs : List Value) (hgs : ∀ g ∈ gs, g = .nilFunc ∨ IsFn g) (gl o c : Nat) (hm : gs.length ≤ maxLen) (w : World) (hlt : gl < w.heap.size)
    (hcell : ∀ i, i < gs.length → w.cell? ⟨gl, o + i, none⟩ = some (gs.getD i .nilFunc)) :
    Calls Try.prog 25 #[.slice (some ⟨gl, o, none⟩) gs.length c] w fun e w' => ∃ f, e = .returned f ∧ ChainAt w' w.heap.size (nonnil gs).reverse f ∧ Below w.heap.size w w' := by
  unfold maxLen at hm
  have hq1 := run_neq_func_nil
  have hq2 := run_neq_nil_nil
  go_enter Try.func25, Try.ntmps25
  generalize hn : gs.length = n at hm hcell ⊢
  have hn' := Lib.hid hn
  clear hn
  have hcell' := Lib.hid hcell
  clear hcell
  go_wp2_with fail
  go_loopw [3, 9] (fun f i wr => ∃ k : Nat, k ≤ n ∧ i = .int .i64 k ∧ ChInv gs w k f wr) (fun _ i _ => n - (intOf i).toNat)
  case atStart => exact ⟨0, Nat.zero_le _, rfl, rfl, Below.refl _ _⟩
  case round =>
    obtain ⟨k, hk, rfl, hI⟩ := hrel
    obtain ⟨kf, capf, rfl⟩ := hI.chain.fn
    by_cases hkn : k < n
    · have hc : wr.cell? ⟨gl, o + k, none⟩ = some (gs.getD k .nilFunc) := by rw [hI.bel.cell (p := ⟨gl, o + k, none⟩) hlt]; exact hcell'.out k hkn
      rcases hgs (gs.getD k .nilFunc) (getD_mem _ _ (by have := hn'.out; omega) _) with hg | ⟨kk, cap, hg⟩
      · rw [hg] at hc
        have hg' := Lib.hid hg
        clear hg hgs
        go_wp2_with fail
        go_roundw
        case rel => exact ⟨k + 1, by omega, by go_num, hI.skip (by have := hn'.out; omega) hg'.out _⟩
        case measure => simp [intOf]; omega
      · rw [hg] at hc
        have hg' := Lib.hid hg
        clear hg hgs
        go_wp2_with fail
        go_roundw
        case rel => exact ⟨k + 1, by omega, by go_num, hI.link (by have := hn'.out; omega) hg'.out _⟩
        case measure => simp [intOf]; omega
    · obtain rfl : k = n := by omega
      clear hgs
      go_wp2_with fail
      go_ret
      refine ⟨_, rfl, ?_, hI.bel⟩
      have := hI.chain
      rw [List.take_of_length_le (by have := hn'.out; omega)] at this
      exact this
end Go.Proofs.Ytkgicooplgmmpaa
