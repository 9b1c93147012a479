/-
  The walk of measure.into at the zero item.
-/
import Derived.Test.YthhomflonpjbmaaGreatDoorQt19
import Derived.Test.YthhomflonpjbmaaGreatDoorQt02
import Derived.Deep.DeepCutAuto
import Derived.Deep.RegionHeld3
namespace Go.Proofs.YthhomflonpjbmaaGreatDoor
open Go.RowKit
set_option maxRecDepth 100000 in
theorem into_zero (n : Int) (w : World) : Calls Tryz.prog 95 #[.int .i64 n, .agg #[.int .i8 0, .int .i64 0, .int .i64 0, .int .i64 0, .int .i64 0]] w (VBel (.int .i64 (max n 0)) w) := by
  go_enter Tryz.func95, Tryz.ntmps95
  go_wp2
  go_ret
  refine ⟨rfl, ?_⟩
  (repeat (first | exact Below.refl _ _ | assumption | refine below_drewN ?_ _ | refine Below.drew ?_ | (refine Below.alloc ?_ ?bs _; (case bs => first | omega | (simp; done) | (simp; omega))) | (refine Below.setCell ?_ ?bs _; (case bs => first | omega | (simp; done) | (simp; omega)))))
end Go.Proofs.YthhomflonpjbmaaGreatDoor
/-
  The walks of measure's makers of functions: always, high, widest: each answers some function.
-/
namespace Go.Proofs.YthhomflonpjbmaaGreatDoor
open Go.RowKit
def VSome (w : World) (e : Ending) (w' : World) : Prop := ∃ f x y, e = .returned (.func f x y) ∧ Below w.heap.size w w'
set_option maxRecDepth 100000 in
theorem always_any (n : Int) (w : World) : Calls Tryz.prog 65 #[.int .i64 n] w (VSome w) := by
  go_enter Tryz.func65, Tryz.ntmps65
  go_wp2
  go_ret
  refine ⟨_, _, _, rfl, ?_⟩
  (repeat (first | exact Below.refl _ _ | assumption | refine below_drewN ?_ _ | refine Below.drew ?_ | (refine Below.alloc ?_ ?bs _; (case bs => first | omega | (simp; done) | (simp; omega))) | (refine Below.setCell ?_ ?bs _; (case bs => first | omega | (simp; done) | (simp; omega)))))
set_option maxRecDepth 100000 in
theorem high_any (n : Int) (w : World) : Calls Tryz.prog 66 #[.int .i64 n] w (VSome w) := by
  go_enter Tryz.func66, Tryz.ntmps66
  go_wp2
  go_ret
  refine ⟨_, _, _, rfl, ?_⟩
  (repeat (first | exact Below.refl _ _ | assumption | refine below_drewN ?_ _ | refine Below.drew ?_ | (refine Below.alloc ?_ ?bs _; (case bs => first | omega | (simp; done) | (simp; omega))) | (refine Below.setCell ?_ ?bs _; (case bs => first | omega | (simp; done) | (simp; omega)))))
set_option maxRecDepth 100000 in
theorem widest_any (f : Fn) (w : World) : Calls Tryz.prog 35 #[.func f #[] #[]] w (VSome w) := by
  go_enter Tryz.func35, Tryz.ntmps35
  go_wp2
  go_ret
  refine ⟨_, _, _, rfl, ?_⟩
  (repeat (first | exact Below.refl _ _ | assumption | refine below_drewN ?_ _ | refine Below.drew ?_ | (refine Below.alloc ?_ ?bs _; (case bs => first | omega | (simp; done) | (simp; omega))) | (refine Below.setCell ?_ ?bs _; (case bs => first | omega | (simp; done) | (simp; omega)))))
end Go.Proofs.YthhomflonpjbmaaGreatDoor
/-
  A law for a region that draws its order and holds many calls: an invariant over what is done already (no branching over the orders).
-/
namespace Go.Proofs.YthhomflonpjbmaaGreatDoor
theorem count_set : ∀ (l : List Bool) (i : Nat), l[i]? = some false → (l.set i true).count false + 1 = l.count false
  | [], i, h => by simp at h
  | x :: l, 0, h => by
    simp at h
    subst h
    simp
  | x :: l, i + 1, h => by
    have := count_set l i (by simpa using h)
    cases x <;> simp [List.count_cons] at this ⊢ <;> omega
section
variable {P : Program} {ops : Array Oper} {Q : Exit → Act → World → Prop} {md : Region.Mode}
theorem wpAny_inv (I : Array Bool → Act → World → Prop)
    (hstep : ∀ listed a w i, I listed a w → i ∈ Region.ready md ops listed → wpOp P ops Q i (fun a' w' => I (listed.setIfInBounds i true) a' w') a w)
    (hend : ∀ listed a w, I listed a w → Region.ready md ops listed = [] → Q .normal a w)
    (hr : ∀ (listed : Array Bool) i, i ∈ Region.ready md ops listed → listed.size = ops.size → listed[i]? = some false) :
    ∀ (fuel : Nat) (listed : Array Bool) (a : Act) (w : World), I listed a w → listed.size = ops.size → listed.toList.count false ≤ fuel → wpAny P md ops Q fuel listed a w := by
  intro fuel
  induction fuel with
  | zero =>
    intro listed a w hI hz hc
    have h0 : Region.ready md ops listed = [] := by
      cases h : Region.ready md ops listed with
      | nil => rfl
      | cons i l =>
        have h1 := hr listed i (by rw [h]; simp) hz
        have h2 : listed.toList[i]? = some false := by rw [Array.getElem?_toList]; exact h1
        have := List.count_pos_iff.2 (List.mem_of_getElem? h2)
        omega
    exact ⟨h0, hend _ _ _ hI h0⟩
  | succ fuel ih =>
    intro listed a w hI hz hc
    refine ⟨hend _ _ _ hI, fun i hi => wpOp_mono (fun a' w' h' => ih _ a' w' h' (by simpa using hz) ?_) (hstep _ _ _ i hI hi)⟩
    have h1 := hr listed i hi hz
    have h2 : listed.toList[i]? = some false := by rw [Array.getElem?_toList]; exact h1
    have := count_set _ _ h2
    rw [Array.toList_setIfInBounds]
    omega
theorem ready_spec {listed : Array Bool} {i : Nat} (h : i ∈ Region.ready md ops listed) : i < ops.size ∧ listed.getD i true = false ∧ ∀ o, ops[i]? = some o → ∀ e ∈ o.after, Region.binds md e = true → listed.getD e.on false = true := by
  unfold Region.ready at h
  obtain ⟨h1, h2⟩ := List.mem_filter.1 h
  simp only [Bool.and_eq_true] at h2
  refine ⟨List.mem_range.1 h1, by simpa using h2.1, fun o ho e he hb => ?_⟩
  have h3 := h2.2
  rw [ho] at h3
  simp only [Option.map_some, Option.getD_some] at h3
  have h4 := Array.all_eq_true_iff_forall_mem.1 h3 e he
  rw [hb] at h4
  simpa using h4
theorem ready_false {listed : Array Bool} {i : Nat} (h : i ∈ Region.ready md ops listed) (hz : listed.size = ops.size) : listed[i]? = some false := by
  obtain ⟨h1, h2, _⟩ := ready_spec h
  rw [Array.getD_eq_getD_getElem?] at h2
  have h3 : i < listed.size := by omega
  rw [Array.getElem?_eq_getElem h3] at h2 ⊢
  simpa using h2
/-- Where nothing may come up, all is done. -/
theorem ready_nil {listed : Array Bool} (hz : listed.size = ops.size) (hdep : ∀ (i : Nat) o, ops[i]? = some o → ∀ e ∈ o.after, Region.binds md e = true → e.on < i) (h : Region.ready md ops listed = []) (i : Nat) (hi : i < ops.size) : listed.getD i true = true := by
  induction i using Nat.strongRecOn with
  | ind i ih =>
    cases hl : listed.getD i true with
    | true => rfl
    | false =>
      exfalso
      have hm : i ∈ Region.ready md ops listed := by
        unfold Region.ready
        refine List.mem_filter.2 ⟨List.mem_range.2 hi, ?_⟩
        obtain ⟨o, ho⟩ : ∃ o, ops[i]? = some o := ⟨_, Array.getElem?_eq_getElem hi⟩
        rw [hl, ho]
        simp only [Bool.not_false, Bool.true_and, Option.map_some, Option.getD_some]
        refine Array.all_eq_true_iff_forall_mem.2 fun e he => ?_
        cases hb : Region.binds md e with
        | false => rfl
        | true =>
          have h1 := hdep i o ho e he hb
          have h2 := ih e.on h1 (by omega)
          have h3 : e.on < listed.size := by omega
          rw [Array.getD_eq_getD_getElem?, Array.getElem?_eq_getElem h3] at h2 ⊢
          simpa using h2
      rw [h] at hm
      cases hm
/-- A region that draws its order, by an invariant. -/
theorem wp_region_inv {id : Nat} (hm : P.follows .mixedOrders = true) (I : Array Bool → Act → World → Prop) {a : Act} {w : World}
    (h0 : I (Array.replicate ops.size false) a { w with drawn := w.drawn + 1 })
    (hstep : ∀ listed a w i, I listed a w → i ∈ Region.ready .any ops listed → wpOp P ops Q i (fun a' w' => I (listed.setIfInBounds i true) a' w') a w)
    (hend : ∀ listed a w, I listed a w → Region.ready .any ops listed = [] → Q .normal a w) : (Code.region id ops true).wp P Q a w :=
  wp_region_any hm (wpAny_inv I hstep hend (fun _ _ h hz => ready_false h hz) ops.size _ a _ h0 (by simp) (by
    rw [Array.toList_replicate, List.count_replicate_self]; exact Nat.le_refl _))
end
end Go.Proofs.YthhomflonpjbmaaGreatDoor
/-
  The walks at an empty tree and at no measure: tree.Check, measure.New, Least, Most, Tall.
-/
namespace Go.Proofs.YthhomflonpjbmaaGreatDoor
open Go.RowKit
set_option maxRecDepth 100000 in
theorem check_empty (w : World) : Calls Tryz.prog 19 #[.agg #[.slice none 0 0]] w (VBel (.tuple #[.int .i64 100, .int .i64 0]) w) := by
  go_enter Tryz.func19, Tryz.ntmps19
  go_wp2
  go_ret2
  refine ⟨rfl, ?_⟩
  (repeat (first | exact Below.refl _ _ | assumption | refine below_drewN ?_ _ | refine Below.drew ?_ | (refine Below.alloc ?_ ?bs _; (case bs => first | omega | (simp; done) | (simp; omega))) | (refine Below.setCell ?_ ?bs _; (case bs => first | omega | (simp; done) | (simp; omega)))))
set_option maxRecDepth 100000 in
theorem new_empty (w : World) : Calls Tryz.prog 8 #[.agg #[.slice none 0 0]] w (VBel (.tuple #[.pointer none, .int .i64 100]) w) := by
  go_enter Tryz.func8, Tryz.ntmps8
  go_wp2_with (go_at_call 19; ((with_reducible refine (check_empty _).mono ?_); rintro e1' w2 ⟨rfl, hb2⟩))
  go_ret2
  refine ⟨rfl, Below.trans ?_ (hb2.mono ?_)⟩
  · (repeat (first | exact Below.refl _ _ | assumption | refine below_drewN ?_ _ | refine Below.drew ?_ | (refine Below.alloc ?_ ?bs _; (case bs => first | omega | (simp; done) | (simp; omega))) | (refine Below.setCell ?_ ?bs _; (case bs => first | omega | (simp; done) | (simp; omega)))))
  · (try simp) <;> omega
set_option maxRecDepth 100000 in
theorem of_nil (w : World) (n y x : Int) (f : Value) : Calls Tryz.prog 22 #[.pointer none, .agg #[.int .i64 n, .int .i64 y, .int .i64 x], f] w (VBel (.int .i64 0) w) := by
  go_enter Tryz.func22, Tryz.ntmps22
  go_upto_region 1 with (fail)
  go_quiet (fail)
  go_wp2
  go_ret
  refine ⟨rfl, ?_⟩
  (repeat (first | exact Below.refl _ _ | assumption | refine below_drewN ?_ _ | refine Below.drew ?_ | (refine Below.alloc ?_ ?bs _; (case bs => first | omega | (simp; done) | (simp; omega))) | (refine Below.setCell ?_ ?bs _; (case bs => first | omega | (simp; done) | (simp; omega)))))
set_option maxRecDepth 100000 in
theorem least_nil (w : World) (n : Int) : Calls Tryz.prog 11 #[.pointer none, .int .i64 n] w (VBel (.int .i64 0) w) := by
  go_enter Tryz.func11, Tryz.ntmps11
  go_wp2_with (go_at_call 22; ((with_reducible refine (of_nil _ _ _ _ _).mono ?_); rintro e1' w2 ⟨rfl, hb2⟩))
  go_ret
  refine ⟨rfl, Below.trans ?_ (hb2.mono ?_)⟩
  · (repeat (first | exact Below.refl _ _ | assumption | refine below_drewN ?_ _ | refine Below.drew ?_ | (refine Below.alloc ?_ ?bs _; (case bs => first | omega | (simp; done) | (simp; omega))) | (refine Below.setCell ?_ ?bs _; (case bs => first | omega | (simp; done) | (simp; omega)))))
  · (try simp) <;> omega
set_option maxRecDepth 100000 in
theorem most_nil (w : World) (n : Int) : Calls Tryz.prog 12 #[.pointer none, .int .i64 n] w (VBel (.int .i64 0) w) := by
  go_enter Tryz.func12, Tryz.ntmps12
  go_wp2_with (go_at_call 22; ((with_reducible refine (of_nil _ _ _ _ _).mono ?_); rintro e1' w2 ⟨rfl, hb2⟩))
  go_ret
  refine ⟨rfl, Below.trans ?_ (hb2.mono ?_)⟩
  · (repeat (first | exact Below.refl _ _ | assumption | refine below_drewN ?_ _ | refine Below.drew ?_ | (refine Below.alloc ?_ ?bs _; (case bs => first | omega | (simp; done) | (simp; omega))) | (refine Below.setCell ?_ ?bs _; (case bs => first | omega | (simp; done) | (simp; omega)))))
  · (try simp) <;> omega
set_option maxRecDepth 100000 in
theorem tall_nil (w : World) (n x : Int) (hx : -9223372036854775808 ≤ x ∧ x ≤ 9223372036854775807) : Calls Tryz.prog 10 #[.pointer none, .int .i64 n, .int .i64 x] w (VBel (.int .i64 0) w) := by
  have HS := Lib.hid fun W => side_any x hx W
  clear hx
  go_enter Tryz.func10, Tryz.ntmps10
  go_wp2_with (first | (go_at_call 21; ((with_reducible refine (HS.out _).mono ?_); rintro e1' w3 ⟨rfl, rfl⟩)) | (go_at_call 22; ((with_reducible refine (of_nil _ _ _ _ _).mono ?_); rintro e1' w2 ⟨rfl, hb2⟩)))
  go_ret
  refine ⟨rfl, Below.trans ?_ (hb2.mono ?_)⟩
  · (repeat (first | exact Below.refl _ _ | assumption | refine below_drewN ?_ _ | refine Below.drew ?_ | (refine Below.alloc ?_ ?bs _; (case bs => first | omega | (simp; done) | (simp; omega))) | (refine Below.setCell ?_ ?bs _; (case bs => first | omega | (simp; done) | (simp; omega)))))
  · (try simp) <;> omega
end Go.Proofs.YthhomflonpjbmaaGreatDoor
/-
  The walk of measure.sum at two numbers.
-/
namespace Go.Proofs.YthhomflonpjbmaaGreatDoor
open Go.RowKit
set_option maxRecDepth 100000 in
theorem sum_two (w : World) (g o c : Nat) (a b : Int) (ha : 0 ≤ a ∧ a ≤ 4096) (hb : 0 ≤ b ∧ b ≤ 4096) (h1 : w.cell? ⟨g, o, none⟩ = some (.int .i64 a)) (h2 : w.cell? ⟨g, o + 1, none⟩ = some (.int .i64 b)) :
    Calls Tryz.prog 44 #[.slice (some ⟨g, o, none⟩) 2 c, .int .i64 1] w (VBel (.int .i64 (1 + a + b)) w) := by
  go_enter Tryz.func44, Tryz.ntmps44
  go_wp2
  refine wp_loop_rounds 3 ?_
  repeat any_goals (rw [rounds_succ]; go_wp2)
  go_wp2
  go_ret
  refine ⟨rfl, ?_⟩
  (repeat (first | exact Below.refl _ _ | assumption | refine below_drewN ?_ _ | refine Below.drew ?_ | (refine Below.alloc ?_ ?bs _; (case bs => first | omega | (simp; done) | (simp; omega))) | (refine Below.setCell ?_ ?bs _; (case bs => first | omega | (simp; done) | (simp; omega)))))
end Go.Proofs.YthhomflonpjbmaaGreatDoor
/-
  The walk of measure.kinds (under way).
-/
namespace Go.Proofs.YthhomflonpjbmaaGreatDoor
open Go.RowKit
abbrev KSd (w : World) (B : Nat) (v1 v2 v3 : Value) (W : World) : Prop := W.cell? ⟨B, 0, none⟩ = some v1 ∧ W.cell? ⟨B, 1, none⟩ = some v2 ∧ W.cell? ⟨B, 2, none⟩ = some v3 ∧ B < W.heap.size ∧ Below w.heap.size w W
theorem KSd.below {w : World} {B : Nat} {v1 v2 v3 : Value} {W W' : World} (h : KSd w B v1 v2 v3 W) (hb : Below W.heap.size W W') : KSd w B v1 v2 v3 W' :=
  ⟨(hb.cell (p := ⟨B, 0, none⟩) h.2.2.2.1).trans h.1, (hb.cell (p := ⟨B, 1, none⟩) h.2.2.2.1).trans h.2.1, (hb.cell (p := ⟨B, 2, none⟩) h.2.2.2.1).trans h.2.2.1, Nat.lt_of_lt_of_le h.2.2.2.1 hb.size, h.2.2.2.2.trans (hb.mono h.2.2.2.2.size)⟩
theorem KSd.drew {w : World} {B : Nat} {v1 v2 v3 : Value} {W : World} (h : KSd w B v1 v2 v3 W) : KSd w B v1 v2 v3 W.drew := ⟨h.1, h.2.1, h.2.2.1, h.2.2.2.1, Below.drew h.2.2.2.2⟩
theorem KSd.alloc {w : World} {B : Nat} {v1 v2 v3 : Value} {W : World} (h : KSd w B v1 v2 v3 W) (o : Obj) : KSd w B v1 v2 v3 (W.alloc o) := h.below (Below.alloc (Below.refl _ _) (Nat.le_refl _) o)
/-- The table of kinds: what a text and a row do. -/
def KindsPost (w : World) (e : Ending) (w' : World) : Prop := ∃ b : Nat, e = .returned (.slice (some ⟨b, 0, none⟩) 12 12) ∧ w.heap.size ≤ b ∧ b < w'.heap.size ∧ Below w.heap.size w w' ∧
  w'.cell? ⟨b, 3, none⟩ = some (.func (.func 48) #[] #[]) ∧ w'.cell? ⟨b, 4, none⟩ = some (.func (.func 49) #[] #[]) ∧ w'.cell? ⟨b, 5, none⟩ = some (.func (.func 50) #[] #[]) ∧
  w'.cell? ⟨b, 6, none⟩ = some (.func (.func 51) #[] #[]) ∧ w'.cell? ⟨b, 7, none⟩ = some (.func (.func 52) #[] #[]) ∧ w'.cell? ⟨b, 8, none⟩ = some (.func (.func 53) #[] #[])
set_option maxRecDepth 100000 in
set_option maxHeartbeats 8000000 in
theorem kinds_any (w : World) : Calls Tryz.prog 20 #[] w (KindsPost w) := by
  go_enter Tryz.func20, Tryz.ntmps20
  go_upto_region 3 with (go_at_call 35; ((with_reducible refine (widest_any _ _).mono ?_); rintro e1' w2 ⟨f2, x2, y2, rfl, hb2⟩; have hz2 := hb2.size))
  rename_i w1 f1 x1 y1 hb1 hz1 K0 a0
  have S0 : KSd w w2.heap.size (.func f1 x1 y1) (.func f2 x2 y2) (.func (.func 42) #[] #[]) (w2.alloc (Obj.cells #[Value.func f1 x1 y1, Value.func f2 x2 y2, Value.func (Fn.func 42) #[] #[]] 71)) := by
    refine ⟨by go_simp, by go_simp, by go_simp, by simp, ?_⟩
    exact Below.alloc (hb1.trans (hb2.mono hz1)) (Nat.le_trans hz1 hz2) _
  generalize hB : w2.heap.size = B at S0 ⊢
  generalize w2.alloc (Obj.cells #[Value.func f1 x1 y1, Value.func f2 x2 y2, Value.func (Fn.func 42) #[] #[]] 71) = W at S0 ⊢
  obtain ⟨s1, s2, s3, s4, s5⟩ := S0
  clear hB hb1 hz1 hb2 hz2
  go_region_held3 (fun w' => w'.cell? ⟨B, 0, none⟩ = some (.func f1 x1 y1) ∧ w'.cell? ⟨B, 1, none⟩ = some (.func f2 x2 y2) ∧ w'.cell? ⟨B, 2, none⟩ = some (.func (.func 42) #[] #[]) ∧ B < w'.heap.size ∧ Below w.heap.size w w')
    ((first | (refine KSd.alloc ?_ _; (first | assumption | (refine ⟨?_, ?_, ?_, ?_, ?_⟩ <;> assumption))) | (refine KSd.drew ?_; (refine ⟨?_, ?_, ?_, ?_, ?_⟩ <;> assumption)) | (refine KSd.below ?_ hb3; (first | assumption | (refine ⟨?_, ?_, ?_, ?_, ?_⟩ <;> assumption))) | (refine ⟨?_, ?_, ?_, ?_, ?_⟩ <;> assumption)))
    (first | (go_at_call 65; ((with_reducible refine (always_any _ _).mono ?_); rintro e1' w3 ⟨f3, x3, y3, rfl, hb3⟩; have hz3 := hb3.size; (try simp at hz3))) | (go_at_call 66; ((with_reducible refine (high_any _ _).mono ?_); rintro e1' w3 ⟨f3, x3, y3, rfl, hb3⟩; have hz3 := hb3.size; (try simp at hz3))))
  all_goals
    go_wp2
    go_ret
    have s6 := s5.size
    refine ⟨_, rfl, ?_, ?_, ?_, by go_simp, by go_simp, by go_simp, by go_simp, by go_simp, by go_simp⟩
    · omega
    · simp
    · exact (show KSd w B (.func f1 x1 y1) (.func f2 x2 y2) (.func (.func 42) #[] #[]) _ by assumption).2.2.2.2
end Go.Proofs.YthhomflonpjbmaaGreatDoor
