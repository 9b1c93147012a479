/-
  MeasureText: whatever the text, the way to wrap, the widths and the paddings: the law answers true: a text is as wide and as high as wrap says, not higher with more width, and a frame makes it wider and higher; what may not be is no measure. No condition of my own; as the row says, the variables unicode/utf8.acceptRanges and unicode/utf8.first hold what the program's text lays (the card ties them).
-/
import Derived.Test.YthhomflonpjbmaaGreatDoorQt00
import Derived.Test.YthhomflonpjbmaaGreatDoorQt27
import Derived.Test.YthhomflonpjbmaaGreatDoorTie
import Derived.Test.YthhomflonpjbmaaGreatDoorCards
import Derived.Laws.IdiomArrays
import Derived.Lay
import Derived.LaidMore
import Derived.MakeChecks
import Derived.SevenTiedAt
import Derived.Stop.Joined
namespace Go.Proofs.YthhomflonpjbmaaGreatDoor
open Go.ChangeShapes Go.WideShapes Go.ChangeAt Go.RowKit Go.Joins

theorem law_any (t : ByteArray) (md x more a0 a1 a2 a3 : Int) (hmd : -128 ≤ md ∧ md ≤ 127) (hx : -9223372036854775808 ≤ x ∧ x ≤ 9223372036854775807) (w : World) :
    Calls Tryz.prog 4 #[.string t, .int .i8 md, .int .i64 x, .int .i64 more, .agg #[.int .i64 a0, .int .i64 a1, .int .i64 a2, .int .i64 a3]] w (VBel (.bool true) w) := by
  have z : (0 : Int) ≤ 0 ∧ (0 : Int) ≤ 4096 := by omega
  have y : (0 : Int) ≤ 0 ∧ (0 : Int) ≤ 4 := by omega
  by_cases hm : 0 ≤ md ∧ md ≤ 2
  · by_cases hs : (t.size : Int) ≤ 65536
    · exact law_ok t md x more a0 a1 a2 a3 (min (max x 0) 4096) (tallS md (min (max x 0) 4096).toNat t) (leastS md (flowS t.data.toList)) (leastS 2 (flowS t.data.toList)) ⟨by omega, by omega, hx, rfl, rfl, rfl, rfl⟩ w
    · exact law_bad t md x more a0 a1 a2 a3 3 w (by decide) fun W g h hg => new_long W g 0 1 0 0 0 0 0 0 md t h hg z z z z z y hm (by omega)
  · exact law_bad t md x more a0 a1 a2 a3 106 w (by decide) fun W g h hg => new_bad W g 0 1 0 0 0 0 0 0 md t h hg z z z z z y hmd hm

theorem cells4 : Tryz.prog.cellsOf 37 = 4 := by kernel_rfl
theorem cellsInt : Tryz.prog.cellsOf 3 = 1 := by kernel_rfl
theorem list4' {α : Type} (l : List α) (h : l.length = 4) : ∃ a b c d, l = [a, b, c, d] := by
  match l, h with
  | [a, b, c, d], _ => exact ⟨a, b, c, d, rfl⟩

set_option maxRecDepth 100000 in
theorem measureText_lifted (os : Os) (started : os.Started) (H : Type) (enc : TypeId × Value → H) :
    ReturnsInHanded {} Tryz.checked os 4 .any (fun w args => (Rows.measureTextSpec.pre enc Tryz.prog Tryz.f4 [] false w args ∧ laidMetH Tryz.prog Rows.measureTextRow.laid w) ∧ sizedMet enc Tryz.prog Tryz.f4 (OpenSpec.ofChange Rows.measureTextSpec) false w args)
      (Rows.measureTextSpec.post enc Tryz.prog Tryz.f4 false true false false) := by
  refine returnsInHanded_of_change_and (C := Tryz.checked) (X := fun w _ => laidMetH Tryz.prog Rows.measureTextRow.laid w) (fun _ _ _ hh h => h.of_heap hh) Tryz.own started (by kernel_rfl) Tryz.func4
    (ChangeSpec.witness_shaped (enc := enc) (C := Tryz.checked) (os := os) (X := fun w _ => laidMetH Tryz.prog Rows.measureTextRow.laid w) false (World.laidAll Tryz.prog os Rows.measureTextRow.laid) #[.string ⟨#[]⟩, .int .i8 0, .int .i64 0, .int .i64 0, .agg #[.int .i64 0, .int .i64 0, .int .i64 0, .int .i64 0]] 8 (World.laidAll_os _ _ _)
      (World.shaped_of_ZipB (by kernel_rfl) (by kernel_rfl)) (by kernel_rfl) (by kernel_rfl) (by kernel_rfl)
      (by rw [MakeChecks.laidMetH_plain _ _ _ (by kernel_rfl)]; exact laidMet_laidAll _ (by kernel_rfl) (by kernel_rfl))) ?_
  intro W base args ds gs before hval0 hW _ _ _ _
  have hval : ∀ (j : Nat) t v, Tryz.f4.params[j]? = some t → args[j]? = some v → Value.okWide Tryz.prog W .any base t v := hval0
  have hW' := hW
  obtain ⟨p, q, hA0, hV, rfl, hfz, hnd⟩ := hW
  have hA : DataW.TrodAll enc Tryz.prog W 0 (fun _ => true) true Tryz.f4.params.toList args.toList ds p := hA0
  rw [Tryz.params4] at hA hval
  obtain ⟨v0, vs0, d0, ds0, p0, q0, hargs, rfl, rfl, h0, r0⟩ := trodAll_cons hA
  obtain ⟨v1, vs1, d1, ds1, p1, q1, rfl, rfl, rfl, h1, r1⟩ := trodAll_cons r0
  obtain ⟨v2, vs2, d2, ds2, p2, q2, rfl, rfl, rfl, h2, r2⟩ := trodAll_cons r1
  obtain ⟨v3, vs3, d3, ds3, p3, q3, rfl, rfl, rfl, h3, r3⟩ := trodAll_cons r2
  obtain ⟨v4, vs4, d4, ds4, p4, q4, rfl, rfl, rfl, h4, r4⟩ := trodAll_cons r3
  obtain ⟨rfl, rfl, rfl⟩ := trodAll_nil r4
  obtain rfl : args = #[v0, v1, v2, v3, v4] := by cases args; simp_all
  obtain ⟨rfl, rfl⟩ := trodVars_none hV
  obtain ⟨t, rfl, rfl, rfl, ht⟩ := Go.ChangeMaps.open_string Tryz.underlying9 (hval 0 9 v0 rfl rfl) h0
  obtain ⟨md, rfl, rfl, rfl, wmd⟩ := open_int Tryz.underlying36 (hval 1 36 v1 rfl rfl) h1
  obtain ⟨x, rfl, rfl, rfl, wx⟩ := open_int Tryz.underlying3 (hval 2 3 v2 rfl rfl) h2
  obtain ⟨more, rfl, rfl, rfl, wmore⟩ := open_int Tryz.underlying3 (hval 3 3 v3 rfl rfl) h3
  obtain ⟨cs, rfl, hsz, _⟩ : ∃ cs, v4 = .agg cs ∧ cs.size = Tryz.prog.cellsOf 37 ∧ Row.okWide Tryz.prog W .any base 37 cs := by
    have := hval 4 37 v4 rfl rfl
    simpa [Value.okWide, Tryz.underlying37] using this
  rw [cells4] at hsz
  obtain ⟨l⟩ := cs
  obtain ⟨c0, c1, c2, c3, rfl⟩ := list4' l hsz
  obtain ⟨fuel, hf⟩ := h4
  obtain ⟨y0, y1, y2, y3, m, hx4, hy0, hy1, hy2, hy3⟩ := trod_array4 Tryz.underlying37 cellsInt hf
  obtain ⟨a0, e0, rfl, w0⟩ := DataW.trod_int Tryz.underlying3 hy0
  obtain ⟨a1, e1, rfl, w1⟩ := DataW.trod_int Tryz.underlying3 hy1
  obtain ⟨a2, e2, rfl, w2⟩ := DataW.trod_int Tryz.underlying3 hy2
  obtain ⟨a3, e3, rfl, w3⟩ := DataW.trod_int Tryz.underlying3 hy3
  simp at e0 e1 e2 e3
  subst e0 e1 e2 e3
  have hmd : -128 ≤ md ∧ md ≤ 127 := by simpa [Lit.wf, IntKind.min, IntKind.max, IntKind.signed, IntKind.bits] using wmd
  have hx : -9223372036854775808 ≤ x ∧ x ≤ 9223372036854775807 := by simpa [Lit.wf, IntKind.min, IntKind.max, IntKind.signed, IntKind.bits] using wx
  refine (law_any t md x more a0 a1 a2 a3 hmd hx W).mono fun e W' ⟨he, hb⟩ => ?_
  subst he
  exact ⟨_, rfl, law_post rfl rfl hW' rfl rfl rfl (by kernel_rfl) hb⟩

theorem measureText_said : Rows.MeasureTextSaid :=
  OpenClaim.holds_of_wide 4 Tryz.f4 rfl rfl rfl rfl rfl rfl rfl ⟨rfl, rfl, rfl, rfl, rfl⟩ rfl rfl rfl rfl rfl (by kernel_rfl) Tryz.func4 (by kernel_rfl)
    (of_decide_eq_true (by kernel_rfl)) (by unfold Func.isWrapper; rw [if_neg (of_decide_eq_false (by kernel_rfl))]; exact ⟨rfl, rfl⟩)
    (fun os started H enc _ => measureText_lifted os started H enc)

theorem measureText_holds : Rows.MeasureTextCardSaid :=
  Claim7.holds_tied_plain_at .later [] [.data, .pinned] true (true, "cb0440429f8902b7f006218743c7167598d43f358285532b4f7d91aa2554435b") false
    measureText_said (fun _ h => by cases h) (by kernel_rfl) (fun _ h => by cases h) measureText_row_tie rfl ⟨rfl, rfl⟩ (by kernel_rfl) rfl
    (fun f fn hf hfn => by
      obtain rfl : f = 4 := Option.some.inj ((show Tryz.prog.funcNamed "fresco/frescolaw15.MeasureText" = some 4 by kernel_rfl).symm.trans hf) |>.symm
      obtain rfl : fn = Tryz.f4 := (Option.some.inj (Tryz.func4.symm.trans hfn)).symm
      exact ⟨by kernel_rfl, fun j t ht => by
        rw [Tryz.params4] at ht
        have hm : t ∈ [9, 36, 3, 3, 37] := by simpa using Array.mem_of_getElem? ht
        have hall : ([9, 36, 3, 3, 37].all fun u => !Tryz.prog.wantsStandIn u) = true := by kernel_rfl
        exact (show Tryz.prog.wantsStandIn t = false by simpa using List.all_eq_true.1 hall t hm)⟩)
    (by kernel_rfl)
#print axioms measureText_holds
end Go.Proofs.YthhomflonpjbmaaGreatDoor
