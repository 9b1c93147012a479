/- AnimStyles: at its ends a blend has the attributes of the one and of the other; a chain of two chains is the chain of all. No condition. -/
import Derived.Test.YtkgicooplgmmpaaHChain
import Derived.Test.YtkgicooplgmmpaaHSty
import Derived.Test.YtkgicooplgmmpaaSx
namespace Go.Proofs.Ytkgicooplgmmpaa
open Go.ChangeShapes Go.WideShapes Go.ChangeAt Go.RowKit Go.Joins Go.Deep

set_option maxRecDepth 100000 in
theorem animStyles_lifted (os : Os) (started : os.Started) (H : Type) (enc : TypeId × Value → H) :
    ReturnsInHanded {} Try.checked os 11 .any (Rows.animStylesSpec.pre6 enc Try.prog Try.f11 Rows.animStylesRow.domain false) (Rows.animStylesSpec.post enc Try.prog Try.f11 false true false false) := by
  refine returnsInHanded_of_change_sized (C := Try.checked) Try.own started (by kernel_rfl) Try.func11
    (ChangeSpec.witness6 (enc := enc) (C := Try.checked) false ⟨#[], #[.agg #[.int .i32 0, .int .i32 0, .int .u8 0], .agg #[.int .i32 0, .int .i32 0, .int .u8 0], .float .f64 0, .slice none 0 0, .slice none 0 0], []⟩ 8 (by kernel_rfl) (by kernel_rfl) (by kernel_rfl) (by kernel_rfl)) ?_
  intro W base args ds gs before hval0 hW _ hsz0 _
  have hval : ∀ (j : Nat) t v, Try.f11.params[j]? = some t → args[j]? = some v → Value.okWide Try.prog W .any base t v := hval0
  have hsz : (DataW.weightsEach Try.prog (Try.f11.params.toList ++ Rows.animStylesSpec.plain.varTypes Try.prog) (ds ++ gs)).all (· ≤ reachBytes) = true := hsz0
  have hW' := hW
  obtain ⟨p, q, hA0, hV, rfl, hfz, hnd⟩ := hW
  have hA : DataW.TrodAll enc Try.prog W 0 (fun _ => true) true Try.f11.params.toList args.toList ds p := hA0
  rw [Try.params11] at hA hval hsz
  obtain ⟨v0, vs0, d0, ds0, p0, q0, hargs, rfl, rfl, h0, r0⟩ := trodAll_cons hA
  obtain ⟨v1, vs1, d1, ds1, p1, q1, rfl, rfl, rfl, h1, r1⟩ := trodAll_cons r0
  obtain ⟨v2, vs2, d2, ds2, p2, q2, rfl, rfl, rfl, h2, r2⟩ := trodAll_cons r1
  obtain ⟨v3, vs3, d3, ds3, p3, q3, rfl, rfl, rfl, h3, r3⟩ := trodAll_cons r2
  obtain ⟨v4, vs4, d4, ds4, p4, q4, rfl, rfl, rfl, h4, r4⟩ := trodAll_cons r3
  obtain ⟨rfl, rfl, rfl⟩ := trodAll_nil r4
  obtain rfl : args = #[v0, v1, v2, v3, v4] := by cases args; simp_all
  obtain ⟨rfl, rfl⟩ := trodVars_none hV
  obtain ⟨af, ag, aa, rfl, a1, a2, a3⟩ := open_style (hval 0 51 v0 rfl rfl) h0
  obtain ⟨bf, bg, ba, rfl, b1, b2, b3⟩ := open_style (hval 1 51 v1 rfl rfl) h1
  obtain ⟨t, rfl, rfl, rfl, wt⟩ := open_float Try.underlying22 (hval 2 22 v2 rfl rfl) h2
  obtain ⟨ls1, hd1, hl1⟩ := open_links (hval 3 39 v3 rfl rfl) h3
  obtain ⟨ls2, hd2, hl2⟩ := open_links (hval 4 39 v4 rfl rfl) h4
  have hlen1 : ls1.length ≤ 4398046511104 := by
    rcases hd1 with rfl | ⟨es, ss, hd, he⟩
    · simp
    · have := sized_slice hsz (j := 3) (t := 39) (e := 42) rfl (by rw [hd]; rfl) Try.underlying39
      rw [bytesLink] at this
      simp only [reachBytes] at this
      omega
  have hlen2 : ls2.length ≤ 4398046511104 := by
    rcases hd2 with rfl | ⟨es, ss, hd, he⟩
    · simp
    · have := sized_slice hsz (j := 4) (t := 39) (e := 42) rfl (by rw [hd]; rfl) Try.underlying39
      rw [bytesLink] at this
      simp only [reachBytes] at this
      omega
  refine (lawStyles_any af ag aa bf bg ba t (by simpa [Lit.wf] using wt) ls1 ls2 v3 v4 W (hl1 hlen1) (hl2 hlen2) hlen1 hlen2).mono fun e W' ⟨he, hb⟩ => ?_
  subst he
  exact ⟨_, rfl, law_post rfl rfl hW' rfl rfl rfl (by kernel_rfl) hb⟩

theorem animStyles_holds : Rows.AnimStylesSaid :=
  OpenClaim.holds_of_wide 11 Try.f11 rfl rfl rfl rfl rfl rfl rfl ⟨rfl, rfl, rfl, rfl, rfl⟩ rfl rfl rfl rfl rfl (by kernel_rfl) Try.func11 (by kernel_rfl)
    (of_decide_eq_true (by kernel_rfl)) (by unfold Func.isWrapper; rw [if_neg (of_decide_eq_false (by kernel_rfl))]; exact ⟨rfl, rfl⟩)
    (fun os started H enc _ => animStyles_lifted os started H enc)
end Go.Proofs.Ytkgicooplgmmpaa
