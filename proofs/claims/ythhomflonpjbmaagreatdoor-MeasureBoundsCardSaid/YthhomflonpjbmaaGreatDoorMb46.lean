/-
 MeasureBounds: whatever the tree and the questions: the law answers true: every width and height that a measure tells lies from 0 to 4096, and two measures of one tree, asked in other orders, tell the same; what may not be is no measure. No condition of my own; as the row says, the variables unicode/utf8.acceptRanges and unicode/utf8.first hold what the program's text lays (the card ties them).
-/
import Derived.Test.YthhomflonpjbmaaGreatDoorMb00
import Derived.Test.YthhomflonpjbmaaGreatDoorMb45
import Derived.Test.YthhomflonpjbmaaGreatDoorTie
import Derived.Test.YthhomflonpjbmaaGreatDoorCards
import Derived.Laws.IdiomArrays
import Derived.Lay
import Derived.LaidMore
import Derived.MakeChecks
import Derived.SevenTiedAt
import Derived.Stop.Joined
set_option linter.unusedVariables false
set_option linter.unusedSimpArgs false
namespace Go.Proofs.YthhomflonpjbmaaGreatDoor
open Go.ChangeShapes Go.WideShapes Go.ChangeAt Go.RowKit Go.Joins
theorem cellsTree : Tryz.prog.cellsOf 24 = 1:=by kernel_rfl
theorem cellsNodes : Tryz.prog.cellsOf 22 = 1:=by kernel_rfl
set_option maxRecDepth 100000 in
theorem measureBounds_lifted (os : Os) (started : os.Started) (H : Type) (enc : TypeId × Value→H) :
  ReturnsInHanded {} Tryz.checked os 3 .any (fun w args=>(Rows.measureBoundsSpec.pre enc Tryz.prog Tryz.f3 [] false w args∧laidMetH Tryz.prog Rows.measureBoundsRow.laid w)∧sizedMet enc Tryz.prog Tryz.f3 (OpenSpec.ofChange Rows.measureBoundsSpec) false w args)
   (Rows.measureBoundsSpec.post enc Tryz.prog Tryz.f3 false true false false):=by
 refine returnsInHanded_of_change_and (C:=Tryz.checked) (X:=fun w _=>laidMetH Tryz.prog Rows.measureBoundsRow.laid w) (fun _ _ _ hh h=>h.of_heap hh) Tryz.own started (by kernel_rfl) Tryz.func3
  (ChangeSpec.witness_shaped (enc:=enc) (C:=Tryz.checked) (os:=os) (X:=fun w _=>laidMetH Tryz.prog Rows.measureBoundsRow.laid w) false (World.laidAll Tryz.prog os Rows.measureBoundsRow.laid) #[.agg #[.slice none 0 0],.slice none 0 0] 8 (World.laidAll_os _ _ _)
   (World.shaped_of_ZipB (by kernel_rfl) (by kernel_rfl)) (by kernel_rfl) (by kernel_rfl) (by kernel_rfl)
   (by rw [MakeChecks.laidMetH_plain _ _ _ (by kernel_rfl)];exact laidMet_laidAll _ (by kernel_rfl) (by kernel_rfl))) ?_
 intro W base args ds gs before hval0 hW _ hsz0 _ _
 have hval : ∀ (j : Nat) t v,Tryz.f3.params[j]? = some t→args[j]? = some v→Value.okWide Tryz.prog W .any base t v:=hval0
 have hsz : (DataW.weightsEach Tryz.prog (Tryz.f3.params.toList ++ Rows.measureBoundsSpec.plain.varTypes Tryz.prog) (ds ++ gs)).all (·≤reachBytes) = true:=hsz0
 have hW':=hW
 obtain ⟨p,q,hA0,hV,rfl,hfz,hnd⟩:=hW
 have hA : DataW.TrodAll enc Tryz.prog W 0 (fun _=>true) true Tryz.f3.params.toList args.toList ds p:=hA0
 rw [Tryz.params3] at hA hval hsz
 obtain ⟨v0,vs0,d0,ds0,p0,q0,hargs,rfl,rfl,h0,r0⟩:=trodAll_cons hA
 obtain ⟨v1,vs1,d1,ds1,p1,q1,rfl,rfl,rfl,h1,r1⟩:=trodAll_cons r0
 obtain ⟨rfl,rfl,rfl⟩:=trodAll_nil r1
 obtain rfl : args = #[v0,v1]:=by cases args;simp_all
 obtain ⟨rfl,rfl⟩:=trodVars_none hV
 have hs0 : Sm 24 d0:=sm_arg hsz (j:=0) rfl rfl
 have hs1 : Sm 25 d1:=sm_arg hsz (j:=1) rfl rfl
 obtain ⟨cs,rfl,hcz,_⟩ : ∃ cs,v0 = .agg cs∧cs.size = Tryz.prog.cellsOf 24∧Row.okWide Tryz.prog W .any base 24 cs:=by
  have:=hval 0 24 v0 rfl rfl
  simpa [Value.okWide,Tryz.underlying24] using this
 rw [cellsTree] at hcz
 obtain ⟨l⟩:=cs
 obtain ⟨c0,t0,e0,ht0⟩:=consOf (l:=l) hcz
 obtain rfl:=List.length_eq_zero_iff.1 ht0
 subst e0
 obtain ⟨fuel,hf⟩:=h0
 obtain ⟨y0,n0,hx0,_,hy0⟩:=trod_struct1 Tryz.underlying24 hf
 have hy1 : DataW.trod enc Tryz.prog W 0 (fun _=>true) true n0 22 [c0] = some y0 :=
  (congrArg (fun q=>DataW.trod enc Tryz.prog W 0 (fun _=>true) true n0 22 (([c0].drop 0).take q)) cellsNodes.symm).trans hy0
 have hd0 : d0 = .agg [y0.1]:=congrArg Prod.fst hx0
 have hsy : Sm 22 y0.1:=sm_field Tryz.underlying24 (by rw [hd0] at hs0;exact hs0) (i:=0) rfl rfl
 obtain ⟨ns,pn,cn,rfl,hnl,hT,h8,hz⟩:=open_tree hy1 hsy
 obtain ⟨a1,l1,c1,rfl⟩:=okWide_slice Tryz.underlying25 (hval 1 25 v1 rfl rfl)
 obtain ⟨fuel1,hf1⟩:=h1
 obtain ⟨asks,hask⟩:=open_pairs hf1 hs1
 refine (bounds_any W pn cn ns _ asks hT hnl h8 hz hask).mono fun e W' ⟨he,hb⟩=>?_
 subst he
 exact ⟨_,rfl,law_post rfl rfl hW' rfl rfl rfl (by kernel_rfl) hb⟩
theorem measureBounds_said : Rows.MeasureBoundsSaid :=
 OpenClaim.holds_of_wide 3 Tryz.f3 rfl rfl rfl rfl rfl rfl rfl ⟨rfl,rfl,rfl,rfl,rfl⟩ rfl rfl rfl rfl rfl (by kernel_rfl) Tryz.func3 (by kernel_rfl)
  (of_decide_eq_true (by kernel_rfl)) (by unfold Func.isWrapper;rw [if_neg (of_decide_eq_false (by kernel_rfl))];exact ⟨rfl,rfl⟩)
  (fun os started H enc _=>measureBounds_lifted os started H enc)
theorem measureBounds_holds : Rows.MeasureBoundsCardSaid :=
 Claim7.holds_tied_plain_at .later [] [.data,.pinned] true (true,"cb0440429f8902b7f006218743c7167598d43f358285532b4f7d91aa2554435b") false
  measureBounds_said (fun _ h=>by cases h) (by kernel_rfl) (fun _ h=>by cases h) measureBounds_row_tie rfl ⟨rfl,rfl⟩ (by kernel_rfl) rfl
  (fun f fn hf hfn=>by
   obtain rfl : f = 3:=Option.some.inj ((show Tryz.prog.funcNamed "fresco/frescolaw15.MeasureBounds" = some 3 by kernel_rfl).symm.trans hf) |>.symm
   obtain rfl : fn = Tryz.f3:=(Option.some.inj (Tryz.func3.symm.trans hfn)).symm
   exact ⟨by kernel_rfl,fun j t ht=>by
    rw [Tryz.params3] at ht
    have hm : t ∈ [24,25]:=by simpa using Array.mem_of_getElem? ht
    have hall : ([24,25].all fun u=>!Tryz.prog.wantsStandIn u) = true:=by kernel_rfl
    exact (show Tryz.prog.wantsStandIn t = false by simpa using List.all_eq_true.1 hall t hm)⟩)
  (by kernel_rfl)
#print axioms measureBounds_holds
end Go.Proofs.YthhomflonpjbmaaGreatDoor
