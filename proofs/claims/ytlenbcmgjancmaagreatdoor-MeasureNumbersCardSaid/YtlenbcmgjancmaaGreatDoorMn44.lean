/-
 MeasureNumbers: whatever the tree and the width: the law answers true: a tree whose nodes are numbered in paint order may be, and each node is as wide and high as it was under its older number. No condition of my own; as the row says, the variables unicode/utf8.acceptRanges and unicode/utf8.first hold what the program's text lays (the card ties them).
-/
import Derived.Test.YtlenbcmgjancmaaGreatDoorMn00
import Derived.Test.YtlenbcmgjancmaaGreatDoorMn43
import Derived.Test.YtlenbcmgjancmaaGreatDoorTie
import Derived.Test.YtlenbcmgjancmaaGreatDoorCards
import Derived.Laws.IdiomArrays
import Derived.Lay
import Derived.LaidMore
import Derived.MakeChecks
import Derived.SevenTiedAt
import Derived.Stop.Joined
set_option linter.unusedVariables false
set_option linter.unusedSimpArgs false
namespace Go.Proofs.YtlenbcmgjancmaaGreatDoor
open Go.ChangeShapes Go.WideShapes Go.ChangeAt Go.RowKit Go.Joins
theorem cellsTree:Tryz.prog.cellsOf 24=1:=by kernel_rfl
theorem cellsNodes:Tryz.prog.cellsOf 22=1:=by kernel_rfl
set_option maxRecDepth 100000 in
theorem measureNumbers_lifted (os:Os) (started:os.Started) (H:Type) (enc:TypeId × Value→H) :
  ReturnsInHanded {} Tryz.checked os 6 .any (fun w args=>(Rows.measureNumbersSpec.pre enc Tryz.prog Tryz.f6 [] false w args∧laidMetH Tryz.prog Rows.measureNumbersRow.laid w)∧sizedMet enc Tryz.prog Tryz.f6 (OpenSpec.ofChange Rows.measureNumbersSpec) false w args)
   (Rows.measureNumbersSpec.post enc Tryz.prog Tryz.f6 false true false false):=by
 refine returnsInHanded_of_change_and (C:=Tryz.checked) (X:=fun w _=>laidMetH Tryz.prog Rows.measureNumbersRow.laid w) (fun _ _ _ hh h=>h.of_heap hh) Tryz.own started (by kernel_rfl) Tryz.func6
  (ChangeSpec.witness_shaped (enc:=enc) (C:=Tryz.checked) (os:=os) (X:=fun w _=>laidMetH Tryz.prog Rows.measureNumbersRow.laid w) false (World.laidAll Tryz.prog os Rows.measureNumbersRow.laid) #[.agg #[.slice none 0 0],.int .i64 0] 8 (World.laidAll_os _ _ _)
   (World.shaped_of_ZipB (by kernel_rfl) (by kernel_rfl)) (by kernel_rfl) (by kernel_rfl) (by kernel_rfl)
   (by rw [MakeChecks.laidMetH_plain _ _ _ (by kernel_rfl)];exact laidMet_laidAll _ (by kernel_rfl) (by kernel_rfl))) ?_
 intro W base args ds gs before hval0 hW _ hsz0 _ _
 have hval:∀ (j:Nat) t v,Tryz.f6.params[j]?=some t→args[j]?=some v→Value.okWide Tryz.prog W .any base t v:=hval0
 have hsz:(DataW.weightsEach Tryz.prog (Tryz.f6.params.toList ++ Rows.measureNumbersSpec.plain.varTypes Tryz.prog) (ds ++ gs)).all (·≤reachBytes)=true:=hsz0
 have hW':=hW
 obtain⟨p,q,hA0,hV,rfl,hfz,hnd⟩:=hW
 have hA:DataW.TrodAll enc Tryz.prog W 0 (fun _=>true) true Tryz.f6.params.toList args.toList ds p:=hA0
 rw [Tryz.params6] at hA hval hsz
 obtain⟨v0,vs0,d0,ds0,p0,q0,hargs,rfl,rfl,h0,r0⟩:=trodAll_cons hA
 obtain⟨v1,vs1,d1,ds1,p1,q1,rfl,rfl,rfl,h1,r1⟩:=trodAll_cons r0
 obtain⟨rfl,rfl,rfl⟩:=trodAll_nil r1
 obtain rfl:args = #[v0,v1]:=by cases args;simp_all
 obtain⟨rfl,rfl⟩:=trodVars_none hV
 have hs0:Sm 24 d0:=sm_arg hsz (j:=0) rfl rfl
 obtain⟨cs,rfl,hcz,_⟩:∃ cs,v0=.agg cs∧cs.size=Tryz.prog.cellsOf 24∧Row.okWide Tryz.prog W .any base 24 cs:=by
  have:=hval 0 24 v0 rfl rfl
  simpa [Value.okWide,Tryz.underlying24] using this
 rw [cellsTree] at hcz
 obtain⟨l⟩:=cs
 obtain⟨c0,t0,e0,ht0⟩:=consOf (l:=l) hcz
 obtain rfl:=List.length_eq_zero_iff.1 ht0
 subst e0
 obtain⟨fuel,hf⟩:=h0
 obtain⟨y0,n0,hx0,_,hy0⟩:=trod_struct1 Tryz.underlying24 hf
 have hy1:DataW.trod enc Tryz.prog W 0 (fun _=>true) true n0 22 [c0]=some y0 :=
  (congrArg (fun q=>DataW.trod enc Tryz.prog W 0 (fun _=>true) true n0 22 (([c0].drop 0).take q)) cellsNodes.symm).trans hy0
 have hd0:d0=.agg [y0.1]:=congrArg Prod.fst hx0
 have hsy:Sm 22 y0.1:=sm_field Tryz.underlying24 (by rw [hd0] at hs0;exact hs0) (i:=0) rfl rfl
 obtain⟨ns,pn,cn,rfl,hnl,hT,h8,hz⟩:=open_tree hy1 hsy
 obtain⟨z,rfl,rfl,rfl,hz64⟩:=open_int Tryz.underlying3 (hval 1 3 v1 rfl rfl) h1
 refine(numbers_any W pn cn ns z hT hnl h8 hz (by simpa [Lit.wf,IntKind.min,IntKind.max,IntKind.signed,IntKind.bits,I64] using hz64)).mono fun e W' ⟨he,hb⟩=>?_
 subst he
 exact⟨_,rfl,law_post rfl rfl hW' rfl rfl rfl (by kernel_rfl) hb⟩
theorem measureNumbers_said:Rows.MeasureNumbersSaid :=
 OpenClaim.holds_of_wide 6 Tryz.f6 rfl rfl rfl rfl rfl rfl rfl ⟨rfl,rfl,rfl,rfl,rfl⟩ rfl rfl rfl rfl rfl (by kernel_rfl) Tryz.func6 (by kernel_rfl)
  (of_decide_eq_true (by kernel_rfl)) (by unfold Func.isWrapper;rw [if_neg (of_decide_eq_false (by kernel_rfl))];exact⟨rfl,rfl⟩)
  (fun os started H enc _=>measureNumbers_lifted os started H enc)
theorem measureNumbers_holds:Rows.MeasureNumbersCardSaid :=
 Claim7.holds_tied_plain_at .later [] [.data,.pinned] true (true,"cb0440429f8902b7f006218743c7167598d43f358285532b4f7d91aa2554435b") false
  measureNumbers_said (fun _ h=>by cases h) (by kernel_rfl) (fun _ h=>by cases h) measureNumbers_row_tie rfl ⟨rfl,rfl⟩ (by kernel_rfl) rfl
  (fun f fn hf hfn=>by
   obtain rfl:f=6:=Option.some.inj ((show Tryz.prog.funcNamed "fresco/frescolaw15.MeasureNumbers" = some 6 by kernel_rfl).symm.trans hf) |>.symm
   obtain rfl:fn=Tryz.f6:=(Option.some.inj (Tryz.func6.symm.trans hfn)).symm
   exact⟨by kernel_rfl,fun j t ht=>by
    rw [Tryz.params6] at ht
    have hm:t ∈ [24,3]:=by simpa using Array.mem_of_getElem? ht
    have hall:([24,3].all fun u=>!Tryz.prog.wantsStandIn u)=true:=by kernel_rfl
    exact(show Tryz.prog.wantsStandIn t=false by simpa using List.all_eq_true.1 hall t hm)⟩)
  (by kernel_rfl)
#print axioms measureNumbers_holds
end Go.Proofs.YtlenbcmgjancmaaGreatDoor
