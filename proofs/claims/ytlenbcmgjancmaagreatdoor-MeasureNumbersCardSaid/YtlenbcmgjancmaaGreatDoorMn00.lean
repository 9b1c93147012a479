import Derived.Test.YtlenbcmgjancmaaGreatDoorRows
import Derived.WalkKit
import Derived.ProofKit
import Derived.OpenShut
import Derived.Laws.Cover2
import Derived.Lib.SmallJoins
set_option linter.unusedVariables false
set_option linter.unusedSimpArgs false
namespace Go.Proofs.YtlenbcmgjancmaaGreatDoor
open Go.ChangeShapes Go.WideShapes Go.ChangeAt Go.RowKit
theorem Tryz.own:ownKnob Tryz.prog.godebug=none:=by kernel_rfl
theorem Tryz.laidOut:laidOutB Tryz.prog=true:=by kernel_rfl
theorem below_trodAll {H:Type} {enc:TypeId × Value→H} {W W':World} (hb:Below W.heap.size W W'):∀ {ts:List TypeId} {vs:List Value} {ds:List (DataW H)} {ps:List MemPlace},
  (∀ t ∈ ts,Tryz.prog.readableRec t=true∧t<Tryz.prog.types.size)→DataW.TrodAll enc Tryz.prog W 0 (fun _=>true) true ts vs ds ps→DataW.TrodAll enc Tryz.prog W' 0 (fun b=>decide (b<W.heap.size)) true ts vs ds ps
 | [],[],[],_,_,h=>h
 |t :: ts,v :: vs,d :: ds,ps,hr,h=>by
  have hlt:=DataW.TrodAll.lt h
  obtain⟨p,q,h1,h2,rfl⟩:=h
  exact⟨p,q,Below.trod Tryz.laidOut (hr t (by simp)).1 (hr t (by simp)).2 h1 hb (fun x hx=>hlt x (by simp [hx])),below_trodAll hb (fun t' ht'=>hr t' (by simp [ht'])) h2,rfl⟩
 | [],_ :: _,_,_,_,h=>h.elim
 | [],[],_ :: _,_,_,h=>h.elim
 |_ :: _,[],_,_,_,h=>h.elim
 |_ :: _,_ :: _,[],_,_,h=>h.elim
theorem law_post {H:Type} {enc:TypeId × Value→H} {f:Func} {s:ChangeSpec} (hvars:s.vars=[]) (hres:f.resultTypes = #[4]) {W W':World} {args:Array Value} {ds gs:List (DataW H)} {before:List MemPlace}
  (hW:DataW.Whole enc Tryz.prog f.params.toList s.vars false W args.toList ds gs before) (hr:(s.fn H (ds ++ gs)).results=[.lit (.bool true)]) (ha:(s.fn H (ds ++ gs)).args=ds) (hv:(s.fn H (ds ++ gs)).vars=[])
  (hread:f.params.toList.all (fun t=>Tryz.prog.readableRec t && decide (t<Tryz.prog.types.size))=true) (hb:Below W.heap.size W W'):s.post enc Tryz.prog f false true false false W args (.bool true) W':=by
 have hW':=hW
 obtain⟨p,q,hA,hV,rfl,hfz,hnd⟩:=hW
 refine⟨ds,gs,_,[],p,[],hW',?_,?_,?_,hb.frame _,fun h=>by cases h⟩
 ·rw [hr,hres]
  exact trodAll_mk1 (shut_bool Tryz.underlying4 true)
 ·rw [ha]
  exact below_trodAll hb (fun t ht=>by have:=List.all_eq_true.1 hread t ht;simpa using this) hA
 ·rw [hv,hvars];rfl
end Go.Proofs.YtlenbcmgjancmaaGreatDoor
