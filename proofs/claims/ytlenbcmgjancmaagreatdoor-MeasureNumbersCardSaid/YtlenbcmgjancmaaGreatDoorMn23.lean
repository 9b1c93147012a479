import Derived.Test.YtlenbcmgjancmaaGreatDoorMn20
import Derived.Laws.MakeOwn
set_option linter.unusedVariables false
set_option linter.unusedSimpArgs false
namespace Go.Proofs.YtlenbcmgjancmaaGreatDoor
open Go.RowKit
theorem elI:ElOK 38 3 1 8 (.int .i64 0):=⟨Tryz.underlying38,by kernel_rfl,rfl,by decide,by decide⟩
theorem sli_row {W:World} {B:Nat} {v:Value} {o:List Int} (h:W.ownsRow B 3 1 v o.length (ivl o)) (hl:o.length≤17592186044416):SlI W v o:=by
 rcases h.2 with ⟨rfl,h0⟩|⟨g,cap,cur,rfl,hb,hg,hn,hc,hs,ht⟩
 ·exact⟨none,0,by rw [h0],hl,fun i x hi=>by obtain⟨h1,_⟩:=List.getElem?_eq_some_iff.1 hi;omega⟩
 ·refine⟨some ⟨g,0,none⟩,cap,rfl,hl,fun i x hi=>⟨g,0,rfl,(Array.getElem?_eq_some_iff.1 hg).1,?_⟩⟩
  have h1:i<o.length:=(List.getElem?_eq_some_iff.1 hi).1
  have:=World.ownsRow.cellAt h i (by omega)
  rw [Nat.zero_add,this]
  simp [hi]
structure FM (W0:World) (lb sb:Nat) (l:List Itm) (sz:List Int) (vo:Value) (o:List Int) (W:World):Prop where
 it:∀ (i:Nat) x,l[i]?=some x→ItmAt W lb (i*5) x
 sz:ArrI W sb sz
 op:W.ownsRow W0.heap.size 3 1 vo o.length (ivl o)
 nb:sb<W0.heap.size
 nl:lb<W0.heap.size
 ne:lb ≠ sb
 g:W0.grownBy W (some sb)
section
variable {W0 W W':World} {lb sb:Nat} {l:List Itm} {sz:List Int} {vo:Value} {o:List Int}
theorem FM.below (h:FM W0 lb sb l sz vo o W) (hb:Below W.heap.size W W'):FM W0 lb sb l sz vo o W' :=
 ⟨fun i x hx=>(h.it i x hx).below hb (Nat.lt_of_lt_of_le h.nl h.g.size),h.sz.below hb,orow_belowSize h.op hb,h.nb,h.nl,h.ne,grown_trans h.g (grown_below hb)⟩
theorem FM.put (h:FM W0 lb sb l sz vo o W) (i:Nat) (x:Int):FM W0 lb sb l (sz.set i x) vo o (W.setCell ⟨sb,i,none⟩ (.int .i64 x)) :=
 ⟨fun j y hy=>(h.it j y hy).of_eq fun q=>World.cell?_of_block (heap_setCell_other W ⟨sb,i,none⟩ lb _ h.ne),h.sz.put i x,
  h.op.kept (grown_set W sb i _) (by
   cases hv:vo.ownBlock with
   |none=>exact .inl rfl
   |some k=>right;intro e;have:=h.op.lt k hv;have:=h.nb;simp at e;omega),h.nb,h.nl,h.ne,grown_trans h.g (grown_set W sb i _)⟩
theorem FM.app {v':Value} {x:Int} (h:FM W0 lb sb l sz vo o W) (hr:W'.ownsRow W0.heap.size 3 1 v' (o.length+1) (ivl o ++ [.int .i64 x])) (hg:W.grownBy W' vo.ownBlock):FM W0 lb sb l sz v' (o ++ [x]) W':=by
 have hlt:∀ k,vo.ownBlock=some k→W0.heap.size≤k:=fun k hk=>(h.op.lt k hk).1
 refine⟨fun i y hy=>(h.it i y hy).of_eq fun q=>World.cell?_of_block (hg.block lb (Nat.lt_of_lt_of_le h.nl h.g.size) fun e=>by have:=hlt lb e.symm;have:=h.nl;omega),h.sz.grown hg (fun e=>by have:=hlt sb e.symm;have:=h.nb;omega),by simpa [ivl] using hr,h.nb,h.nl,h.ne,?_⟩
 exact⟨hg.os.trans h.g.os,hg.tape.trans h.g.tape,hg.output.trans h.g.output,Nat.le_trans h.g.size hg.size,fun i hi hn=>by rw [hg.block i (Nat.lt_of_lt_of_le hi h.g.size) (fun e=>by have:=hlt i e.symm;omega)];exact h.g.block i hi hn⟩
theorem FM.sl (h:FM W0 lb sb l sz vo o W) (hl:o.length≤17592186044416):SlI W vo o:=sli_row h.op hl
theorem FM.form (h:FM W0 lb sb l sz vo o W):∃ p c,vo=.slice p o.length c:=by
 rcases h.op.2 with ⟨rfl,h0⟩|⟨g,cap,cur,rfl,_⟩
 ·exact⟨none,0,by rw [h0]⟩
 ·exact⟨_,cap,rfl⟩
theorem FM.at {p:Option Addr} {n c:Nat} (h:FM W0 lb sb l sz (.slice p n c) o W) {i:Nat} {x:Int} (hi:o[i]?=some x):∃ g,p=some ⟨g,0,none⟩∧g<W.heap.size∧W0.heap.size≤g∧W.cell? ⟨g,i,none⟩=some (.int .i64 x):=by
 have h1:i<o.length:=(List.getElem?_eq_some_iff.1 hi).1
 rcases h.op.2 with ⟨_,h0⟩|⟨g,cap,cur,hv,hb,hg,_⟩
 ·omega
 ·obtain⟨rfl,rfl,rfl⟩:p=some ⟨g,0,none⟩∧n=o.length∧c=cap:=by simpa using hv
  refine⟨g,rfl,(Array.getElem?_eq_some_iff.1 hg).1,hb,?_⟩
  rw [World.ownsRow.cellAt h.op i (by omega)]
  simp [hi]
def slen:Value→Nat
 | .slice _ n _=>n
 |_=>0
theorem FM.start {c:Value} (hit:∀ (i:Nat) x,l[i]?=some x→ItmAt W lb (i*5) x) (hsz:ArrI W sb sz) (h1:lb<W.heap.size) (h2:lb ≠ sb):FM W lb sb l sz (.slice none 0 0) [] W :=
 ⟨hit,hsz,World.ownsRow_nil _ _ _ _,hsz.lt,h1,h2,World.grownBy.refl _ _⟩
end
theorem bound_agg (y:Itm) (W:World):Calls Tryz.prog 158 #[.agg #[.int .i8 y.k,.int .i64 y.n,.int .i64 y.d,.int .i64 y.mn,.int .i64 y.mx]] W (VBel (.int .i64 (boundS y)) W):=bound_any y W
theorem sumF_take_succ {α:Type} {f:α→Int} {l:List α} {a:Nat} {x:α} (h:l[a]?=some x):sumF f (l.take (a+1))=sumF f (l.take a)+f x:=by
 obtain⟨h1,rfl⟩:=List.getElem?_eq_some_iff.1 h
 rw [List.take_succ_eq_append_getElem h1,sumF_append]
 simp [sumF]
theorem sumF_take_range {α:Type} {f:α→Int} {l:List α} {B:Int} (h:∀ x ∈ l,0≤f x∧f x≤B) (hB:0≤B) (a:Nat) (hl:l.length≤4096):0≤sumF f (l.take a)∧sumF f (l.take a)≤B*4096:=by
 have:=sumF_range (l:=l.take a) fun x hx=>h x (List.mem_of_mem_take hx)
 refine⟨this.1,Int.le_trans this.2 (Int.mul_le_mul_of_nonneg_left ?_ hB)⟩
 have h2:(l.take a).length≤4096:=by rw [List.length_take];omega
 omega
theorem FM.grow {W0 W W':World} {lb sb q:Nat} {l:List Itm} {sz:List Int} {vo:Value} {o:List Int} (h:FM W0 lb sb l sz vo o W) (hg:W.grownBy W' (some q)) (hq:W0.heap.size≤q) (hne:vo.ownBlock ≠ some q):FM W0 lb sb l sz vo o W':=by
 have h1:=h.nl
 have h2:=h.nb
 refine⟨fun i y hy=>(h.it i y hy).of_eq fun r=>World.cell?_of_block (hg.block lb (Nat.lt_of_lt_of_le h.nl h.g.size) fun e=>by simp at e;omega),h.sz.grown hg (fun e=>by simp at e;omega),h.op.kept hg (.inr hne),h.nb,h.nl,h.ne,?_⟩
 exact⟨hg.os.trans h.g.os,hg.tape.trans h.g.tape,hg.output.trans h.g.output,Nat.le_trans h.g.size hg.size,fun i hi hn=>by rw [hg.block i (Nat.lt_of_lt_of_le hi h.g.size) (fun e=>by simp at e;omega)];exact h.g.block i hi hn⟩
theorem rounds_step {l:List Itm} {f:Nat} {s:GS} {A B:Int} {R:RS} (h0:s.opn ≠ []) (hA:sumF (aboveF l s.rest s.weight) s.opn=A) (hB:sumF (belowF l s.rest s.weight) s.opn=B) (hz:¬ (A=0∧B=0)) (hR:roundS l s.rest s.weight A B s.opn ⟨[],s.rest,s.weight,s.sz⟩=R) :
  rounds l (f+1) s=rounds l f ⟨R.stay,R.left,R.heavy,R.sz⟩:=by
 subst hA hB hR
 simp only [rounds]
 rw [if_neg h0,if_neg hz]
theorem round_next {l:List Itm} (hl:∀ x ∈ l,FItm x) {s:GS} (h:FI l s) {A B:Int} {R:RS} (hA:sumF (aboveF l s.rest s.weight) s.opn=A) (hB:sumF (belowF l s.rest s.weight) s.opn=B) (hz:¬ (A=0∧B=0)) (hR:roundS l s.rest s.weight A B s.opn ⟨[],s.rest,s.weight,s.sz⟩=R) :
  FI l ⟨R.stay,R.left,R.heavy,R.sz⟩∧R.stay.length<s.opn.length:=by
 subst hA hB hR
 exact round_inv hl h hz
theorem round_up {l:List Itm} {rest weight a b:Int} {s:RS} {i:Nat} {y:Itm} (hy:gi l (i:Int)=y) (h:b≤a∧weight*boundS y≤rest*y.n):round1 l rest weight a b s i=⟨s.stay,s.left - y.mx,s.heavy - y.n,s.sz.set i y.mx⟩:=by
 unfold round1
 rw [if_pos (by unfold isUp;rw [hy];exact h),hy]
 simp
theorem round_dn {l:List Itm} {rest weight a b:Int} {s:RS} {i:Nat} {y:Itm} (hy:gi l (i:Int)=y) (h:¬ (b≤a∧weight*boundS y≤rest*y.n)) (h2:a≤b∧rest*y.n≤weight*y.mn):round1 l rest weight a b s i=⟨s.stay,s.left - y.mn,s.heavy - y.n,s.sz.set i y.mn⟩:=by
 unfold round1
 rw [if_neg (by unfold isUp;rw [hy];exact h),if_pos (by unfold isDn;rw [hy];exact h2),hy]
 simp
theorem round_no {l:List Itm} {rest weight a b:Int} {s:RS} {i:Nat} {y:Itm} (hy:gi l (i:Int)=y) (h:¬ (b≤a∧weight*boundS y≤rest*y.n)) (h2:¬ (a≤b∧rest*y.n≤weight*y.mn)):round1 l rest weight a b s i={ s with stay:=s.stay ++ [(i:Int)] }:=by
 unfold round1
 rw [if_neg (by unfold isUp;rw [hy];exact h),if_neg (by unfold isDn;rw [hy];exact h2)]
theorem roundS_drop {l:List Itm} {rest weight a b:Int} {o:List Int} {k:Nat} {x:Int} {s:RS} (h:o[k]?=some x):roundS l rest weight a b (o.drop k) s=roundS l rest weight a b (o.drop (k+1)) (round1 l rest weight a b s x):=by
 obtain⟨h1,rfl⟩:=List.getElem?_eq_some_iff.1 h
 rw [List.drop_eq_getElem_cons h1]
 rfl
structure ST (W0:World) (lb sb:Nat) (l:List Itm) (sz:List Int) (vs:Value) (stay:List Int) (p:Option Addr) (opn:List Int) (W:World):Prop where
 m:FM W0 lb sb l sz vs stay W
 r:∀ (i:Nat) x,opn[i]?=some x→∃ g,p=some ⟨g,0,none⟩∧g<W.heap.size∧W0.heap.size≤g∧W.cell? ⟨g,i,none⟩=some (.int .i64 x)∧some g ≠ vs.ownBlock
section
variable {W0 W W':World} {lb sb:Nat} {l:List Itm} {sz:List Int} {vs:Value} {stay opn:List Int} {p:Option Addr}
theorem ST.below (h:ST W0 lb sb l sz vs stay p opn W) (hb:Below W.heap.size W W'):ST W0 lb sb l sz vs stay p opn W' :=
 ⟨h.m.below hb,fun i x hx=>by
  obtain⟨g,e,hg,h0,hc,hn⟩:=h.r i x hx
  exact⟨g,e,Nat.lt_of_lt_of_le hg hb.size,h0,by rw [hb.cell (p:=⟨g,i,none⟩) hg];exact hc,hn⟩⟩
theorem ST.put (h:ST W0 lb sb l sz vs stay p opn W) (i:Nat) (x:Int):ST W0 lb sb l (sz.set i x) vs stay p opn (W.setCell ⟨sb,i,none⟩ (.int .i64 x)) :=
 ⟨h.m.put i x,fun j y hy=>by
  obtain⟨g,e,hg,h0,hc,hn⟩:=h.r j y hy
  exact⟨g,e,by simpa using hg,h0,(grown_set W sb i _).cell hc (by have:=h.m.nb;simp;omega),hn⟩⟩
theorem ST.app {v':Value} {x:Int} (h:ST W0 lb sb l sz vs stay p opn W) (hr:W'.ownsRow W0.heap.size 3 1 v' (stay.length+1) (ivl stay ++ [.int .i64 x])) (hg:W.grownBy W' vs.ownBlock) (hp:v'.ownBlock=vs.ownBlock∨∃ q,v'.ownBlock=some q∧∀ g,p=some ⟨g,0,none⟩→g ≠ q):ST W0 lb sb l sz v' (stay ++ [x]) p opn W' :=
 ⟨h.m.app hr hg,fun j y hy=>by
  obtain⟨g,e,hgs,h0,hc,hn⟩:=h.r j y hy
  refine⟨g,e,Nat.lt_of_lt_of_le hgs hg.size,h0,hg.cell hc (by simpa using hn),?_⟩
  rcases hp with hp|⟨q,hq,hne⟩
  ·rw [hp];exact hn
  ·rw [hq];simpa using hne g e⟩
theorem ST.start {n c:Nat} (h:FM W0 lb sb l sz (.slice p n c) opn W):ST W0 lb sb l sz (.slice none 0 0) [] p opn W :=
 ⟨⟨h.it,h.sz,World.ownsRow_nil _ _ _ _,h.nb,h.nl,h.ne,h.g⟩,fun i x hx=>by
  obtain⟨g,e,hg,h0,hc⟩:=h.at hx
  exact⟨g,e,hg,h0,hc,by simp [Value.ownBlock]⟩⟩
end
theorem fill0_ok {l:List Itm} (hl:∀ x ∈ l,FItm x) {sz:List Int} (hz:SzOk l.length sz) (room:Int):∀ k,k≤l.length→
  (fill0 l sz room k).rest≤room∧room - 4096*k≤(fill0 l sz room k).rest∧0≤(fill0 l sz room k).weight∧(fill0 l sz room k).weight≤1000*k∧0≤(fill0 l sz room k).most∧(fill0 l sz room k).most≤4096*k∧
   (fill0 l sz room k).opn.length≤k∧(∀ i ∈ (fill0 l sz room k).opn,0≤i∧i<k∧(gi l i).k=3)
 | 0,_=>by simp [fill0]
 |k+1,hk=>by
  obtain⟨h1,h2,h3,h4,h5,h6,h7,h8⟩:=fill0_ok hl hz room k (by omega)
  have hx:=hl _ (gd_mem (l:=l) (i:=k) (by omega))
  have hs:=hz.2 _ (gd_mem (l:=sz) (i:=k) (by rw [hz.1];omega))
  have e1:(fill0 l sz room (k+1))=fill1 l sz k (fill0 l sz room k):=rfl
  rw [e1]
  unfold fill1
  by_cases hk3:(gd l k).k=3
  ·have hn:=hx.2.2.2.2.2 hk3
   have hm1:=hx.2.2.1
   have hm2:=hx.2.2.2.1
   simp only [hk3,if_true]
   refine⟨h1,by push_cast;omega,by omega,by push_cast;omega,by omega,by push_cast;omega,by simp;omega,fun i hi=>?_⟩
   rcases List.mem_append.1 hi with hi|hi
   ·have:=h8 i hi;push_cast;exact⟨by omega,by omega,this.2.2⟩
   ·simp at hi
    subst hi
    exact⟨by omega,by push_cast;omega,by simpa [gi] using hk3⟩
  ·simp only [if_neg hk3]
   refine⟨by omega,by push_cast;omega,h3,by push_cast;omega,h5,by push_cast;omega,by omega,fun i hi=>?_⟩
   have:=h8 i hi;push_cast;exact⟨by omega,by omega,this.2.2⟩
end Go.Proofs.YtlenbcmgjancmaaGreatDoor
namespace Go.Proofs.YtlenbcmgjancmaaGreatDoor
open Go.RowKit
def it5 (x:Itm):List Value:=[.int .i8 x.k,.int .i64 x.n,.int .i64 x.d,.int .i64 x.mn,.int .i64 x.mx]
def itL (l:List Itm):List Value:=l.flatMap it5
theorem itL_len (l:List Itm):(itL l).length=l.length*5:=by
 induction l with
 |nil=>rfl
 |cons t ts ih=>simp only [itL,List.flatMap_cons,List.length_append,List.length_cons] at ih ⊢;simp [it5] at ih ⊢;omega
theorem itL_get:∀ (ts:List Itm) (r:List Value) (i j:Nat) (t:Itm),ts[i]?=some t→j<5→(itL ts ++ r)[i*5+j]?=(it5 t)[j]?
 | [],r,i,j,t,h,_=>by simp at h
 |s :: ts,r,i,j,t,h,hj=>by
  have hc:(it5 s).length=5:=rfl
  show ((it5 s ++ itL ts) ++ r)[i*5+j]?=(it5 t)[j]?
  rw [List.append_assoc]
  cases i with
  |zero=>
   simp at h
   subst h
   rw [List.getElem?_append_left (by rw [hc];omega)];simp
  |succ i=>
   rw [List.getElem?_append_right (by rw [hc];omega),hc,show (i+1)*5+j - 5=i*5+j by omega]
   exact itL_get ts r i j t (by simpa using h) hj
theorem itAt_arr {W:World} {b:Nat} {ts:List Itm} {r:List Value} {e:TypeId} (h:Arr W b (itL ts ++ r) e) {i:Nat} {t:Itm} (ht:ts[i]?=some t):ItmAt W b (i*5) t :=
 ⟨h.cell (j:=i*5) (by have:=itL_get ts r i 0 t ht (by omega);rw [Nat.add_zero] at this;rw [this];rfl),h.cell (by rw [itL_get ts r i 1 t ht (by omega)];rfl),h.cell (by rw [itL_get ts r i 2 t ht (by omega)];rfl),h.cell (by rw [itL_get ts r i 3 t ht (by omega)];rfl),h.cell (by rw [itL_get ts r i 4 t ht (by omega)];rfl)⟩
theorem itL_put {n k:Nat} {ts:List Itm} {l:List Value} (y:Itm) (ht:ts.length=k) (hl:l.length=(n - k)*5) (hk:k<n):∃ l',l'.length=(n - (k+1))*5∧
  ((((((itL ts ++ l).set (k*5) (.int .i8 y.k)).set (k*5+1) (.int .i64 y.n)).set (k*5+2) (.int .i64 y.d)).set (k*5+3) (.int .i64 y.mn)).set (k*5+4) (.int .i64 y.mx))=itL (ts ++ [y]) ++ l'∧
  ∀ j,j<5→∃ v,(itL ts ++ l)[k*5+j]?=some v:=by
 have hL:(itL ts).length=k*5:=by rw [itL_len,ht]
 match l,hl with
 |a :: b :: c :: d :: e :: l',hl=>
  simp at hl
  refine⟨l',by omega,?_,fun j hj=>?_⟩
  ·rw [List.set_append_right _ _ (by omega),List.set_append_right _ _ (by omega),List.set_append_right _ _ (by omega),List.set_append_right _ _ (by omega),List.set_append_right _ _ (by omega),hL]
   rw [Nat.sub_self,show k*5+1 - k*5=1 by omega,show k*5+2 - k*5=2 by omega,show k*5+3 - k*5=3 by omega,show k*5+4 - k*5=4 by omega]
   simp [itL,it5]
  ·rw [List.getElem?_append_right (by omega),hL,show k*5+j - k*5=j by omega]
   exact⟨_,List.getElem?_eq_getElem (by simp;omega)⟩
 | [],hl=>simp at hl;omega
 | [_],hl=>simp at hl;omega
 | [_,_],hl=>simp at hl;omega
 | [_,_,_],hl=>simp at hl;omega
 | [_,_,_,_],hl=>simp at hl;omega
theorem mk_itemsU (N:Nat) (hN:N≤1000000) (w:World):∃ l:List Value,l.length=N*5∧(Instr.makeSlice 44 (.int .i64 N) (.int .i64 N)).run Tryz.prog w=.ok (.slice (some ⟨w.heap.size,0,none⟩) N N) (w.alloc (.cells l.toArray 40)):=by
 obtain⟨i0,hi,hz0,hz1,hz2⟩:=info_parts (P:=Tryz.prog) (show (Tryz.prog.info? 40).map (fun i=>(i.zero,i.size,i.bytes))=some (some (.agg #[.int .i8 0,.int .i64 0,.int .i64 0,.int .i64 0,.int .i64 0]),5,40) by kernel_rfl)
 have:=run_make (P:=Tryz.prog) w 44 40 i0 _ Tryz.underlying44 hi hz0 .i64 .i64 N N (by omega) (Int.le_refl _) (by rw [hz2];omega) (by omega)
 rw [hz1] at this
 refine⟨(madeCells _ ((N:Int).toNat*5)).toList,?_,by simpa using this⟩
 rw [Array.length_toList,size_madeCells];simp
noncomputable def minsN (its:List Itm):List Int:=its.map fun x=>(normI x).mn
noncomputable def wantsN (room:Int) (its:List Itm):List Int:=its.map fun x=>wantS room (normI x)
noncomputable def overN (room:Int) (its:List Itm):List Int:=its.map fun x=>wantS room (normI x) - (normI x).mn
structure SS (W:World) (lb mb wb ob n:Nat) (its:List Itm) (room:Int) (k:Nat) (w:World):Prop where
 li:∃ r:List Value,r.length=(n - k)*5∧Arr w lb (itL ((its.map normI).take k) ++ r) 40
 mi:ArrI w mb (part (minsN its) k)
 wa:ArrI w wb (part (wantsN room its) k)
 ov:ArrI w ob (part (overN room its) k)
 nl:W.heap.size≤lb
 nm:W.heap.size≤mb
 nw:W.heap.size≤wb
 no:W.heap.size≤ob
 e1:lb ≠ mb
 e2:lb ≠ wb
 e3:lb ≠ ob
 e4:mb ≠ wb
 e5:mb ≠ ob
 e6:wb ≠ ob
 g:Below W.heap.size W w
theorem want_range {x:Itm} {room:Int} (h:0≤room∧room≤4096):0≤(normI x).mn∧(normI x).mn≤4096∧(normI x).mn≤wantS room (normI x)∧wantS room (normI x)≤4096000:=by
 have hf:=normI_fitm x
 obtain⟨f1,f2,f3,f4,f5,f6⟩:=hf
 have hk:(normI x).k=2→0≤(normI x).n∧(normI x).n≤1000∧1≤(normI x).d:=fun q=>by
  unfold normI at q ⊢
  split
  ·rename_i ho
   rw [if_pos ho] at q
   have h4:=ho.2.2.2
   omega
  ·rename_i ho
   rw [if_neg ho] at q
   simp at q
 have hn:(normI x).k ≠ 2→(normI x).k ≠ 3→(normI x).n≤4096:=fun q1 q2=>by
  unfold normI at q1 q2 ⊢
  split
  ·rename_i ho
   rw [if_pos ho] at q1 q2
   have h4:=ho.2.2.2
   omega
  ·simp
 refine⟨f1,f2,?_⟩
 generalize normI x=y at *
 unfold wantS intoS
 by_cases h2:y.k=2
 ·obtain⟨k1,k2,k3⟩:=hk h2
  have hm:0≤y.n*room∧y.n*room≤4096000:=⟨Int.mul_nonneg k1 h.1,by
   have:=Int.mul_le_mul k2 h.2 h.1 (by omega)
   omega⟩
  have hd:y.n*room / y.d≤4096000:=Int.le_trans (Int.ediv_le_self _ hm.1) hm.2
  simp only [h2,if_true]
  split
  ·have:=f5 (by assumption);omega
  ·omega
 ·by_cases h3:y.k=3
  ·simp only [h3]
   simp
   omega
  ·have:=hn h2 h3
   simp only [h2,h3,if_false]
   split
   ·have:=f5 (by assumption);omega
   ·omega
end Go.Proofs.YtlenbcmgjancmaaGreatDoor
namespace Go.Proofs.YtlenbcmgjancmaaGreatDoor
open Go.RowKit
set_option maxRecDepth 100000 in
set_option maxHeartbeats 8000000 in
theorem fill_any {W:World} {lb sb lc sc:Nat} {l:List Itm} {sz:List Int} (hit:∀ (i:Nat) x,l[i]?=some x→ItmAt W lb (i*5) x) (hsz:ArrI W sb sz) (h1:lb<W.heap.size) (h2:lb ≠ sb) (hl:∀ x ∈ l,FItm x) (hz:SzOk l.length sz) (n:Nat) (hn:l.length=n) (hn2:n≤4096) (room:Int) (hr:0≤room∧room≤4096)
  (hmin:sumF (fun i=>(gi l i).mn) (fill0 l sz room l.length).opn≤(fill0 l sz room l.length).rest) :
  Calls Tryz.prog 130 #[.slice (some ⟨lb,0,none⟩) n lc,.slice (some ⟨sb,0,none⟩) n sc,.int .i64 room] W (fun e W'=>e=.returned (.tuple #[])∧ArrI W' sb (fillS l sz room)∧W.grownBy W' (some sb)):=by
 have HM0:=zH (FM.start (c:=undef) hit hsz h1 h2)
 have HL:=zH hl
 have HZ:=zH hz
 have HMIN:=zH hmin
 have HN:=zH hn
 have H0:=zH (fill0_ok hl hz room)
 clear hit hsz h1 h2 hl hz hmin hn
 go_enter Tryz.func130,Tryz.ntmps130
 go_wp2
 go_loopw [6,7,8,9,10,35] (fun v6 v7 v8 v9 v10 i wr=>∃ (k:Nat) (vo:Value),i=.int .i64 k∧k≤n∧v6=.int .i64 (fill0 l sz room k).rest∧v7=.int .i64 (fill0 l sz room k).weight∧v8=.int .i64 (fill0 l sz room k).most∧v10=.bool (fill0 l sz room k).bd∧vo=v9∧FM W lb sb l sz vo (fill0 l sz room k).opn wr) (fun _ _ _ _ _ i _=>n - (intOf i).toNat)
 case atStart=>exact⟨0,_,rfl,by omega,rfl,rfl,rfl,rfl,rfl,HM0.out⟩
 case round=>
  obtain⟨k,vo,rfl,hk,rfl,rfl,rfl,rfl,rfl,hM⟩:=hrel
  have HM:=zH hM
  clear hM HM0
  obtain⟨b1,b2,b3,b4,b5,b6,b7,b8⟩:=H0.out k (by have:=HN.out;omega)
  have HB8:=zH b8
  clear b8
  by_cases hlt:k<n
  ·as_aux_lemma=>
    have hltI:(k:Int)<(n:Int):=by omega
    obtain⟨x,hx⟩:∃ x,l[k]?=some x:=⟨_,List.getElem?_eq_getElem (by have:=HN.out;omega)⟩
    obtain⟨c1,c2,c3,c4,c5⟩:=HM.out.it k x hx
    have hgx:gd l k=x:=by simp [gd,hx]
    have hlb:lb<wr.heap.size:=Nat.lt_of_lt_of_le HM.out.nl HM.out.g.size
    have hF:=HL.out x (List.mem_of_getElem? hx)
    have hsk:∃ y,sz[k]?=some y:=⟨_,List.getElem?_eq_getElem (by rw [HZ.out.1];have:=HN.out;omega)⟩
    obtain⟨y,hy⟩:=hsk
    have c6:=HM.out.sz.at hy
    have hyr:=HZ.out.2 y (List.mem_of_getElem? hy)
    have hgy:gd sz k=y:=by simp [gd,hy]
    have e1:(fill0 l sz room (k+1))=fill1 l sz k (fill0 l sz room k):=rfl
    have hsb:sb<wr.heap.size:=Nat.lt_of_lt_of_le HM.out.nb HM.out.g.size
    unfold fill1 at e1
    rw [hgx,hgy] at e1
    generalize fill0 l sz room k=s at *
    obtain⟨rest,weight,most,opn,bd⟩:=s
    dsimp only at *
    obtain⟨xk,xn,xd,xmn,xmx⟩:=x
    dsimp only at *
    obtain⟨g1,g2,g3,g4,g5,g6⟩:=hF
    dsimp only at g1 g2 g3 g4 g5 g6
    by_cases h3:xk=3
    ·subst h3
     have hN:=g6 rfl
     rw [if_pos rfl] at e1
     have HE:=zH e1
     have hnopn:opn.length<1000000000000:=by omega
     have HNO:=zH hnopn
     have HMB:Hid (FM W lb sb l sz vo opn (wr.alloc (.cells #[.int .i8 3,.int .i64 xn,.int .i64 xd,.int .i64 xmn,.int .i64 xmx] 40))):=zH (HM.out.below (by(repeat (first|exact Below.refl _ _|assumption|refine below_drewN ?_ _|refine Below.drew ?_|(refine Below.alloc ?_ ?bs _;(case bs=>first|omega|(simp;done)|(simp;omega)))|(refine Below.setCell ?_ ?bs _;(case bs=>first|omega|(simp;done)|(simp;omega)))))))
     have HNE:Hid (some wr.heap.size ≠ vo.ownBlock):=zH fun e=>by have:=(HM.out.op.lt _ e.symm).2;omega
     have hB9:W.heap.size≤wr.heap.size:=HM.out.g.size
     clear e1 hx hy g5 g6 hnopn
     go_wp2_with ((with_reducible apply wpList_append_new elI (B:=W.heap.size) (n:=opn.length) (xs:=ivl opn) (nw:=#[.int .i64 (k:Int)]));exact rfl;exact rfl;(first|exact rfl|simp);exact HMB.out.op;(first|omega|(simp;omega));exact HNO.out;exact rfl;(intro u hu;simp at hu;subst hu;rfl);intro v' w9 hrow9 hgr9 hpl9 K hK;have HM9:=zH ((HMB.out.below (Below.alloc (Below.refl _ _) (Nat.le_refl _) _)).app (x:=(k:Int)) hrow9 hgr9);have d1:=hgr9.cell (a:=⟨wr.heap.size,1,none⟩) (v:=.int .i64 xn) (by go_simp) HNE.out;have d4:=hgr9.cell (a:=⟨wr.heap.size,4,none⟩) (v:=.int .i64 xmx) (by go_simp) HNE.out;clear hrow9 hgr9 hpl9)
     all_goals
      go_roundw
      case rel=>exact⟨k+1,v',by first|rfl|go_num,by omega,by rw [HE.out],by rw [HE.out],by rw [HE.out],by rw [HE.out];first|rfl|(simp;done)|(simp;omega)|(simp_all;done),rfl,by rw [HE.out];exact HM9.out⟩
      case measure=>simp [intOf]<;>omega
    ·rw [if_neg h3] at e1
     have HE:=zH e1
     have h3b:(xk == 3)=false:=by rw [beq_eq_false_iff_ne];exact h3
     have HMB:Hid (FM W lb sb l sz vo opn (wr.alloc (.cells #[.int .i8 xk,.int .i64 xn,.int .i64 xd,.int .i64 xmn,.int .i64 xmx] 40))):=zH (HM.out.below (by(repeat (first|exact Below.refl _ _|assumption|refine below_drewN ?_ _|refine Below.drew ?_|(refine Below.alloc ?_ ?bs _;(case bs=>first|omega|(simp;done)|(simp;omega)))|(refine Below.setCell ?_ ?bs _;(case bs=>first|omega|(simp;done)|(simp;omega)))))))
     clear e1 hx hy g5 g6
     go_wp2
     go_roundw
     case rel=>exact⟨k+1,vo,by first|rfl|go_num,by omega,by rw [HE.out],by rw [HE.out],by rw [HE.out],by rw [HE.out],rfl,by rw [HE.out];exact HMB.out⟩
     case measure=>simp [intOf]<;>omega
  ·have hltI:decide ((k:Int)<(n:Int))=false:=decide_eq_false (by omega)
   obtain rfl:k=n:=by omega
   obtain⟨p9,c9,rfl⟩:=HM.out.form
   have HW0:=zH (fill0_w l sz room k (by have:=HN.out;omega))
   have HFS:Hid (fillS l sz room=fillE l sz (fill0 l sz room k)):=zH (by rw [← HN.out];rfl)
   have HMIN2:Hid (sumF (fun i=>(gi l i).mn) (fill0 l sz room k).opn≤(fill0 l sz room k).rest):=zH (by have:=HMIN.out;rwa [HN.out] at this)
   clear H0 HMIN
   generalize fill0 l sz room k=s0 at *
   obtain⟨rest,weight,most,opn,bd⟩:=s0
   dsimp only at b1 b2 b3 b4 b5 b6 b7
   have HB8':Hid (∀ i ∈ opn,0≤i∧i<(l.length:Int)∧(gi l i).k=3):=zH (by rw [HN.out];exact HB8.out)
   clear HB8
   have HM1:Hid (FM W lb sb l sz (.slice p9 opn.length c9) opn wr):=zH HM.out
   clear HM
   dsimp only at HFS HW0 HMIN2 ⊢
   obtain⟨n,hkn⟩:∃ n,n=k:=⟨k,rfl⟩
   have hnl:=HN.out
   subst hkn
   clear hlt hk hnl
   by_cases hbd:bd=true∧most≤rest
   ·as_aux_lemma=>
     have hR:fillS l sz room=setMax l opn sz:=by rw [HFS.out];unfold fillE;rw [if_pos hbd]
     have HR:=zH hR
     obtain⟨rfl,hmr⟩:=hbd
     clear hR HFS HW0 HMIN2
     go_wp2
     go_loopw [76] (fun i wr=>∃ (k:Nat) (sz':List Int),i=.int .i64 k∧k≤opn.length∧FM W lb sb l sz' (.slice p9 opn.length c9) opn wr∧SzOk l.length sz'∧setMax l (opn.drop k) sz'=setMax l opn sz) (fun i _=>opn.length - (intOf i).toNat)
     case atStart=>exact⟨0,sz,rfl,by omega,HM1.out,HZ.out,rfl⟩
     case round=>
      obtain⟨k,sz',rfl,hk,hM,hZ,hS⟩:=hrel
      have HM:=zH hM
      have HZ2:=zH hZ
      have HS:=zH hS
      clear hM hZ hS HM1
      by_cases hlt:k<opn.length
      ·have hltI:(k:Int)<(opn.length:Int):=by omega
       obtain⟨x,hx⟩:∃ x,opn[k]?=some x:=⟨_,List.getElem?_eq_getElem hlt⟩
       have hxr:=HB8'.out x (List.mem_of_getElem? hx)
       obtain⟨i,rfl⟩:∃ i:Nat,x=i:=⟨x.toNat,by omega⟩
       have hnl:=HN.out
       obtain⟨g,rfl,hg,_,hc⟩:=HM.out.at hx
       obtain⟨y,hy⟩:∃ y,l[i]?=some y:=⟨_,List.getElem?_eq_getElem (by omega)⟩
       obtain⟨d1,d2,d3,d4,d5⟩:=HM.out.it i y hy
       have hF:=HL.out y (List.mem_of_getElem? hy)
       have hiN:(i:Int)<(n:Int):=by have:=HN.out;omega
       obtain⟨z,hz⟩:∃ z,sz'[i]?=some z:=⟨_,List.getElem?_eq_getElem (by rw [HZ2.out.1];omega)⟩
       have e1:=HM.out.sz.at hz
       have f1:=HM.out.sz.froz i
       have HW:=zH (HM.out.put i y.mx)
       have HZ3:=zH (HZ2.out.set i (x:=y.mx) ⟨hF.2.2.1,hF.2.2.2.1⟩)
       have HS3:Hid (setMax l (opn.drop (k+1)) (sz'.set i y.mx)=setMax l opn sz):=zH (by
        rw [← HS.out,List.drop_eq_getElem_cons hlt]
        have:opn[k]=(i:Int):=(List.getElem?_eq_some_iff.1 hx).2
        simp [setMax,this,gi,gd,hy])
       clear hx hz hy hF
       go_wp2
       go_roundw
       case rel=>exact⟨k+1,_,by first|rfl|go_num,by omega,HW.out,HZ3.out,HS3.out⟩
       case measure=>simp [intOf]<;>omega
      ·have hltI:decide ((k:Int)<(opn.length:Int))=false:=decide_eq_false (by omega)
       obtain rfl:k=opn.length:=by omega
       have HE:Hid (sz'=setMax l opn sz):=zH (by rw [← HS.out,List.drop_length];rfl)
       go_wp2
       refine bodyPost_ret (results_none rfl _ _ _) rfl ?_
       exact⟨rfl,by rw [HR.out,← HE.out];exact HM.out.sz,HM.out.g⟩
   ·have hR:fillS l sz room=tailS l (rounds l l.length ⟨opn,rest,weight,sz⟩):=by rw [HFS.out];unfold fillE;rw [if_neg hbd]
    have HR:=zH hR
    have HFI:Hid (FI l ⟨opn,rest,weight,sz⟩):=zH ⟨HB8'.out,by have:=HN.out;dsimp only;omega,HW0.out,HMIN2.out,by dsimp only;omega,HZ.out⟩
    have hcond:bd=false∨decide (most≤rest)=false:=by
     cases bd with
     |false=>exact .inl rfl
     |true=>exact .inr (decide_eq_false fun h=>hbd ⟨rfl,h⟩)
    clear hR HFS HW0 HMIN2 HB8' hbd
    go_upto_region 13 with (fail)
    go_cut [73] (fun v W'=>v=.bool false∧W'=wr)
    case first=>as_aux_lemma=>
     cases bd with
     |false=>
      go_wp2_with fail
      go_meet
      exact⟨rfl,rfl⟩
     |true=>
      have hc:decide (most≤rest)=false:=by rcases hcond with h|h;(cases h);(exact h)
      go_wp2_with fail
      go_meet
      exact⟨by simp,rfl⟩
    case rest=>
    obtain⟨rfl,hwc⟩:=hcut
    obtain rfl:=hwc.symm
    clear b1 b2 b3 b4 b5 b6 b7 hcond
    obtain⟨G,hG⟩:∃ G,rounds l l.length ⟨opn,rest,weight,sz⟩=G:=⟨_,rfl⟩
    rw [hG] at HR
    have HG:=zH hG
    clear hG
    go_upto_if 73 with (fail)
    go_cut [] (fun W'=>W'=wr)
    case first=>
     go_wp2_with fail
     go_meet
     rfl
    case rest=>
    obtain rfl:=hcut.symm
    go_step
    go_step
    go_cut [6,7,9] (fun v6 v7 v9 w2=>∃ vo,v6=.int .i64 G.rest∧v7=.int .i64 G.weight∧vo=v9∧FM W lb sb l G.sz vo G.opn w2∧FI l G)
    case rest=>as_aux_lemma=>
     obtain⟨vo,rfl,rfl,rfl,hM,hI⟩:=hcut
     obtain⟨p,c,rfl⟩:=hM.form
     obtain⟨opn1,rest1,weight1,sz1⟩:=G
     dsimp only at hM hI HR ⊢
     obtain⟨L,hL⟩:∃ L,opn1.length=L:=⟨_,rfl⟩
     have hLn:L≤n:=by have h1:opn1.length≤l.length:=hI.ol;have h2:=HN.out;omega
     rw [hL] at hM ⊢
     have HLL:=zH hL
     have HM:=zH hM
     have HI:=zH hI
     clear hM hI hL HM1 HFI HG
     have hit:∀ i ∈ opn1,∃ k:Nat,i=k∧k<n∧∃ y,l[k]?=some y∧FItm y∧gi l i=y∧1≤y.n∧y.n≤1000:=fun i hi=>by
      obtain⟨o1,o2,o3⟩:=HI.out.op i hi
      have hnl:=HN.out
      refine⟨i.toNat,by omega,by omega,l[i.toNat]'(by omega),List.getElem?_eq_getElem (by omega),HL.out _ (List.getElem_mem _),by simp [gi,gd,List.getElem?_eq_getElem (show i.toNat<l.length by omega)],?_⟩
      have hF:=HL.out (gi l i) (gi_mem ⟨o1,o2⟩)
      have:=hF.2.2.2.2.2 o3
      simpa [gi,gd,List.getElem?_eq_getElem (show i.toNat<l.length by omega)] using this
     have hrest0:0≤rest1∧rest1≤4096:=by
      refine⟨Int.le_trans (sumF_nonneg fun i hi=>?_) HI.out.rest,HI.out.rt⟩
      obtain⟨k,_,_,y,_,hF,hy,_⟩:=hit i hi
      rw [hy];exact hF.1
     have hw1:0≤weight1∧weight1≤4096000:=by
      have hw:=HI.out.w
      dsimp only at hw
      rw [hw]
      have h1:=sumF_range (f:=fun i=>(gi l i).n) (l:=opn1) (B:=1000) fun i hi=>by
       obtain⟨k,_,_,y,_,hF,hy,h3,h4⟩:=hit i hi
       rw [hy];omega
      have:=HLL.out
      omega
     have hw0:0<L→1≤weight1:=fun h0=>by
      have hw:=HI.out.w
      dsimp only at hw
      rw [hw]
      obtain⟨a,ha⟩:=List.exists_mem_of_length_pos (l:=opn1) (by rw [HLL.out];exact h0)
      have h2:=sumF_mem (f:=fun i=>(gi l i).n) (l:=opn1) (fun i hi=>by
       obtain⟨k,_,_,y,_,hF,hy,h3,h4⟩:=hit i hi
       rw [hy];omega) ha
      obtain⟨k,_,_,y,_,hF,hy,h3,h4⟩:=hit a ha
      rw [hy] at h2
      omega
     have HIT:=zH hit
     have HW0:=zH hw0
     clear hit hw0
     obtain⟨O,hO⟩:∃ O,shO l rest1 weight1 opn1=O:=⟨_,rfl⟩
     obtain⟨R,hRR⟩:∃ R,shR l rest1 weight1 opn1=R:=⟨_,rfl⟩
     have hOl:O.length=L:=by rw [← hO];simp [shO,HLL.out]
     have hRl:R.length=L:=by rw [← hRR];simp [shR,HLL.out]
     have hTS:tailS l ⟨opn1,rest1,weight1,sz1⟩=assign opn1 (if opn1=[] then [] else toppedS O R (rest1 - sumL O).toNat) sz1:=by
      unfold tailS
      dsimp only
      rw [hO,hRR]
     rw [hTS] at HR
     have HO:=zH hO
     have HRR:=zH hRR
     have HOl:=zH hOl
     have HRl:=zH hRl
     clear hO hRR hOl hRl hTS
     have hmk:=mk_ints L (by omega)
     go_upto_region 44 with (fail)
     go_cut [26,27] (fun v1 v2 W'=>∃ q1 q2:Nat,v1=.slice (some ⟨q1,0,none⟩) L L∧v2=.slice (some ⟨q2,0,none⟩) L L∧FM W lb sb l sz1 (.slice p L c) opn1 W'∧ArrI W' q1 (part O 0)∧ArrI W' q2 (part R 0)∧q1 ≠ q2∧W.heap.size≤q1∧W.heap.size≤q2∧(∀ g,p=some ⟨g,0,none⟩→g ≠ q1∧g ≠ q2))
     case first=>as_aux_lemma=>
      have HPQ:Hid (∀ g,p=some ⟨g,0,none⟩→g<wc.heap.size):=zH fun g e=>(HM.out.op.lt g (by simp [Value.ownBlock,e])).2
      have hWW:W.heap.size≤wc.heap.size:=HM.out.g.size
      have hA1:=ArrI.made wc L
      have hA2:=ArrI.made (wc.alloc (.cells (madeCells #[.int .i64 0] L) 3)) L
      rw [World.size_alloc] at hA2
      have HA1:=zH hA1
      have HA2:=zH hA2
      clear hA1 hA2
      go_region
      all_goals
       go_wp2
       go_meet
       first
        |exact⟨wc.heap.size,wc.heap.size+1,rfl,rfl,HM.out.below (by(repeat (first|exact Below.refl _ _|assumption|refine below_drewN ?_ _|refine Below.drew ?_|(refine Below.alloc ?_ ?bs _;(case bs=>first|omega|(simp;done)|(simp;omega)))|(refine Below.setCell ?_ ?bs _;(case bs=>first|omega|(simp;done)|(simp;omega)))))),by rw [part_zero,HOl.out];exact HA1.out.alloc _,by rw [part_zero,HRl.out];exact HA2.out,by omega,by omega,by omega,fun g e=>by have:=HPQ.out g e;omega⟩
        |exact⟨wc.heap.size+1,wc.heap.size,rfl,rfl,HM.out.below (by(repeat (first|exact Below.refl _ _|assumption|refine below_drewN ?_ _|refine Below.drew ?_|(refine Below.alloc ?_ ?bs _;(case bs=>first|omega|(simp;done)|(simp;omega)))|(refine Below.setCell ?_ ?bs _;(case bs=>first|omega|(simp;done)|(simp;omega)))))),by rw [part_zero,HOl.out];exact HA2.out,by rw [part_zero,HRl.out];exact HA1.out.alloc _,by omega,by omega,by omega,fun g e=>by have:=HPQ.out g e;omega⟩
     case rest=>as_aux_lemma=>
     obtain⟨q1,q2,rfl,rfl,hM,ha,hb,hne,hq1,hq2,hpq⟩:=hcut
     have HM2:=zH hM
     have HA2:=zH ha
     have HB2:=zH hb
     have hob1:(Value.slice p L c).ownBlock ≠ some q1:=by
      cases p with
      |none=>simp [Value.ownBlock]
      |some a=>
            intro e;rcases HM.out.op.2 with ⟨h,_⟩|⟨g,cap,cur,h,_⟩
            ·simp at h
            ·have h':a=⟨g,0,none⟩:=by simp at h;exact h.1
             subst h'
             exact(hpq g rfl).1 (by simpa [Value.ownBlock] using e)
     have hob2:(Value.slice p L c).ownBlock ≠ some q2:=by
      cases p with
      |none=>simp [Value.ownBlock]
      |some a=>
            intro e;rcases HM.out.op.2 with ⟨h,_⟩|⟨g,cap,cur,h,_⟩
            ·simp at h
            ·have h':a=⟨g,0,none⟩:=by simp at h;exact h.1
             subst h'
             exact(hpq g rfl).2 (by simpa [Value.ownBlock] using e)
     have HO1:=zH hob1
     have HO2:=zH hob2
     clear hM ha hb hob1 hob2 hmk HM
     go_wp2
     go_loopw [224] (fun i w3=>∃ k:Nat,i=.int .i64 k∧k≤L∧FM W lb sb l sz1 (.slice p L c) opn1 w3∧ArrI w3 q1 (part O k)∧ArrI w3 q2 (part R k)) (fun i _=>L - (intOf i).toNat)
     case atStart=>exact⟨0,rfl,by omega,HM2.out,HA2.out,HB2.out⟩
     case round=>
      obtain⟨k,rfl,hk,hM,ha,hb⟩:=hrel
      have HM:=zH hM
      have HA:=zH ha
      have HB:=zH hb
      clear hM ha hb HM2 HA2 HB2
      by_cases hlt:k<L
      ·as_aux_lemma=>
        have hltI:(k:Int)<(L:Int):=by omega
        obtain⟨x,hx⟩:∃ x,opn1[k]?=some x:=⟨_,List.getElem?_eq_getElem (by rw [HLL.out];exact hlt)⟩
        obtain⟨i,rfl,hi,y,hy,hF,hgy,hn1,hn2⟩:=HIT.out x (List.mem_of_getElem? hx)
        obtain⟨g9,rfl,hg9,_,hc⟩:=HM.out.at hx
        obtain⟨d1,d2,d3,d4,d5⟩:=HM.out.it i y hy
        have hiN:(i:Int)<(n:Int):=by omega
        have hOk:O[k]?=some (rest1*y.n / weight1):=by rw [← HO.out];simp [shO,hx,hgy]
        have hRk:R[k]?=some (rest1*y.n % weight1):=by rw [← HRR.out];simp [shR,hx,hgy]
        have hw2:=HW0.out (by omega)
        have m1:0≤rest1*y.n:=Int.mul_nonneg hrest0.1 (by omega)
        have m2:rest1*y.n≤4096*y.n:=Int.mul_le_mul_of_nonneg_right hrest0.2 (by omega)
        have c1:=HA.out.at (part_get (show k<O.length by rw [HOl.out];exact hlt))
        have c2:=HB.out.at (part_get (show k<R.length by rw [HRl.out];exact hlt))
        have f1:=HA.out.froz k
        have f2:=HB.out.froz k
        have hne2:=hne.symm
        have HPA:=zH (part_set hOk)
        have HPB:=zH (part_set hRk)
        obtain⟨X,hX⟩:∃ X,rest1*y.n=X:=⟨_,rfl⟩
        rw [hX] at m1 m2 HPA HPB
        have t1:X.tdiv weight1=X / weight1:=Int.tdiv_eq_ediv_of_nonneg m1
        have t2:X.tmod weight1=X % weight1:=Int.tmod_eq_emod_of_nonneg m1
        have u1:0≤X / weight1:=Int.ediv_nonneg m1 (by omega)
        have u2:X / weight1≤X:=Int.ediv_le_self _ m1
        have hwz:(weight1 == 0)=false:=by rw [beq_eq_false_iff_ne];omega
        have hwp:0<weight1:=by omega
        have hwn:¬ weight1=0:=by omega
        have hl1:¬ lb=q1:=by have:=HM.out.nl;omega
        have hl2:¬ q1=lb:=by have:=HM.out.nl;omega
        clear hx hy hF hgy hOk hRk
        generalize X / weight1=Q1 at *
        generalize X % weight1=Q2 at *
        go_wp2
        go_roundw
        case rel=>exact⟨k+1,by first|rfl|go_num,by omega,(HM.out.grow (grown_set _ q1 k _) hq1 HO1.out).grow (grown_set _ q2 k _) hq2 HO2.out,ArrI.to (l:=(part O k).set k Q1) (Arr.other (HA.out.put k Q1) hne _ _) HPA.out,ArrI.to (l:=(part R k).set k Q2) (ArrI.put (l:=part R k) (Arr.other HB.out hne2 _ _) k Q2) HPB.out⟩
        case measure=>simp [intOf]<;>omega
      ·have hltI:decide ((k:Int)<(L:Int))=false:=decide_eq_false (by omega)
       obtain rfl:k=L:=by omega
       have HA3:Hid (ArrI wr q1 O):=zH (HA.out.to (part_full2 HOl.out.symm))
       have HB3:Hid (ArrI wr q2 R):=zH (HB.out.to (part_full2 HRl.out.symm))
       obtain⟨OUT,hOUT⟩:∃ OUT,(if opn1=[] then [] else toppedS O R (rest1 - sumL O).toNat)=OUT:=⟨_,rfl⟩
       rw [hOUT] at HR
       have HOUT:=zH hOUT
       clear hOUT HA HB hlt hk
       go_upto_if 256 with (fail)
       go_cut [] (fun W'=>FM W lb sb l sz1 (.slice p k c) opn1 W'∧ArrI W' q1 OUT)
       case first=>as_aux_lemma=>
        by_cases h0:0<k
        ·have h0I:(0:Int)<(k:Int):=by omega
         have hw2:=HW0.out h0
         have hne0:opn1 ≠ []:=fun e=>by have:=HLL.out;simp [e] at this;omega
         have hOe:=HOUT.out
         rw [if_neg hne0] at hOe
         have HOE:=zH hOe
         have hOb:∀ x ∈ O,0≤x∧x≤4096000:=fun x hx=>by
          rw [← HO.out] at hx
          obtain⟨j,hj,rfl⟩:=List.mem_map.1 hx
          obtain⟨q,_,_,y,_,hF,hy,h3,h4⟩:=HIT.out j hj
          rw [hy]
          have m1:0≤rest1*y.n:=Int.mul_nonneg hrest0.1 (by omega)
          have m2:rest1*y.n≤4096*y.n:=Int.mul_le_mul_of_nonneg_right hrest0.2 (by omega)
          have u1:0≤rest1*y.n / weight1:=Int.ediv_nonneg m1 (by omega)
          have u2:rest1*y.n / weight1≤rest1*y.n:=Int.ediv_le_self _ m1
          omega
         have hRb:∀ x ∈ R,0≤x∧x≤1099511627776:=fun x hx=>by
          rw [← HRR.out] at hx
          obtain⟨j,hj,rfl⟩:=List.mem_map.1 hx
          have h1:=Int.emod_nonneg (rest1*(gi l j).n) (show weight1 ≠ 0 by omega)
          have h2:=Int.emod_lt_of_pos (rest1*(gi l j).n) (show 0<weight1 by omega)
          omega
         have hleft:=floors_left opn1 (fun i=>(gi l i).n) rest1 weight1 HI.out.w (by omega)
         have hsO:sumL O=sumF (fun i=>rest1*(gi l i).n / weight1) opn1:=by rw [← HO.out];exact sumL_map _ _
         rw [← hsO,HLL.out] at hleft
         have HSU2:=zH (ssum_any _ O wr (HA3.out.sl (by rw [HOl.out];omega) k) (by rw [HOl.out];omega) (fun x hx=>by have:=hOb x hx;omega))
         have hso:=sumL_bound O 4096000 hOb
         rw [HOl.out] at hso HSU2
         have HTP:=zH (topped_any (co:=k) (cr:=k) HB3.out HA3.out hne.symm k HOl.out HRl.out (by omega) hRb 4096000 (by omega) hOb (L:=rest1 - sumL O) (rest1 - sumL O).toNat (by omega) (by omega))
         clear hOb hRb hsO hOe hne0
         generalize sumL O=so at *
         go_wp2_with (first|(go_at_call 128;((with_reducible refine HSU2.out.mono ?_);rintro e1' w2 ⟨rfl,rfl⟩))|(go_at_call 157;((with_reducible refine HTP.out.mono ?_);rintro e1' w3 ⟨rfl,hA3,hg3⟩)))
         go_meet
         exact⟨HM.out.grow hg3 hq1 HO1.out,hA3.to HOE.out⟩
        ·have h0I:decide ((0:Int)<(k:Int))=false:=decide_eq_false (by omega)
         have hk0:k=0:=by omega
         have hop:opn1=[]:=List.length_eq_zero_iff.1 (by rw [HLL.out];exact hk0)
         have hO0:O=[]:=List.length_eq_zero_iff.1 (by rw [HOl.out];exact hk0)
         have hOe:=HOUT.out
         rw [if_pos hop] at hOe
         have HE:Hid (O=OUT):=zH (by rw [hO0,hOe])
         clear hk0 hop hO0 hOe
         go_wp2
         go_meet
         exact⟨HM.out,HA3.out.to HE.out⟩
       case rest=>as_aux_lemma=>
       obtain⟨hM,ha⟩:=hcut
       have HM3:=zH hM
       have HA4:=zH ha
       clear hM ha HM HA3 HB3
       have HLO:Hid (OUT.length=k):=zH (by
        rw [← HOUT.out]
        split
        ·rename_i h;rw [← HLL.out,h]
        ·unfold toppedS;rw [bump_len];exact HOl.out)
       go_wp2
       go_loopw [266] (fun i w3=>∃ (q:Nat) (sz':List Int),i=.int .i64 q∧q≤k∧FM W lb sb l sz' (.slice p k c) opn1 w3∧ArrI w3 q1 OUT∧sz'.length=l.length∧assign (opn1.drop q) (OUT.drop q) sz'=assign opn1 OUT sz1) (fun i _=>k - (intOf i).toNat)
       case atStart=>exact⟨0,sz1,rfl,by omega,HM3.out,HA4.out,HI.out.sz.1,rfl⟩
       case round=>
        obtain⟨q,sz',rfl,hq,hM,ha,hsl,hAS⟩:=hrel
        have HM:=zH hM
        have HA:=zH ha
        have HSL:=zH hsl
        have HAS:=zH hAS
        clear hM ha hsl hAS HM3 HA4
        by_cases hlt:q<k
        ·as_aux_lemma=>
          have hltI:(q:Int)<(k:Int):=by omega
          obtain⟨x,hx⟩:∃ x,opn1[q]?=some x:=⟨_,List.getElem?_eq_getElem (by rw [HLL.out];exact hlt)⟩
          obtain⟨v,hv⟩:∃ v,OUT[q]?=some v:=⟨_,List.getElem?_eq_getElem (by rw [HLO.out];exact hlt)⟩
          obtain⟨i,rfl,hi,-⟩:=HIT.out x (List.mem_of_getElem? hx)
          obtain⟨g9,rfl,hg9,_,hc⟩:=HM.out.at hx
          have hiN:(i:Int)<(n:Int):=by omega
          obtain⟨z,hz⟩:∃ z,sz'[i]?=some z:=⟨_,List.getElem?_eq_getElem (by rw [HSL.out];have:=HN.out;omega)⟩
          have e1:=HM.out.sz.at hz
          have f1:=HM.out.sz.froz i
          have c1:=HA.out.at hv
          have hsq:q1 ≠ sb:=by have:=HM.out.nb;omega
          have HW:=zH (HM.out.put i v)
          have HS3:Hid (assign (opn1.drop (q+1)) (OUT.drop (q+1)) (sz'.set i v)=assign opn1 OUT sz1):=zH (by
           obtain⟨h1,h2⟩:=List.getElem?_eq_some_iff.1 hx
           obtain⟨h3,h4⟩:=List.getElem?_eq_some_iff.1 hv
           rw [← HAS.out,List.drop_eq_getElem_cons h1,List.drop_eq_getElem_cons h3,h2,h4]
           simp [assign])
          have HS4:Hid ((sz'.set i v).length=l.length):=zH (by rw [List.length_set];exact HSL.out)
          clear hx hv hz
          go_wp2
          go_roundw
          case rel=>exact⟨q+1,_,by first|rfl|go_num,by omega,HW.out,Arr.other HA.out hsq _ _,HS4.out,HS3.out⟩
          case measure=>simp [intOf]<;>omega
        ·as_aux_lemma=>
          have hltI:decide ((q:Int)<(k:Int))=false:=decide_eq_false (by omega)
          obtain rfl:q=k:=by omega
          have HE:Hid (sz'=assign opn1 OUT sz1):=zH (by rw [← HAS.out,← HLL.out,List.drop_length];cases OUT.drop opn1.length<;>rfl)
          go_wp2
          go_end0
          exact⟨rfl,by rw [HR.out,← HE.out];exact HM.out.sz,HM.out.g⟩
    case first=>as_aux_lemma=>
    go_wp2
    go_loopw [6,7,9] (fun v6 v7 v9 w2=>∃ (g:GS) (f:Nat) (vo:Value),v6=.int .i64 g.rest∧v7=.int .i64 g.weight∧vo=v9∧FM W lb sb l g.sz vo g.opn w2∧FI l g∧g.opn.length≤f∧rounds l f g=G) (fun _ _ v9 _=>slen v9)
    case atStart=>exact⟨⟨opn,rest,weight,sz⟩,l.length,_,rfl,rfl,rfl,HM1.out,HFI.out,HFI.out.ol,HG.out⟩
    case round=>
     obtain⟨g,f,vo,rfl,rfl,rfl,hM,hI,hf,hGG⟩:=hrel
     obtain⟨p,c,rfl⟩:=hM.form
     have HM:=zH hM
     have HI:=zH hI
     have HGG:=zH hGG
     have hol:g.opn.length≤n:=by have:=hI.ol;have:=HN.out;omega
     clear hM hI hGG HM1 HFI HG
     by_cases h0:0<g.opn.length
     ·have h0I:(0:Int)<(g.opn.length:Int):=by omega
      have hit:∀ i ∈ g.opn,∃ k:Nat,i=k∧k<n∧∃ y,l[k]?=some y∧FItm y∧gi l i=y∧1≤y.n∧y.n≤1000:=fun i hi=>by
       obtain⟨o1,o2,o3⟩:=HI.out.op i hi
       have hnl:=HN.out
       refine⟨i.toNat,by omega,by omega,l[i.toNat]'(by omega),List.getElem?_eq_getElem (by omega),HL.out _ (List.getElem_mem _),by simp [gi,gd,List.getElem?_eq_getElem (show i.toNat<l.length by omega)],?_⟩
       have hF:=HL.out (gi l i) (gi_mem ⟨o1,o2⟩)
       have:=hF.2.2.2.2.2 o3
       simpa [gi,gd,List.getElem?_eq_getElem (show i.toNat<l.length by omega)] using this
      have hrest0:0≤g.rest∧g.rest≤4096:=by
       refine⟨Int.le_trans (sumF_nonneg fun i hi=>?_) HI.out.rest,HI.out.rt⟩
       obtain⟨k,_,_,y,_,hF,hy,_⟩:=hit i hi
       rw [hy];exact hF.1
      have hw0:1≤g.weight∧g.weight≤4096000:=by
       rw [HI.out.w]
       have h1:=sumF_range (f:=fun i=>(gi l i).n) (l:=g.opn) (B:=1000) fun i hi=>by
        obtain⟨k,_,_,y,_,hF,hy,h3,h4⟩:=hit i hi
        rw [hy];omega
       obtain⟨a,ha⟩:=List.exists_mem_of_length_pos h0
       have h2:=sumF_mem (f:=fun i=>(gi l i).n) (l:=g.opn) (fun i hi=>by
        obtain⟨k,_,_,y,_,hF,hy,h3,h4⟩:=hit i hi
        rw [hy];omega) ha
       obtain⟨k,_,_,y,_,hF,hy,h3,h4⟩:=hit a ha
       rw [hy] at h2
       omega
      have HIT:=zH hit
      clear hit
      have hab:∀ i ∈ g.opn,(0≤aboveF l g.rest g.weight i∧aboveF l g.rest g.weight i≤4096000)∧0≤belowF l g.rest g.weight i∧belowF l g.rest g.weight i≤16777216000:=fun i hi=>by
       obtain⟨k,_,_,y,_,hF,hy,h3,h4⟩:=HIT.out i hi
       unfold aboveF belowF
       rw [hy]
       have m1:0≤g.rest*y.n:=Int.mul_nonneg hrest0.1 (by omega)
       have m2:g.rest*y.n≤4096*y.n:=Int.mul_le_mul_of_nonneg_right hrest0.2 (by omega)
       have m3:0≤g.weight*boundS y:=Int.mul_nonneg (by omega) (by unfold boundS;split<;>omega)
       have m4:g.weight*y.mn≤4096000*y.mn:=Int.mul_le_mul_of_nonneg_right hw0.2 hF.1
       have:=hF.2.1
       omega
      have HAB:=zH hab
      clear hab
      go_wp2
      go_loopw [15,16,94] (fun v15 v16 i w3=>∃ k:Nat,i=.int .i64 k∧k≤g.opn.length∧v15=.int .i64 (sumF (aboveF l g.rest g.weight) (g.opn.take k))∧v16=.int .i64 (sumF (belowF l g.rest g.weight) (g.opn.take k))∧FM W lb sb l g.sz (.slice p g.opn.length c) g.opn w3) (fun _ _ i _=>g.opn.length - (intOf i).toNat)
      case atStart=>exact⟨0,rfl,by omega,rfl,rfl,HM.out⟩
      case round=>
       obtain⟨k,rfl,hk,rfl,rfl,hM2⟩:=hrel
       have HM2:=zH hM2
       clear hM2 HM
       by_cases hlt:k<g.opn.length
       ·as_aux_lemma=>
         have hltI:(k:Int)<(g.opn.length:Int):=by omega
         obtain⟨x,hx⟩:∃ x,g.opn[k]?=some x:=⟨_,List.getElem?_eq_getElem hlt⟩
         obtain⟨i,rfl,hi,y,hy,hF,hgy,hn1,hn2⟩:=HIT.out x (List.mem_of_getElem? hx)
         obtain⟨g9,rfl,hg9,_,hc⟩:=HM2.out.at hx
         obtain⟨d1,d2,d3,d4,d5⟩:=HM2.out.it i y hy
         have hiN:(i:Int)<(n:Int):=by omega
         have hlb:lb<wr.heap.size:=Nat.lt_of_lt_of_le HM2.out.nl HM2.out.g.size
         have HA:=zH (sumF_take_succ (f:=aboveF l g.rest g.weight) hx)
         have HB:=zH (sumF_take_succ (f:=belowF l g.rest g.weight) hx)
         have hA1:=sumF_take_range (f:=aboveF l g.rest g.weight) (l:=g.opn) (B:=4096000) (fun i hi=>(HAB.out i hi).1) (by omega) k (by omega)
         have hB1:=sumF_take_range (f:=belowF l g.rest g.weight) (l:=g.opn) (B:=16777216000) (fun i hi=>(HAB.out i hi).2) (by omega) k (by omega)
         have hA2:aboveF l g.rest g.weight i=max 0 (g.rest*y.n - g.weight*boundS y):=by unfold aboveF;rw [hgy]
         have hB2:belowF l g.rest g.weight i=max 0 (g.weight*y.mn - g.rest*y.n):=by unfold belowF;rw [hgy]
         rw [hA2] at HA
         rw [hB2] at HB
         have hbs:0≤boundS y∧boundS y≤8192:=by unfold boundS;have:=hF.2.2.2.1;split<;>omega
         have HBD:=zH fun W'=>bound_agg y W'
         have m1:0≤g.rest*y.n:=Int.mul_nonneg hrest0.1 (by omega)
         have m2:g.rest*y.n≤4096*y.n:=Int.mul_le_mul_of_nonneg_right hrest0.2 (by omega)
         have m3:0≤g.weight*boundS y:=Int.mul_nonneg (by omega) hbs.1
         have m4:g.weight*boundS y≤4096000*boundS y:=Int.mul_le_mul_of_nonneg_right hw0.2 hbs.1
         have m5:0≤g.weight*y.mn:=Int.mul_nonneg (by omega) hF.1
         have m6:g.weight*y.mn≤4096000*y.mn:=Int.mul_le_mul_of_nonneg_right hw0.2 hF.1
         have hmn:=hF.2.1
         clear hx hy hF hgy hA2 hB2
         obtain⟨X,hX⟩:∃ X,g.rest*y.n=X:=⟨_,rfl⟩
         obtain⟨Y,hY⟩:∃ Y,g.weight*boundS y=Y:=⟨_,rfl⟩
         obtain⟨Z,hZ⟩:∃ Z,g.weight*y.mn=Z:=⟨_,rfl⟩
         rw [hX] at m1 m2 HA HB
         rw [hY] at m3 m4 HA
         rw [hZ] at m5 m6 HB
         generalize sumF (aboveF l g.rest g.weight) (g.opn.take k)=sa at *
         generalize sumF (belowF l g.rest g.weight) (g.opn.take k)=sb2 at *
         go_wp2_with (go_at_call 158;((with_reducible refine(HBD.out _).mono ?_);rintro e1' w4 ⟨rfl,hb4⟩;have HM4:=zH (HM2.out.below hb4);obtain⟨hc4,hf4⟩:=bcell hb4;have hz4:=hb4.size;clear hb4))
         go_roundw
         case rel=>exact⟨k+1,by first|rfl|go_num,by omega,by rw [HA.out],by rw [HB.out],by first|exact HM4.out|exact HM4.out.below (by(repeat (first|exact Below.refl _ _|assumption|refine below_drewN ?_ _|refine Below.drew ?_|(refine Below.alloc ?_ ?bs _;(case bs=>first|omega|(simp;done)|(simp;omega)))|(refine Below.setCell ?_ ?bs _;(case bs=>first|omega|(simp;done)|(simp;omega))))))⟩
         case measure=>simp [intOf]<;>omega
       ·as_aux_lemma=>
        have hltI:decide ((k:Int)<(g.opn.length:Int))=false:=decide_eq_false (by omega)
        obtain rfl:k=g.opn.length:=by omega
        rw [List.take_length]
        obtain⟨A,hA⟩:∃ A,sumF (aboveF l g.rest g.weight) g.opn=A:=⟨_,rfl⟩
        obtain⟨B,hB⟩:∃ B,sumF (belowF l g.rest g.weight) g.opn=B:=⟨_,rfl⟩
        have HA:=zH hA
        have HB:=zH hB
        rw [hA,hB]
        clear hA hB hltI hlt hk
        go_upto_region 28 with (fail)
        go_cut [135] (fun v W'=>∃ t:Bool,v=.bool t∧(t=true↔A=0∧B=0)∧FM W lb sb l g.sz (.slice p g.opn.length c) g.opn W')
        case first=>as_aux_lemma=>
         by_cases hA0:A=0
         ·subst hA0
          by_cases hB0:B=0
          ·subst hB0
           go_wp2_with fail
           go_meet
           exact⟨true,rfl,by simp,HM2.out⟩
          ·have hB1:(B == 0)=false:=by rw [beq_eq_false_iff_ne];exact hB0
           go_wp2_with fail
           go_meet
           exact⟨false,rfl,by simp [hB0],HM2.out⟩
         ·have hA1:(A == 0)=false:=by rw [beq_eq_false_iff_ne];exact hA0
          go_wp2_with fail
          go_meet
          exact⟨false,rfl,by simp [hA0],HM2.out⟩
        case rest=>as_aux_lemma=>
        obtain⟨t0,rfl,ht0,hM3⟩:=hcut
        have HM3:=zH hM3
        have HT0:=zH ht0
        clear hM3 HM2 ht0
        cases t0 with
        |true=>as_aux_lemma=>
          have hz:=HT0.out.1 rfl
          have hE:=rounds_end (l:=l) (f:=f) (s:=g) (.inr (by rw [HA.out,HB.out];exact hz))
          rw [HGG.out] at hE
          subst hE
          clear hz
          go_wp2
          go_meet
          exact⟨_,rfl,rfl,rfl,HM3.out,HI.out⟩
        |false=>
         have hz:¬ (A=0∧B=0):=fun h=>absurd (HT0.out.2 h) (by simp)
         obtain⟨R,hR⟩:∃ R,roundS l g.rest g.weight A B g.opn ⟨[],g.rest,g.weight,g.sz⟩=R:=⟨_,rfl⟩
         have HRR:=zH hR
         have HZZ:=zH hz
         clear hR hz
         go_wp2
         go_loopw [20,21,22,140] (fun v20 v21 v22 i w3=>∃ (k:Nat) (s:RS) (vs:Value),i=.int .i64 k∧k≤g.opn.length∧vs=v20∧v21=.int .i64 s.left∧v22=.int .i64 s.heavy∧ST W lb sb l s.sz vs s.stay p g.opn w3∧s.stay.length≤k∧(g.rest - 4096*k≤s.left∧s.left≤4096)∧(g.weight - 1000*k≤s.heavy∧s.heavy≤4096000)∧SzOk l.length s.sz∧roundS l g.rest g.weight A B (g.opn.drop k) s=R) (fun _ _ _ i _=>g.opn.length - (intOf i).toNat)
         case atStart=>exact⟨0,⟨[],g.rest,g.weight,g.sz⟩,_,rfl,by omega,rfl,rfl,rfl,ST.start HM3.out,by simp,⟨by simp,hrest0.2⟩,⟨by simp,hw0.2⟩,HI.out.sz,HRR.out⟩
         case round=>
          obtain⟨k,s,vs,rfl,hk,rfl,rfl,rfl,hT,hsl,hle,hhe,hsz,hRS⟩:=hrel
          have HT:=zH hT
          have HSZ:=zH hsz
          have HRS:=zH hRS
          clear hT hsz hRS HM3
          by_cases hlt:k<g.opn.length
          ·as_aux_lemma=>
            have hltI:(k:Int)<(g.opn.length:Int):=by omega
            obtain⟨x,hx⟩:∃ x,g.opn[k]?=some x:=⟨_,List.getElem?_eq_getElem hlt⟩
            obtain⟨i,rfl,hi,y,hy,hF,hgy,hn1,hn2⟩:=HIT.out x (List.mem_of_getElem? hx)
            obtain⟨g9,rfl,hg9,hg0,hc,hgn⟩:=HT.out.r k _ hx
            obtain⟨d1,d2,d3,d4,d5⟩:=HT.out.m.it i y hy
            have hiN:(i:Int)<(n:Int):=by omega
            have hlb:lb<wr.heap.size:=Nat.lt_of_lt_of_le HT.out.m.nl HT.out.m.g.size
            have hstep:=roundS_drop (l:=l) (rest:=g.rest) (weight:=g.weight) (a:=A) (b:=B) (s:=s) hx
            rw [HRS.out] at hstep
            have hbs:0≤boundS y∧boundS y≤8192:=by unfold boundS;have:=hF.2.2.2.1;split<;>omega
            have HBD:=zH fun W'=>bound_agg y W'
            have m1:0≤g.rest*y.n:=Int.mul_nonneg hrest0.1 (by omega)
            have m2:g.rest*y.n≤4096*y.n:=Int.mul_le_mul_of_nonneg_right hrest0.2 (by omega)
            have m3:0≤g.weight*boundS y:=Int.mul_nonneg (by omega) hbs.1
            have m4:g.weight*boundS y≤4096000*boundS y:=Int.mul_le_mul_of_nonneg_right hw0.2 hbs.1
            have m5:0≤g.weight*y.mn:=Int.mul_nonneg (by omega) hF.1
            have m6:g.weight*y.mn≤4096000*y.mn:=Int.mul_le_mul_of_nonneg_right hw0.2 hF.1
            have hmn:=hF.2.1
            have hmn0:=hF.1
            have hmx:=hF.2.2.1
            have hmx2:=hF.2.2.2.1
            have HU:=zH fun h=>round_up (l:=l) (rest:=g.rest) (weight:=g.weight) (a:=A) (b:=B) (s:=s) hgy h
            have HD:=zH fun h h2=>round_dn (l:=l) (rest:=g.rest) (weight:=g.weight) (a:=A) (b:=B) (s:=s) hgy h h2
            have HNO:=zH fun h h2=>round_no (l:=l) (rest:=g.rest) (weight:=g.weight) (a:=A) (b:=B) (s:=s) hgy h h2
            have HST:=zH hstep
            obtain⟨z,hz9⟩:∃ z,s.sz[i]?=some z:=⟨_,List.getElem?_eq_getElem (by rw [HSZ.out.1];have:=HN.out;omega)⟩
            have HZ9:=zH hz9
            have HY:=zH hy
            have HX:=zH hx
            clear hx hy hF hgy hstep hz9
            obtain⟨X,hX⟩:∃ X,g.rest*y.n=X:=⟨_,rfl⟩
            obtain⟨Y,hY⟩:∃ Y,g.weight*boundS y=Y:=⟨_,rfl⟩
            obtain⟨Z,hZ⟩:∃ Z,g.weight*y.mn=Z:=⟨_,rfl⟩
            rw [hX] at m1 m2 HU HD HNO
            rw [hY] at m3 m4 HU HD HNO
            rw [hZ] at m5 m6 HD HNO
            go_upto_region 35 with (fail)
            go_cut [164] (fun v W'=>∃ t:Bool,v=.bool t∧(t=true↔B≤A∧Y≤X)∧ST W lb sb l s.sz vs s.stay (some ⟨g9,0,none⟩) g.opn W')
            case first=>as_aux_lemma=>
             by_cases hBA:B≤A
             ·by_cases hYX:Y≤X
              ·go_wp2_with (go_at_call 158;((with_reducible refine(HBD.out _).mono ?_);rintro e1' w4 ⟨rfl,hb4⟩;have HT4:=zH (HT.out.below hb4);clear hb4))
               go_meet
               exact⟨true,rfl,by simp [hBA,hYX],HT4.out⟩
              ·have hYXd:decide (Y≤X)=false:=decide_eq_false hYX
               go_wp2_with (go_at_call 158;((with_reducible refine(HBD.out _).mono ?_);rintro e1' w4 ⟨rfl,hb4⟩;have HT4:=zH (HT.out.below hb4);clear hb4))
               go_meet
               exact⟨false,rfl,by simp [hYX],HT4.out⟩
             ·have hBAd:decide (B≤A)=false:=decide_eq_false hBA
              have HBA:=zH hBA
              clear hBA
              go_wp2_with fail
              go_meet
              exact⟨false,rfl,⟨fun h=>(by cases h),fun h=>by have h1:=HBA.out;omega⟩,HT.out⟩
            case rest=>as_aux_lemma=>
            obtain⟨t,rfl,ht,hT2⟩:=hcut
            have HTT:=zH ht
            clear ht
            have HT2:=zH hT2
            have hlb2:lb<wc.heap.size:=Nat.lt_of_lt_of_le hT2.m.nl hT2.m.g.size
            obtain⟨g',e',hgw,-⟩:=hT2.r k _ HX.out
            obtain rfl:g9=g':=by simpa using e'
            obtain⟨d1,d2,d3,d4,d5⟩:=hT2.m.it i y HY.out
            have e1:=hT2.m.sz.at HZ9.out
            have f1:=hT2.m.sz.froz i
            clear hT2 HT HBD hc e' m3 m4
            cases t with
            |true=>as_aux_lemma=>
              have HUP:=zH (HTT.out.1 rfl)
              clear m1 m2 m5 m6
              have HW:=zH (HT2.out.put i y.mx)
              have HE:Hid (roundS l g.rest g.weight A B (g.opn.drop (k+1)) ⟨s.stay,s.left - y.mx,s.heavy - y.n,s.sz.set i y.mx⟩=R):=zH (by rw [← HU.out HUP.out];exact HST.out.symm)
              go_wp2
              go_roundw
              case rel=>exact⟨k+1,⟨s.stay,s.left - y.mx,s.heavy - y.n,s.sz.set i y.mx⟩,vs,by first|rfl|go_num,by omega,rfl,rfl,rfl,HW.out,by dsimp only;omega,by dsimp only;push_cast;omega,by dsimp only;push_cast;omega,HSZ.out.set i ⟨hmx,hmx2⟩,HE.out⟩
              case measure=>simp [intOf]<;>omega
            |false=>
             have HUP:Hid (¬ (B≤A∧Y≤X)):=zH fun h=>absurd (HTT.out.2 h) (by simp)
             go_upto_region 37 with (fail)
             go_cut [186] (fun v W'=>∃ t:Bool,v=.bool t∧(t=true↔A≤B∧X≤Z)∧ST W lb sb l s.sz vs s.stay (some ⟨g9,0,none⟩) g.opn W')
             case first=>as_aux_lemma=>
              by_cases hBA:A≤B
              ·by_cases hYX:X≤Z
               ·go_wp2_with fail
                go_meet
                exact⟨true,rfl,by simp [hBA,hYX],HT2.out⟩
               ·have hYXd:decide (X≤Z)=false:=decide_eq_false hYX
                have HYX:=zH hYX
                clear hYX
                go_wp2_with fail
                go_meet
                exact⟨false,rfl,⟨fun h=>(by cases h),fun h=>by have h1:=HYX.out;omega⟩,HT2.out⟩
              ·have hBAd:decide (A≤B)=false:=decide_eq_false hBA
               have HBA:=zH hBA
               clear hBA
               go_wp2_with fail
               go_meet
               exact⟨false,rfl,⟨fun h=>(by cases h),fun h=>by have h1:=HBA.out;omega⟩,HT2.out⟩
             case rest=>as_aux_lemma=>
             obtain⟨t,rfl,ht,hT3⟩:=hcut
             have HTD:=zH ht
             clear ht
             clear HT2 hlb2 hgw d1 d2 d3 d4 d5 e1 f1 m1 m2 m5 m6
             have HT2:=zH hT3
             have hlb2:lb<wc.heap.size:=Nat.lt_of_lt_of_le hT3.m.nl hT3.m.g.size
             obtain⟨g',e',hgw,-⟩:=hT3.r k _ HX.out
             obtain rfl:g9=g':=by simpa using e'
             obtain⟨d1,d2,d3,d4,d5⟩:=hT3.m.it i y HY.out
             have e1:=hT3.m.sz.at HZ9.out
             have f1:=hT3.m.sz.froz i
             clear hT3 e'
             cases t with
             |true=>as_aux_lemma=>
               have HDN:=zH (HTD.out.1 rfl)
               have HW:=zH (HT2.out.put i y.mn)
               have HE:Hid (roundS l g.rest g.weight A B (g.opn.drop (k+1)) ⟨s.stay,s.left - y.mn,s.heavy - y.n,s.sz.set i y.mn⟩=R):=zH (by rw [← HD.out HUP.out HDN.out];exact HST.out.symm)
               go_wp2
               go_roundw
               case rel=>exact⟨k+1,⟨s.stay,s.left - y.mn,s.heavy - y.n,s.sz.set i y.mn⟩,vs,by first|rfl|go_num,by omega,rfl,rfl,rfl,HW.out,by dsimp only;omega,by dsimp only;push_cast;omega,by dsimp only;push_cast;omega,HSZ.out.set i ⟨hmn0,hmn⟩,HE.out⟩
               case measure=>simp [intOf]<;>omega
             |false=>as_aux_lemma=>
               have HDN:Hid (¬ (A≤B∧X≤Z)):=zH fun h=>absurd (HTD.out.2 h) (by simp)
               have HE:Hid (roundS l g.rest g.weight A B (g.opn.drop (k+1)) ⟨s.stay ++ [(i:Int)],s.left,s.heavy,s.sz⟩=R):=zH (by rw [← HNO.out HUP.out HDN.out];exact HST.out.symm)
               have hB9:W.heap.size≤wc.heap.size:=HT2.out.m.g.size
               have hsl2:s.stay.length<1000000000000:=by omega
               have HSL2:=zH hsl2
               clear hsl2
               go_wp2_with ((with_reducible apply wpList_append_new elI (B:=W.heap.size) (n:=s.stay.length) (xs:=ivl s.stay) (nw:=#[.int .i64 (i:Int)]));exact rfl;exact rfl;(first|exact rfl|simp);exact HT2.out.m.op;exact hB9;exact HSL2.out;exact rfl;(intro u hu;simp at hu;subst hu;rfl);intro v' w9 hrow9 hgr9 hpl9 K hK;have HM9:=zH ((HT2.out.below (Below.alloc (Below.refl _ _) (Nat.le_refl _) _)).app (x:=(i:Int)) hrow9 hgr9 (hpl9.imp id fun h=>⟨_,h,fun q e=>by simp at e;omega⟩));clear hrow9 hgr9 hpl9)
               go_roundw
               case rel=>
                refine⟨k+1,⟨s.stay ++ [(i:Int)],s.left,s.heavy,s.sz⟩,v',?_,?_,rfl,rfl,rfl,HM9.out,?_,?_,?_,HSZ.out,HE.out⟩
                ·first|rfl|go_num
                ·omega
                ·dsimp only;rw [List.length_append];simp only [List.length_cons,List.length_nil];omega
                ·dsimp only;push_cast;omega
                ·dsimp only;push_cast;omega
               case measure=>simp [intOf]<;>omega
          ·as_aux_lemma=>
            have hltI:decide ((k:Int)<(g.opn.length:Int))=false:=decide_eq_false (by omega)
            obtain rfl:k=g.opn.length:=by omega
            have hsR:s=R:=by rw [← HRS.out,List.drop_length];rfl
            subst hsR
            have hnx:=round_next HL.out HI.out HA.out HB.out HZZ.out HRR.out
            have hst:=rounds_step (f:=f - 1) (fun e=>by simp [e] at h0) HA.out HB.out HZZ.out HRR.out
            rw [show f - 1+1=f by omega,HGG.out] at hst
            have HNX:=zH hnx
            have HSTT:=zH hst
            have hlen:=hnx.2
            obtain⟨ps,cs,rfl⟩:=HT.out.m.form
            clear hnx hst
            go_wp2
            go_roundw
            case rel=>exact⟨⟨s.stay,s.left,s.heavy,s.sz⟩,f - 1,_,rfl,rfl,rfl,HT.out.m,HNX.out.1,by dsimp only;omega,HSTT.out.symm⟩
            case measure=>simp [slen]<;>omega
     ·as_aux_lemma=>
       have h0I:decide ((0:Int)<(g.opn.length:Int))=false:=decide_eq_false (by omega)
       have hg0:g.opn=[]:=List.length_eq_zero_iff.1 (by omega)
       have hE:=rounds_end (l:=l) (f:=f) (s:=g) (.inl hg0)
       rw [HGG.out] at hE
       subst hE
       go_wp2
       go_meet
       exact⟨_,rfl,rfl,rfl,HM.out,HI.out⟩
end Go.Proofs.YtlenbcmgjancmaaGreatDoor
