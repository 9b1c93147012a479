import Derived.Test.YtlenbcmgjancmaaGreatDoorMn10
import Derived.Test.YtlenbcmgjancmaaGreatDoorMn09
import Derived.RangeFuncNested
import Derived.RangeFuncBound
import Derived.RangeFuncCalls
import Derived.RangeFuncLeaves
import Derived.RangeFuncBox
import Derived.Shelf.Abstract
import Derived.Shelf.RegionOpen
import Derived.OwnWalkIn
import Derived.TacticsInMore
import Derived.LoopNIn
import Derived.LoopIn
import Derived.Maps.AppendAt
set_option linter.unusedVariables false
set_option linter.unusedSimpArgs false
namespace Go.Proofs.YtlenbcmgjancmaaGreatDoor
open Go.RowKit Go.Shelf
attribute [local go_sem] Oper.semAt_some
theorem clustersS_cons (r:Nat) (rs:List Nat):clustersS (r :: rs)=(textS ((r :: rs).take (lengthS (r :: rs)).1),(lengthS (r :: rs)).2) :: clustersS ((r :: rs).drop (lengthS (r :: rs)).1):=by
 conv=>lhs;rw [clustersS]
abbrev PCl:=Nat × Cl
def clV (c:Cl):Value:=.agg #[.string (mkS c.1),.int .i64 c.2]
def SlR (w:World) (g:Nat) (v:Value) (rs:List Nat):Prop :=
 ∃ A c,v=.slice A rs.length c∧rs.length≤c∧c≤maxLen∧(0<rs.length→∃ o,A=some ⟨g,o,none⟩∧RdR w g o rs)
theorem SlR.below {w w':World} {g B:Nat} {v:Value} {rs:List Nat} (h:SlR w g v rs) (hb:Below B w w') (hg:g<B):SlR w' g v rs:=by
 obtain⟨A,c,h1,h2,h3,h4⟩:=h
 refine⟨A,c,h1,h2,h3,fun h=>?_⟩
 obtain⟨o,h5,h6⟩:=h4 h
 exact⟨o,h5,h6.below hb hg⟩
def KB (n₁ B0:Nat) (A B:World):Prop:=A.heap.size≤B.heap.size∧∀ b,b<n₁→b ≠ B0→B.heap[b]?=A.heap[b]?
theorem KB.refl (n₁ B0:Nat) (A:World):KB n₁ B0 A A:=⟨Nat.le_refl _,fun _ _ _=>rfl⟩
theorem KB.trans {n₁ B0:Nat} {A B C:World} (h:KB n₁ B0 A B) (k:KB n₁ B0 B C):KB n₁ B0 A C:=⟨Nat.le_trans h.1 k.1,fun b hb hne=>(k.2 b hb hne).trans (h.2 b hb hne)⟩
theorem KB.of_below {n₁ B0:Nat} {A B:World} (h:Below A.heap.size A B) (hn:n₁≤A.heap.size):KB n₁ B0 A B:=⟨h.size,fun b hb _=>h.block b (Nat.lt_of_lt_of_le hb hn)⟩
theorem KB.put {n₁ B0:Nat} (W:World) {l:Nat} (o':Obj) (h:n₁≤l):KB n₁ B0 W (W.putObj l o'):=by
 refine⟨(grownBy_putObj' W l o').size,fun b hb _=>?_⟩
 rcases Nat.lt_or_ge b W.heap.size with h1|h1
 ·exact(grownBy_putObj' W l o').block b h1 (fun e=>by cases e;omega)
 ·have:=(grownBy_putObj' W l o').size
  rw [Array.getElem?_eq_none h1]
  refine Array.getElem?_eq_none ?_
  show (W.heap.setIfInBounds l o').size≤b
  simpa using h1
theorem SlR.kb {w w':World} {g n₁ B0:Nat} {v:Value} {rs:List Nat} (h:SlR w g v rs) (hb:KB n₁ B0 w w') (hg:g<n₁) (hne:g ≠ B0):SlR w' g v rs:=by
 obtain⟨A,c,h1,h2,h3,h4⟩:=h
 refine⟨A,c,h1,h2,h3,fun h=>?_⟩
 obtain⟨o,h5,h6⟩:=h4 h
 exact⟨o,h5,fun i r hr=>(World.cell?_of_block (hb.2 g hg hne)).trans (h6 i r hr)⟩
theorem RdR.kb {w w':World} {g o n₁ B0:Nat} {rs:List Nat} (h:RdR w g o rs) (hb:KB n₁ B0 w w') (hg:g<n₁) (hne:g ≠ B0):RdR w' g o rs:=fun i r hr=>(World.cell?_of_block (hb.2 g hg hne)).trans (h i r hr)
def AllRel (J:List PCl→World→Prop) (rs:List Nat) (g n₁ B0:Nat) (W:World) (p v:Value) (wr:World):Prop :=
 ∃ (k pl:Nat) (pre:List PCl),p=.int .i64 pl∧pl≤4*k∧k≤rs.length∧SlR wr g v (rs.drop k)∧clustersS rs=pre.map (·.2) ++ clustersS (rs.drop k)∧pre.length≤k∧J pre wr∧KB n₁ B0 W wr
def lenSl:Value→Nat|.slice _ n _=>n|_=>0
set_option maxRecDepth 100000 in
set_option maxHeartbeats 2000000 in
theorem all1_in (n:Nat) (hn:1≤n) (l Bs n₁ B0 g:Nat) (v0:Value) (rs:List Nat) (hg:g<n₁) (hne:g ≠ B0) (hm:rs.length≤1000000000) (hlt:∀ x ∈ rs,x<2147483648) (J Jx:List PCl→World→Prop)
  (hJ:∀ pre W W',J pre W→Below W.heap.size W W'→J pre W')
  (hY:∀ pre x W,J pre W→pre.length<rs.length→YieldAt Fence.wide (n - 1) Tryz.prog l #[.int .i64 ((x:PCl).1:Int),clV x.2] W fun e W'=>
   (e=.returned (.bool true)∧J (pre ++ [x]) W'∧KB n₁ B0 W W')∨(e=.returned (.bool false)∧Jx (pre ++ [x]) W'))
  (W:World) (hn₀:n₁≤W.heap.size) (hBs:W.cell? ⟨Bs,0,none⟩=some v0) (hS:SlR W g v0 rs) (h0:J [] W) :
  CallsIn Fence.wide n Tryz.prog 155 #[.func (.yield l) #[] #[],.pointer (some ⟨Bs,0,none⟩)] W fun e W'=>(∃ v,e=.returned v)∧
   ((∃ ys:List PCl,ys.map (·.2)=clustersS rs∧J ys W')∨(∃ pre:List PCl,pre.map (·.2) <+: clustersS rs∧Jx pre W')):=by
 have HS:=zH hS
 have HLt:=zH hlt
 clear hS hlt
 refine callsIn_of_wp Tryz.func155 rfl trivial ?_ rfl
 simp only [Tryz.ntmps155,List.size_toArray,List.length_cons,List.length_nil,Nat.reduceAdd,Nat.reduceSub,Array.replicate_succ,Array.replicate_zero,List.push_toArray,List.append_toArray,List.nil_append,List.cons_append]
 gi_wp2
 gi_loopw [3,4] (AllRel J rs g n₁ B0 W) (fun _ v _=>lenSl v)
 case atStart=>exact⟨0,0,[],rfl,by omega,by omega,HS.out,rfl,by simp,h0,KB.refl _ _ _⟩
 case round=>
  obtain⟨k,pl,pre,rfl,hpl,hk,⟨A,c,rfl,hc1,hc2,hA⟩,hcl,hpre,hJs,hbe⟩:=hrel
  have HCL:=zH hcl
  have HA:=zH hA
  have HBE:=zH hbe
  have HJ:=zH hJs
  clear hcl hA hJs
  cases hd:rs.drop k with
  |nil=>
   have HP:Hid (pre.map (·.2)=clustersS rs):=zH (by rw [HCL.out,hd];simp [clustersS])
   simp only [List.length_nil]
   clear hd hbe hc1
   gi_wp2
   go_end0
   exact⟨⟨_,rfl⟩,.inl ⟨pre,HP.out,HJ.out⟩⟩
  |cons r rest=>
   obtain⟨n1,w1,hlw⟩:∃ n1 w1,lengthS (r :: rest)=(n1,w1):=⟨_,_,rfl⟩
   have hsz:=lengthS_size r rest
   rw [hlw] at hsz
   simp only at hsz
   obtain⟨o,hAo,hR⟩:=HA.out (by rw [hd];simp)
   subst hAo
   rw [hd] at hR hc1
   obtain⟨m,hmm⟩:∃ m,(r :: rest).length=m:=⟨_,rfl⟩
   have hmk:m=rs.length - k:=by rw [← hmm,← hd,List.length_drop]
   rw [hmm] at hsz hc1 ⊢
   have hsz1:1≤n1:=hsz.1
   have hsz2:n1≤m:=hsz.2
   have hm0:0<m:=by omega
   have hgr:g<wr.heap.size:=Nat.lt_of_lt_of_le hg (Nat.le_trans hn₀ hbe.1)
   have hlt':∀ x ∈ r :: rest,x<2147483648:=fun x hx=>HLt.out x (List.mem_of_mem_drop (by rw [hd];exact hx))
   obtain⟨t,ht⟩:∃ t,textS ((r :: rest).take n1)=t:=⟨_,rfl⟩
   have htl:t.length≤4*n1:=by rw [← ht];have:=textS_len ((r :: rest).take n1);simp at this;omega
   have hts:(mkS t).size=t.length:=by simp [mkS,toBytes,ByteArray.size]
   have HL:Hid (∀ w,Below wr.heap.size wr w→Calls Tryz.prog 156 #[.slice (some ⟨g,o,none⟩) m c] w (VBel (.tuple #[.int .i64 n1,.int .i64 w1]) w)):=zH (fun w hb=>by
    have:=length_any g o c r m rest hmm w (Nat.lt_of_lt_of_le hgr hb.size) (hR.below hb hgr) (by omega) hlt'
    rw [hlw] at this
    exact this)
   have HT:Hid (∀ w,Below wr.heap.size wr w→Calls Tryz.prog 87 #[.slice (some ⟨g,o,none⟩) n1 c] w (VBel (.string (mkS t)) w)):=zH (fun w hb=>by
    rw [← ht]
    refine text_any _ c n1 ((r :: rest).take n1) (by rw [List.length_take,hmm];omega) w (fun _=>⟨g,o,rfl,Nat.lt_of_lt_of_le hgr hb.size,fun i x hi=>?_⟩) (by omega) (fun x hx=>hlt' x (List.mem_of_mem_take hx))
    exact(hR.below hb hgr) i x (by
     obtain⟨h1,h2⟩:=List.getElem?_eq_some_iff.1 hi
     rw [List.getElem_take] at h2
     exact List.getElem?_eq_some_iff.2 ⟨by simp at h1;omega,h2⟩))
   have HYi:Hid (∀ w,Below wr.heap.size wr w→YieldAt Fence.wide (n - 1) Tryz.prog l #[.int .i64 pl,.agg #[.string (mkS t),.int .i64 w1]] w fun e W'=>
    (e=.returned (.bool true)∧J (pre ++ [(pl,(t,w1))]) W'∧KB n₁ B0 w W')∨(e=.returned (.bool false)∧Jx (pre ++ [(pl,(t,w1))]) W')):=zH (fun w hb=>hY pre (pl,(t,w1)) w (hJ _ _ _ HJ.out hb) (by omega))
   have HN:Hid (clustersS rs=(pre ++ [(pl,(t,w1))]).map (·.2) ++ clustersS (rs.drop (k+n1))):=zH (by
    rw [HCL.out,hd,clustersS_cons,hlw]
    simp only
    rw [ht,← hd,List.drop_drop,List.map_append,List.append_assoc];rfl)
   have HSl:Hid (∀ w,Below wr.heap.size wr w∨(∃ w2,Below wr.heap.size wr w2∧KB n₁ B0 w2 w)→SlR w g (.slice (if c=n1 then some ⟨g,o,none⟩ else some ⟨g,o+n1,none⟩) (m - n1) (c - n1)) (rs.drop (k+n1))):=zH (by
    intro w hb
    have hRw:RdR w g o (r :: rest):=by
     rcases hb with hb|⟨w2,hb2,hb3⟩
     ·exact hR.below hb hgr
     ·exact(hR.below hb2 hgr).kb hb3 hg hne
    have hlen:(rs.drop (k+n1)).length=m - n1:=by rw [List.length_drop];omega
    refine⟨_,c - n1,by rw [hlen],by rw [hlen];omega,by omega,fun h=>⟨o+n1,if_neg (by omega),fun i x hi=>?_⟩⟩
    have:=hRw (n1+i) x (by rw [← hi,← List.drop_drop,hd,List.getElem?_drop])
    rw [show o+n1+i=o+(n1+i) by omega];exact this)
   have hkn:k+n1≤rs.length:=by omega
   have hts2:(mkS t).size≤4*n1:=by omega
   clear hd hbe hlw hR hmm hmk hsz hlt' ht hts hc2 htl
   by_cases hcn:c=n1
   ·subst hcn
    obtain rfl:m=c:=by omega
    gi_wp2_with (first|(refine⟨trivial,?_⟩;gi_at_call 156;((with_reducible refine(callsIn_wide.2 (HL.out _ (Below.refl _ _))).mono ?_);rintro e w3 ⟨rfl,hb3⟩))|(refine⟨trivial,?_⟩;gi_at_call 87;((with_reducible refine(callsIn_wide.2 (HT.out _ hb3)).mono ?_);rintro e w4 ⟨rfl,hb4⟩;obtain⟨fn,tmps,assign,body,hy,hR⟩:=HYi.out _ (hb3.trans (hb4.mono hb3.size)))))
    refine hR.mono ?_
    rintro e W3 (⟨rfl,hJ3,hk3⟩|⟨rfl,hJx3⟩)
    ·gi_wp2
     go_roundw
     case rel=>
      refine⟨k+m,pl+(mkS t).size,pre ++ [(pl,(t,w1))],by rw [Int.natCast_add],by omega,by omega,?_,HN.out,by simp;omega,hJ3,?_⟩
      ·have:=HSl.out W3 (.inr ⟨_,hb3.trans (hb4.mono hb3.size),hk3⟩)
       exact(by simpa using this)
      ·exact(HBE.out.trans (KB.of_below (hb3.trans (hb4.mono hb3.size)) (Nat.le_trans hn₀ HBE.out.1))).trans hk3
     case measure=>simp [lenSl];omega
    ·gi_wp2
     refine bodyPost_ret (results_none rfl _ _ _) rfl ?_
     exact⟨⟨_,rfl⟩,.inr ⟨pre ++ [(pl,(t,w1))],⟨_,HN.out.symm⟩,hJx3⟩⟩
   ·have hcn':¬ n1=c:=fun h=>hcn h.symm
    gi_wp2_with (first|(refine⟨trivial,?_⟩;gi_at_call 156;((with_reducible refine(callsIn_wide.2 (HL.out _ (Below.refl _ _))).mono ?_);rintro e w3 ⟨rfl,hb3⟩))|(refine⟨trivial,?_⟩;gi_at_call 87;((with_reducible refine(callsIn_wide.2 (HT.out _ hb3)).mono ?_);rintro e w4 ⟨rfl,hb4⟩;obtain⟨fn,tmps,assign,body,hy,hR⟩:=HYi.out _ (hb3.trans (hb4.mono hb3.size)))))
    refine hR.mono ?_
    rintro e W3 (⟨rfl,hJ3,hk3⟩|⟨rfl,hJx3⟩)
    ·gi_wp2
     go_roundw
     case rel=>
      refine⟨k+n1,pl+(mkS t).size,pre ++ [(pl,(t,w1))],by rw [Int.natCast_add],by omega,by omega,?_,HN.out,by simp;omega,hJ3,?_⟩
      ·have:=HSl.out W3 (.inr ⟨_,hb3.trans (hb4.mono hb3.size),hk3⟩)
       exact(by simpa [hcn] using this)
      ·exact(HBE.out.trans (KB.of_below (hb3.trans (hb4.mono hb3.size)) (Nat.le_trans hn₀ HBE.out.1))).trans hk3
     case measure=>simp [lenSl];omega
    ·gi_wp2
     refine bodyPost_ret (results_none rfl _ _ _) rfl ?_
     exact⟨⟨_,rfl⟩,.inr ⟨pre ++ [(pl,(t,w1))],⟨_,HN.out.symm⟩,hJx3⟩⟩
end Go.Proofs.YtlenbcmgjancmaaGreatDoor
namespace Go.Proofs.YtlenbcmgjancmaaGreatDoor
open Go.RowKit Go.Shelf
attribute [local go_sem] Oper.semAt_some
theorem slice_form {w:World} {B e n:Nat} {v:Value} {xs:List Value} (h:w.ownsRow B e 1 v n xs):∃ A c,v=.slice A n c∧n≤c∧c≤maxLen∧(0<n→∃ g,A=some ⟨g,0,none⟩∧B≤g∧g<w.heap.size∧∀ j u,xs[j]?=some u→w.cell? ⟨g,0+j,none⟩=some u):=by
 rcases h.2 with ⟨rfl,rfl⟩|⟨g,cap,cur,rfl,hb,hg,h1,h2,_⟩
 ·exact⟨none,0,rfl,Nat.le_refl _,Nat.zero_le _,fun h=>absurd h (Nat.lt_irrefl 0)⟩
 ·refine⟨_,cap,rfl,h1,h2,fun _=>⟨g,rfl,hb,(Array.getElem?_eq_some_iff.1 hg).1,fun j u hj=>?_⟩⟩
  have:=h.cells (g:=g) rfl j u hj
  rwa [show (⟨g,0,none⟩:Addr).add j=⟨g,0+j,none⟩ by simp [Addr.add]<;>omega] at this
def AllPost (s:ByteArray) (w:World) (e:Ending) (w':World):Prop :=
 ∃ Bs g v,e=.returned (.func (.func 155) #[] #[.pointer (some ⟨Bs,0,none⟩)])∧w.heap.size≤Bs∧Bs<w'.heap.size∧w.heap.size≤g∧g<w'.heap.size∧w'.cell? ⟨Bs,0,none⟩=some v∧SlR w' g v (runesS s.data.toList)∧Below w.heap.size w w'
set_option maxRecDepth 100000 in
set_option maxHeartbeats 1000000 in
theorem all_any (s:ByteArray) (w:World) (hs:s.size≤100000000000):Calls Tryz.prog 123 #[.string s] w (AllPost s w):=by
 go_enter Tryz.func123,Tryz.ntmps123
 go_wp2_with (go_at_call 82;((with_reducible refine(runes_any s _ hs).mono ?_);rintro e w1 ⟨v,rfl,hb1,hrow⟩;obtain⟨A,c,rfl,h1,h2,h3⟩:=slice_form hrow;have HR:=zH h3;clear h3 hrow))
 go_ret
 have hlen:(runesS s.data.toList).length=(runesS s.data.toList).length:=rfl
 by_cases h0:0<(runesS s.data.toList).length
 ·obtain⟨g,rfl,hgB,hg,hc⟩:=HR.out h0
  refine⟨w1.heap.size,g,_,rfl,hb1.size,by simp,hgB,by simp;omega,World.cell?_alloc_new _ _ _ _,⟨_,c,rfl,h1,h2,fun _=>⟨0,rfl,fun i r hr=>?_⟩⟩,hb1.alloc hb1.size _⟩
  rw [World.cell?_alloc_lt _ _ _ (by simpa using hg)]
  exact hc i _ (by simp [rv,hr])
 ·exact⟨w1.heap.size,w1.heap.size,_,rfl,hb1.size,by simp,hb1.size,by simp,World.cell?_alloc_new _ _ _ _,⟨_,c,rfl,h1,h2,fun h=>absurd h h0⟩,hb1.alloc hb1.size _⟩
theorem elC:ElOK 75 78 2 24 (.agg #[.string ByteArray.empty,.int .i64 0]):=⟨Tryz.underlying75,by kernel_rfl,rfl,by decide,by decide⟩
def BoxN (W:World) (B t:Nat) (cs:Array Value):Prop:=W.heap[B]?=some (.cells cs t (0,0))
def cv (l:List Cl):List Value:=l.flatMap fun c=>[.string (mkS c.1),.int .i64 c.2]
theorem cv_append (a b:List Cl):cv (a ++ b)=cv a ++ cv b:=by simp [cv]
theorem cv_len (l:List Cl):(cv l).length=2*l.length:=by
 induction l with
 |nil=>rfl
 |cons c l ih=>simp only [cv,List.flatMap_cons,List.length_append,List.length_cons,List.length_nil] at ih ⊢;omega
theorem cell_two_new (w:World) (x y:Value) (t:TypeId):∀ j u,[x,y][j]?=some u→(w.alloc (.cells #[x,y] t)).cell? ((⟨w.heap.size,0,none⟩:Addr).add j)=some u:=by
 intro j u hj
 have:=news_of_alloc w #[x,y] t 2 [x,y] rfl j u hj
 rwa [show (⟨w.heap.size,0+j,none⟩:Addr)=(⟨w.heap.size,0,none⟩:Addr).add j by simp [Addr.add]<;>omega] at this
set_option maxRecDepth 100000 in
set_option maxHeartbeats 4000000 in
theorem split_in (s:ByteArray) (hs:s.size≤1000000000) (hrl:(runesS s.data.toList).length≤1000000000) (hlt:∀ x ∈ runesS s.data.toList,x<2147483648) (w:World) :
  Calls Tryz.prog 86 #[.string s] w (VRow 78 2 (clustersS (runesS s.data.toList)).length (cv (clustersS (runesS s.data.toList))) w):=by
 obtain⟨i0,hi,hz0,hz1,hz2⟩:=info_parts elC.hI
 refine(callsIn_wide (n:=3)).1 ?_
 refine callsIn_of_wp_marks Tryz.func86 rfl trivial ?_ rfl
 simp only [Tryz.ntmps86,List.size_toArray,List.length_cons,List.length_nil,Nat.reduceAdd,Nat.reduceSub,Array.replicate_succ,Array.replicate_zero,List.push_toArray,List.append_toArray,List.nil_append,List.cons_append]
 gi_wp2_with (refine⟨trivial,?_⟩;gi_at_call 123;((with_reducible refine(callsIn_wide.2 (all_any s _ (by omega))).mono ?_);rintro e w1 ⟨Bs,g,v,rfl,hBs0,hBs,hg0,hg,hcell,hSl,hb1⟩))
 have hw1:w.heap.size+1≤w1.heap.size:=by have:=hb1.size;simpa using this
 have hBsN:w.heap.size<Bs:=by simp at hBs0;omega
 have hB1:Below w.heap.size w w1:=((Below.refl _ w).alloc (Nat.le_refl _) _).trans (hb1.mono (by simp))
 have bO:Boxed w1 w.heap.size 75 (.slice none 0 0):=(hb1.block w.heap.size (by simp)).trans (World.alloc_heap_new w _)
 have hseq:SeqStopsK Fence.wide 2 Tryz.prog 155 #[.pointer (some ⟨Bs,0,none⟩)] (fun x:PCl=>#[.int .i64 (x.1:Int),clV x.2]) (KB w1.heap.size w.heap.size) (fun ys=>ys.map (·.2)=clustersS (runesS s.data.toList)) (fun pre=>pre.map (·.2) <+: clustersS (runesS s.data.toList)) (runesS s.data.toList).length w1:=by
  intro l J Jx W hW hJ hJx hY h0
  have hgn:g ≠ w.heap.size:=by simp at hg0;omega
  exact all1_in 2 (by omega) l Bs w1.heap.size w.heap.size g v (runesS s.data.toList) hg hgn hrl hlt J Jx
   (fun pre A B h hb=>hJ pre A B none h ⟨hb.os,hb.tape,hb.output,hb.size,fun i hi _=>hb.block i hi⟩ (fun _ e=>nomatch e)) hY W hW.size
   ((hW.cell (p:=⟨Bs,0,none⟩) hBs).trans hcell) (hSl.below hW hg) h0
 refine wpIn_rangeFunc_ownH (w0:=w1) rfl (by omega) (gf:=155) (lb:=#[.pointer (some ⟨Bs,0,none⟩)]) rfl trivial (enters_of Tryz.func155 (by kernel_rfl) rfl)
  hseq (fun h k=>h.trans k) (fun W l o o' hl _ _ _=>KB.put W o' hl) (Below.refl _ _) (fun _=>rfl)
  (fun pre W=>(∃ v,Boxed W w.heap.size 75 v∧W.ownsRow w1.heap.size 78 2 v pre.length (cv (pre.map (·.2))))∧Below w.heap.size w W∧w1.heap.size≤W.heap.size)
  (fun _ _ _=>False) ?hI (fun _ _ _ _ _ hs _ _=>hs) ⟨⟨_,bO,World.ownsRow_nil _ _ _ _⟩,hB1,Nat.le_refl _⟩
  (fun x a' W=>∃ Bx,w.heap.size<Bx∧BoxN W Bx 78 #[.string (mkS x.2.1),.int .i64 x.2.2]∧a'={ tmps:=#[.string s,undef,.slice none 0 0,.pointer (some ⟨w.heap.size,0,none⟩),undef,.pointer (some ⟨Bx,0,none⟩),.string s,.func (.func 155) #[] #[.pointer (some ⟨Bs,0,none⟩)],.int .i64 (x.1:Int),clV x.2,undef,undef,undef,undef,undef],defers:=[] })
  ?hAx ?assign ?body ?done ?stop
 case hI=>
  rintro pre A B row ⟨⟨v1,hv,hrow⟩,hB,hB2⟩ hg' hr
  refine⟨⟨v1,hv.kept hg' (fun e=>?_),hrow.kept hg' ?_⟩,hB.grown hg' hB.size (fun k e=>?_),Nat.le_trans hB2 hg'.size⟩
  ·have:=(hr _ e.symm).1;omega
  ·rcases hrow.2 with ⟨rfl,_⟩|⟨g1,cap,cur,rfl,_,hgb,_⟩
   ·exact .inl rfl
   ·refine .inr fun e'=>?_
    obtain⟨_,o,ho,hcl⟩:=hr g1 (by simpa [Value.ownBlock] using e'.symm)
    rw [hgb] at ho;cases ho;cases hcl
  ·have:=(hr _ e).1;omega
 case hAx=>
  rintro x a' _ A B row ⟨Bx,h1,h2,h3⟩ hg' hr
  refine⟨Bx,h1,(hg'.block Bx (Array.getElem?_eq_some_iff.1 h2).1 (fun e=>?_)).trans h2,h3⟩
  obtain⟨_,o,ho,hcl⟩:=hr Bx e.symm
  rw [show A.heap[Bx]?=_ from h2] at ho;cases ho;cases hcl
 case assign=>
  rintro l pre x W K ⟨⟨v1,hv,hrow⟩,hB,hB2⟩ hK
  dsimp only [clV] at hK ⊢
  gi_wp2
  refine hK _ _ ((KeepsOthers.alloc _ _).from _) (KB.of_below ((Below.refl _ W).alloc (Nat.le_refl _) _) hB2) ⟨⟨v1,hv.alloc _,hrow.alloc _⟩,hB.alloc hB.size _,by simp;omega⟩ ⟨W.heap.size,hv.lt,World.alloc_heap_new W _,rfl⟩
 case body=>
  rintro l pre x a' W hl ⟨r,hr⟩ ⟨⟨v1,hv,hrow⟩,hB,hB2⟩ ⟨Bx,hBx,bX,rfl⟩ hlt
  dsimp only [clV]
  have hc:=hv.cell
  have cX0:W.cell? ⟨Bx,0,none⟩=some (.string (mkS x.2.1)):=by simp [World.cell?,show W.heap[Bx]?=_ from bX]
  have cX1:W.cell? ⟨Bx,1,none⟩=some (.int .i64 x.2.2):=by simp [World.cell?,show W.heap[Bx]?=_ from bX]
  gi_wp2_with (gi_at_builtin;refine wpListIn_append_own _ rfl _ _ 75 rfl w1.heap.size 78 i0 _ 2 24 elC.hT hi hz0 hz1 hz2 rfl (by decide) _ _ _ rfl (hrow.alloc _) ⟨W.heap.size,0,none⟩ 1 1 [.string (mkS x.2.1),.int .i64 x.2.2] rfl rfl (cell_two_new _ _ _ _) (by simp [Value.oneCell']) (by simp [maxLen];omega) (by omega) (by simp;omega) ?_;intro v' w2 hown' hgrow _;obtain⟨g',cap',rfl⟩:=ownsRow_succ hown';obtain⟨hv1,hv2,hr2,hk2,hb2⟩:=hv.appended (by decide) (orow_le hrow (by omega)) hB.size (Nat.le_refl _) (orow_le hown' (by omega)) hgrow;have hc1:=hv1.cell;have hf1:=hv1.frozen)
  refine⟨hk2.from _,⟨hb2.size,fun b hb hne=>?_⟩,⟨_,hv2,?_⟩,hB.trans hb2,Nat.le_trans hB2 hb2.size⟩
  ·refine(Below.heap_setCell _ _ _ b hne).trans ((hgrow.block b (by simp;omega) (fun e=>?_)).trans (Below.heap_alloc W _ b (by omega)))
   have:=(World.ownsRow.lt hrow b e.symm).1
   omega
  ·rw [List.map_append,cv_append,List.length_append]
   exact hown'.kept (grownBy_setCell' w2 w.heap.size _) (.inr (hv1.not_row (by decide) hown').symm)
 case done=>
  rintro D ys W hD hys ⟨⟨v1,hv,hrow⟩,hB,hB2⟩ hK
  have hc:=hv.cell
  gi_wp2
  refine⟨by simp,.inl ⟨_,_,rfl,run_takeDeferred hK,?_⟩⟩
  refine⟨_,results_tmp rfl _ _ _,v1,rfl,hB.trans (belowK_b (w:=w) (Nat.le_refl _) W D _ _ (by omega) hK rfl rfl),?_⟩
  rw [← hys,List.length_map]
  exact orow_le (ownsRow_putObj hrow _ hK rfl) (by omega)
 case stop=>
  rintro D c pre W _ _ h _
  exact h.elim
end Go.Proofs.YtlenbcmgjancmaaGreatDoor
