import Derived.Test.YtlenbcmgjancmaaGreatDoorMn42
import Derived.Great.BuildSlice
set_option linter.unusedVariables false
set_option linter.unusedSimpArgs false
namespace Go.Proofs.YtlenbcmgjancmaaGreatDoor
open Go.RowKit Go.Maps
theorem takeD {P:Program} {md:Region.Mode} {ops:Array Oper} {Q:Exit→Act→World→Prop} {S:World→Prop} {i fuel:Nat} {oi:Oper} {d:Option Tmp} {v:Value} {listed:Array Bool} {a:Act} {w:World} (hi:ops[i]?=some oi) (hd:oi.dst=d)
  (hs:Region.noSelect ops=true) (hf:Region.free md ops listed i=true) (hr:(Region.ready md ops listed).contains i=true)
  (hQ:∀ c a w,Q (.panic c) (a.put oi.dst v) w→Q (.panic c) a w) (hy:YieldsIf P ops S oi v a) (hS:S w)
  (h:wpAnyH P md ops Q S fuel (listed.setIfInBounds i true) (a.put d v) w):wpAnyH P md ops Q S (fuel+1) listed a w:=by
 subst hd
 exact wpAnyH_take hi hs hf hr hQ hy hS h
theorem wp_storeN {o:Oper} {a:Act} {W:World} {K:Act→World→Prop} {Q:Exit→Act→World→Prop} {x y:Operand} {c c':Array Value} (ho:o.op=.store 46 x y) (hx:a.eval x=.pointer (some ⟨W.heap.size,0,none⟩)) (hy:a.eval y=.agg c') (hc:c.size=34) (hc':c'.size=34) (h1:c'.all (·.oneCell')=true)
  (h:K (a.put o.dst undef) (W.alloc (.cells c' 46))):Oper.wp Tryz.prog o a (W.alloc (.cells c 46)) K Q:=by
 unfold Oper.wp execOp
 have hi:(Tryz.prog.info? 46).map (·.size)=some c'.size:=by rw [hc'];kernel_rfl
 simp only [ho,hx,hy,run_storeAt_new W 46 c c' hi (hc.trans hc'.symm) h1,Result.andThen,Sem.run_bind,Sem.run_pure]
 exact h
theorem fill_one (c:Array Value) (hc:c.size=34) (base:Array Value) (hb:base.size=34):Instr.fill (fun i=>some (i*34,34)) base [(0,.agg c)]=some c:=by
 have h:=Great.fill_whole (s:=34) (by decide) [.agg c] base (by intro v hv;rw [List.mem_singleton] at hv;subst hv;exact hc) (by simp [hb])
 simpa [Value.cells] using h
theorem wpList_append_nd {ops:Array Oper} {rest:List Oper} {a:Act} {Q:Exit→Act→World→Prop} {W:World} {dst:Option Tmp} {ty:TypeId} {s x:Operand} {pos:String} {after:Array Edge} {v:Value} {xs:List Value} {nw:Array Value} {B g n:Nat}
  (hs:a.eval s=v) (hx:a.eval x=.slice (some ⟨g,0,none⟩) 1 1) (hg:g=W.heap.size) (hrow:W.ownsRow B 46 34 v n xs) (hB:B≤W.heap.size) (hlen:n<1000000000)
  (hn:nw.size=34) (h1:∀ u ∈ nw.toList,u.oneCell'=true)
  (h:∀ v' w',w'.ownsRow B 46 34 v' (n+1) (xs ++ nw.toList)→(W.alloc (.cells nw 46)).grownBy w' v.ownBlock→(v'.ownBlock=v.ownBlock∨v'.ownBlock=some (W.heap.size+1))→wpList Tryz.prog ops Q rest (a.put dst v') w') :
  wpList Tryz.prog ops Q ({ dst:=dst,op:=.call { callee:=.builtin .append,args:=#[s,x],argTypes:=#[22,22] },type:=ty,pos:=pos,after:=after,guard:=none } :: rest) a (W.alloc (.cells nw 46)):=by
 obtain⟨i0,hi,hz0,hz1,hz2⟩:=info_parts zeroNode
 subst hg
 refine wpList_append_place (w:=W.alloc (.cells nw 46)) rfl s x 22 rfl B 46 i0 _ 34 288 Tryz.underlying22 hi hz0 hz1 hz2 rfl (by decide) v n xs hs (hrow.alloc _)
  ⟨W.heap.size,0,none⟩ 1 1 nw.toList hx (by simp [hn]) ?_ h1 ?_ ?_ ?_ (by decide) ?_
 ·intro j u hj
  have hj':j<nw.size:=by have:=(List.getElem?_eq_some_iff.1 hj).1;simpa using this
  have:(W.alloc (.cells nw 46)).cell? ⟨W.heap.size,0+j,none⟩=nw[j]?:=by rw [Nat.zero_add];exact World.cell?_alloc_new _ _ _ _
  rw [show (⟨W.heap.size,0,none⟩:Addr).add j=⟨W.heap.size,0+j,none⟩ by simp [Addr.add];omega]
  exact this.trans (by simpa using hj)
 ·simp [maxLen];omega
 ·omega
 ·simp;omega
 ·intro v' w' hown hgr hp
  rw [World.size_alloc] at hp
  exact h v' w' hown hgr hp
theorem wpList_build1 {ops:Array Oper} {rest:List Oper} {a:Act} {Q:Exit→Act→World→Prop} {W:World} {dst:Option Tmp} {ty:TypeId} {x:Operand} {pos:String} {after:Array Edge} {c:Array Value} (hx:a.eval x=.agg c) (hc:c.size=34)
  (h:wpList Tryz.prog ops Q rest (a.put dst (.slice (some ⟨W.heap.size,0,none⟩) 1 1)) (W.alloc (.cells c 46))) :
  wpList Tryz.prog ops Q ({ dst:=dst,op:=.buildSlice 22 1 #[(0,x)],type:=ty,pos:=pos,after:=after,guard:=none } :: rest) a W:=by
 obtain⟨i0,hi,hi0,hi1,hi2⟩:=info_parts zeroNode
 refine wpList_buildSlice rfl 22 46 1 _ rfl c i0 _ Tryz.underlying22 hi hi0 (by rw [hi1];decide) (by rw [hi1];decide) ?_ h
 rw [hi1,show ((#[(0,x)]:Array (Nat × Operand)).map fun (i,x)=>(i,a.eval x)).toList=[(0,.agg c)] by simp [hx]]
 exact fill_one c hc _ (by simp)
theorem tabF_ren:TRen tabF:=fun _ _=>⟨rfl,rfl,rfl⟩
theorem pls_start (w:World) (N:Nat) (L:List Int) (hN:N≤4096):PlS w w.heap.size N L 0 (w.alloc (.cells (madeCells #[.int .i64 0] N) 3)):=by
 refine⟨List.replicate N 0,by simp,?_,Below.alloc (Below.refl _ _) (Nat.le_refl _) _,fun j o hj=>by omega⟩
 have:=World.ownsRow_lit (base:=w.heap.size) (e:=3) (size:=1) w (madeCells #[.int .i64 0] N) N (Nat.le_refl _) (by unfold maxLen;omega) (by simp [size_madeCells])
 rw [toList_madeCells_one] at this
 simpa [ivl,List.map_replicate] using this
set_option maxRecDepth 100000 in
set_option maxHeartbeats 8000000 in
theorem numbers_any (w:World) (p:Option Addr) (c:Nat) (ns:List ND) (z:Int) (hT:TreeAt w p ns) (hl:ns.length≤4398046511104) (h8:∀ x ∈ ns,X8 x) (hz:∀ x ∈ ns,NSz x) (hz64:I64 z) :
  Calls Tryz.prog 6 #[.agg #[.slice p ns.length c],.int .i64 z] w (VBel (.bool true) w):=by
 have hid:∀ x ∈ ns,x.id.size≤maxLen:=fun x hx=>Nat.le_trans (hz x hx).id (by decide)
 have HBY:=zH (fun W (hb:Below w.heap.size w W)=>beyond_any W p c ns (hT.below hb) hl hz)
 have HNW:=zH (fun W (hb:Below w.heap.size w W)=>new_gen W p c ns (hT.below hb) hl hid h8)
 have HOR:=zH (fun W (hb:Below w.heap.size w W) (h0:(checkS ns).1=0)=>order_any W p c ns (hT.below hb) hl hid h8 h0)
 have HTA:=zH hT
 have HX8:=zH h8
 have HID:=zH hid
 have HNZ:=zH hz
 obtain⟨N,hN⟩:∃ N,ns.length=N:=⟨_,rfl⟩
 have HN:=zH hN
 rw [hN] at HBY HNW HOR ⊢
 have hb1:Below w.heap.size w (w.alloc (.cells #[.slice p N c] 24)):=Below.alloc (Below.refl _ _) (Nat.le_refl _) _
 have hc1:(w.alloc (.cells #[.slice p N c] 24)).cell? ⟨w.heap.size,0,none⟩=some (.slice p N c):=(show Arr (w.alloc (.cells #[.slice p N c] 24)) w.heap.size [.slice p N c] 24 from heap_alloc_new w _).cell (j:=0) rfl
 have hz1:w.heap.size<(w.alloc (.cells #[.slice p N c] 24)).heap.size:=by simp
 have HB1:=zH hb1
 have HC1:=zH hc1
 have HZ1:=zH hz1
 clear hT hl h8 hz hid hN hb1 hc1 hz1
 go_enter Tryz.func6,Tryz.ntmps6
 go_upto_region 1 with (fail)
 generalize w.alloc (.cells #[.slice p N c] 24)=w1 at HB1 HC1 HZ1 ⊢
 have c1:=HC1.out
 have l1:=HZ1.out
 go_upto_if 19 with (go_at_call 7;((with_reducible refine(HBY.out _ HB1.out).mono ?_);rintro e1' w2 ⟨b,rfl,hb2⟩;have HB2:Hid (Below w1.heap.size w1 w2):=zH hb2;have c2:=(HB2.out.cell (p:=⟨w.heap.size,0,none⟩) HZ1.out).trans HC1.out;have l2:w.heap.size<w2.heap.size:=Nat.lt_of_lt_of_le HZ1.out HB2.out.size;have HW2:=zH (HB1.out.trans (HB2.out.mono HB1.out.size));clear hb2))
 cases b
 ·by_cases h0:(checkS ns).1=0
  ·have hG:=tree_good h0
   have hNs:1≤N∧N≤4096:=by have:=hG.len;rwa [HN.out] at this
   obtain⟨g,o0,rfl,hg0,_⟩:=HTA.out 0 _ (List.getElem?_eq_getElem (by rw [HN.out];omega))
   have HND:Hid (∀ (m:Nat) x,ns[m]?=some x→∃ kv cv,NodeV w g (o0+m*34) x kv cv∧SlI w kv x.kids∧SlT w cv x.cols):=zH fun m x hx=>by
    obtain⟨g',o',e,_,kv,cv,h1,h2,h3⟩:=HTA.out m x hx
    obtain⟨rfl,rfl⟩:g=g'∧o0=o':=by simpa using e
    exact⟨kv,cv,h1,h2,h3⟩
   have HG:Hid (∀ W e W',NewG ns W e W'→∃ pm g bk bm cc,e=.returned (.tuple #[.pointer (some ⟨pm,0,none⟩),.int .i64 0])∧Below W.heap.size W W'∧W.heap.size≤bm∧MG ⟨pm,g,bk,bm,cc,ns,measF tabF ns⟩ W'):=zH fun W e W' h=>h.ok h0
   have HOD:=zH (fun W hb=>HOR.out W hb h0)
   have HGD:=zH hG
   have hmk:=mk_ints6 N (by omega)
   clear h0 hG HOR
   go_upto_region 10 with (first|(go_at_call 8;((with_reducible refine(HNW.out _ HW2.out).mono ?_);rintro e1' w3 h3;obtain⟨pm,gm,bk,bm,cc,rfl,hb3,hm3,hM3⟩:=HG.out _ _ _ h3;have HB3:=zH hb3;have HM3:=zH hM3;have HQ3:=zH hm3;have c3:=(HB3.out.cell (p:=⟨w.heap.size,0,none⟩) l2).trans c2;have l3:w.heap.size<w3.heap.size:=Nat.lt_of_lt_of_le l2 HB3.out.size;have HW3:=zH (HW2.out.trans (HB3.out.mono HW2.out.size));clear h3 hb3 hM3 hm3))|(go_at_call 18;((with_reducible refine(HOD.out _ HW3.out).mono ?_);rintro e1' w4 ⟨v7,rfl,hb4,hr4⟩;obtain⟨A7,cap7,rfl,_,_,h73⟩:=slice_form2 hr4;obtain⟨go,rfl,hgo1,hgo2,hgo3⟩:=h73 (by omega);have HGO:=zH hgo3;have HGO1:=zH hgo1;have HB4:=zH hb4;have c4:=(HB4.out.cell (p:=⟨w.heap.size,0,none⟩) l3).trans c3;have l4:w.heap.size<w4.heap.size:=Nat.lt_of_lt_of_le l3 HB4.out.size;have HW4:=zH (HW3.out.trans (HB4.out.mono HW3.out.size));clear hb4 hr4 h73 hgo3)))
   have HP0:=zH (pls_start w4 N (preL ns) hNs.2)
   have HNs:=zH hNs
   have hgo4:go<w4.heap.size:=hgo2
   clear hgo1 hgo2 c1 c2 c3 l1 l2 l3 hmk
   go_wp2
   go_loopw [9] (fun i wr=>∃ k:Nat,i=.int .i64 k∧k≤N∧Hid (PlS w4 w4.heap.size N (preL ns) k wr)) (fun i _=>N - (intOf i).toNat)
   case atStart=>exact⟨0,rfl,by omega,HP0⟩
   case round=>
    obtain⟨k,rfl,hk,HS⟩:=hrel
    have hcell:∀ W,Below w4.heap.size w4 W→∀ (j:Nat) o,(preL ns)[j]?=some o→W.cell? ⟨go,j,none⟩=some (.int .i64 o):=fun W hb j o ho=>(hb.cell (p:=⟨go,j,none⟩) hgo4).trans (HGO.out j _ (by simp [ivl,ho]))
    have HCL:=zH hcell
    have hprl:(preL ns).length=N:=by rw [← HN.out];exact pre_len HGD.out
    have hprm:∀ a ∈ preL ns,0≤a∧a<(N:Int):=fun a ha=>by have:=(pre_mem HGD.out).1 ha;rwa [HN.out] at this
    have HPM:=zH hprm
    have HPL:=zH hprl
    clear hcell hprm hprl
    by_cases hlt:k<N
    ·have hltI:(k:Int)<(N:Int):=by omega
     obtain⟨o,ho⟩:∃ o,(preL ns)[k]?=some o:=⟨_,List.getElem?_eq_getElem (by rw [HPL.out];omega)⟩
     have hor:=HPM.out o (List.mem_of_getElem? ho)
     obtain⟨m,rfl⟩:∃ m:Nat,o=m:=⟨o.toNat,by omega⟩
     obtain⟨hor1,hor2⟩:=hor
     have hNX:Hid (PlS w4 w4.heap.size N (preL ns) (k+1) (wr.setCell ⟨w4.heap.size,m,none⟩ (.int .i64 k))):=zH (by
      have:=HS.out.put (pre_nd HGD.out) HPM.out ho (Nat.le_refl _)
      rwa [Int.toNat_natCast] at this)
     obtain⟨P,hPl,hrow,hbel,_⟩:=HS.out
     have q1:=HCL.out wr hbel k _ ho
     have q2:=hrow.cellAt m (by omega)
     rw [show (ivl P)[m]?=some (.int .i64 P[m]) by simp [ivl,show m<P.length by omega]] at q2
     have q3:=hrow.frozenAt m
     have q4:go<wr.heap.size:=Nat.lt_of_lt_of_le hgo4 hbel.size
     have q5:w4.heap.size<wr.heap.size:=World.block_lt_of_cell? wr _ q2
     generalize P[m]=y at q2
     clear hrow hbel hPl ho HCL HPM HPL
     generalize w4.heap.size=bP at *
     go_wp2
     go_roundw
     case rel=>exact⟨k+1,by first|rfl|go_num,by omega,hNX⟩
     case measure=>simp [intOf]<;>omega
    ·have hltI:decide ((k:Int)<(N:Int))=false:=decide_eq_false (by omega)
     obtain rfl:k=N:=by omega
     obtain⟨P,hPl,hrow,hbel,hpl⟩:=HS.out
     obtain⟨w5,rfl⟩:∃ w5,w5=wr:=⟨wr,rfl⟩
     have HPO:Hid (PlOk ns (plOf P)):=zH fun i o ho=>by
      have hi:=(List.getElem?_eq_some_iff.1 ho).1
      unfold plOf
      rw [hpl i o (by rw [← HPL.out];exact hi) ho]
      rfl
     have HPC:Hid (∀ W,Below w5.heap.size w5 W→∀ o:Nat,o<k→W.cell? ⟨w4.heap.size,o,none⟩=some (.int .i64 (plOf P o))):=zH fun W hb o ho=>by
      have q2:=hrow.cellAt o (by omega)
      rw [show (ivl P)[o]?=some (.int .i64 (plOf P o)) by simp [ivl,plOf,show o<P.length by omega]] at q2
      exact(hb.cell (p:=⟨w4.heap.size,o,none⟩) (World.block_lt_of_cell? _ _ q2)).trans q2
     have hlP:w4.heap.size<w5.heap.size:=(hrow.lt w4.heap.size rfl).2
     have HB5:=zH hbel
     have HQ0:Hid (NumQ w5 w5.heap.size (.slice none 0 0) [] (w5.alloc (.cells #[.slice none 0 0] 24))):=zH ⟨Boxed.new _ _ _,World.ownsRow_nil _ _ _ _,by simp,by simp,Nat.le_refl _,Below.alloc (Below.refl _ _) (Nat.le_refl _) _⟩
     have C4:=zH c4
     have L4:=zH l4
     have HLP:=zH hlP
     clear hPl hrow hbel hpl HS c4 l4 hlP
     go_wp2
     go_loopw [11] (fun i wr=>∃ a:Nat,i=.int .i64 a∧a≤k∧Hid (∃ v T,NumQ w5 w5.heap.size v T wr∧T.map (·.1)=(renS ns (plOf P)).take a)) (fun i _=>k - (intOf i).toNat)
     case atStart=>exact⟨0,rfl,by omega,⟨_,_,HQ0.out,by simp⟩⟩
     case round=>
      obtain⟨a,rfl,ha,HI⟩:=hrel
      by_cases hlt:a<k
      ·have hltI:(a:Int)<(k:Int):=by omega
       obtain⟨v,T,hQ,hTm⟩:=HI.out
       obtain⟨o,ho⟩:∃ o,(preL ns)[a]?=some o:=⟨_,List.getElem?_eq_getElem (by rw [HPL.out];omega)⟩
       have hor:=HPM.out o (List.mem_of_getElem? ho)
       obtain⟨m,rfl⟩:∃ m:Nat,o=m:=⟨o.toNat,by omega⟩
       obtain⟨hor1,hor2⟩:=hor
       have hxm:ns[m]?=some (ndF ns m):=by
        have:=ndF_at (ns:=ns) hor1 (by rw [HN.out];exact hor2)
        rwa [Int.toNat_natCast] at this
       have hb4:Below w4.heap.size w4 wr:=HB5.out.trans (hQ.bel.mono HB5.out.size)
       have hbw:Below w.heap.size w wr:=HW4.out.trans (hb4.mono HW4.out.size)
       obtain⟨kv,cv,hnd,hkv,hcv⟩:=HND.out m _ hxm
       have HKD:Hid (∀ y ∈ (ndF ns m).kids,0≤y∧y<(k:Int)):=zH fun y hy=>by
        have:=HGD.out.kid (n:=m) hor1 (by rw [HN.out];exact hor2) hy
        rw [HN.out] at this
        omega
       have HRN:Hid ((renS ns (plOf P)).take (a+1)=(renS ns (plOf P)).take a ++ [renN (plOf P) (ndF ns m)]):=zH (take_step (ren_at HGD.out ho))
       have a1:=(hb4.cell (p:=⟨w.heap.size,0,none⟩) L4.out).trans C4.out
       have a2:=HCL.out wr hb4 a _ ho
       have lr1:w.heap.size<wr.heap.size:=Nat.lt_of_lt_of_le L4.out hb4.size
       have lr2:go<wr.heap.size:=Nat.lt_of_lt_of_le hgo4 hb4.size
       have lr3:g<wr.heap.size:=Nat.lt_of_lt_of_le hg0 hbw.size
       have hk1:=slI_one hkv
       have hc1:=slT_one hcv
       have HRG:Hid (wr.rangeAt g (o0+m*34) (node34 (ndF ns m) kv cv)):=zH (hnd.below hbw hg0).of34
       have HON:Hid (∀ u ∈ node34 (ndF ns m) kv cv,u.oneCell'=true):=zH (node34_one hk1 hc1)
       have HV6:Hid (NodeV (wr.drew.alloc (.cells (node34 (ndF ns m) kv cv).toArray 46)) wr.heap.size 0 (ndF ns m) kv cv):=zH (nodeV_34 fun q u hu=>by
        rw [Nat.zero_add]
        exact(show Arr (wr.drew.alloc (.cells (node34 (ndF ns m) kv cv).toArray 46)) wr.heap.size (node34 (ndF ns m) kv cv) 46 from heap_alloc_new wr.drew _).cell hu)
       have HB6:Hid (Below wr.heap.size wr (wr.drew.alloc (.cells (node34 (ndF ns m) kv cv).toArray 46))):=zH (Below.alloc (Below.drew (Below.refl _ _)) (Nat.le_refl _) _)
       have HF6:Hid ((wr.drew.alloc (.cells (node34 (ndF ns m) kv cv).toArray 46)).frozen? ⟨wr.heap.size,3,none⟩=false):=zH (frozen_of_row _ _ 3 _ _ (heap_alloc_new wr.drew _))
       have HZ6:Hid (wr.heap.size<(wr.drew.alloc (.cells (node34 (ndF ns m) kv cv).toArray 46)).heap.size):=zH (by simp)
       have hl34:(node34 (ndF ns m) kv cv).length=34:=rfl
       have HCO:=zH hc1
       clear hnd ho hxm hk1 hc1 hb4
       go_upto_region 18 with (fail)
       generalize hcs:node34 (ndF ns m) kv cv=cs at HRG HON HV6 HB6 HF6 HZ6 hl34
       have HCS:=zH hcs
       clear hcs
       refine wp_region_held_drew (S:=fun W=>W.cell? ⟨w.heap.size,0,none⟩=some (.slice (some ⟨g,o0,none⟩) k c)∧W.cell? ⟨go,a,none⟩=some (.int .i64 m)∧W.rangeAt g (o0+m*34) cs) (by kernel_rfl) ⟨a1,a2,HRG.out⟩ (fun hHeld=>?_)
       refine takeD (i:=0) (d:=some 62) (v:=.pointer (some ⟨w.heap.size,0,none⟩)) rfl rfl (by kernel_rfl) (by kernel_rfl) (by kernel_rfl) (fun _ _ _ h=>h) (Or.inl ⟨by rfl,fun W hSw=>by obtain⟨h1,h2,h3⟩:=hSw;go_simp⟩) hHeld ?_
       simp only [Act.put,List.setIfInBounds_toArray,List.set_cons_zero,List.set_cons_succ]
       refine takeD (i:=1) (d:=some 63) (v:=.slice (some ⟨g,o0,none⟩) k c) rfl rfl (by kernel_rfl) (by kernel_rfl) (by kernel_rfl) (fun _ _ _ h=>h) (Or.inl ⟨by rfl,fun W hSw=>by obtain⟨h1,h2,h3⟩:=hSw;go_simp⟩) hHeld ?_
       simp only [Act.put,List.setIfInBounds_toArray,List.set_cons_zero,List.set_cons_succ]
       refine takeD (i:=2) (d:=some 64) (v:=.slice (some ⟨go,0,none⟩) k cap7) rfl rfl (by kernel_rfl) (by kernel_rfl) (by kernel_rfl) (fun _ _ _ h=>h) (Or.inl ⟨by rfl,fun W hSw=>by obtain⟨h1,h2,h3⟩:=hSw;go_simp⟩) hHeld ?_
       simp only [Act.put,List.setIfInBounds_toArray,List.set_cons_zero,List.set_cons_succ]
       refine takeD (i:=3) (d:=some 65) (v:=.int .i64 a) rfl rfl (by kernel_rfl) (by kernel_rfl) (by kernel_rfl) (fun _ _ _ h=>h) (Or.inl ⟨by rfl,fun W hSw=>by obtain⟨h1,h2,h3⟩:=hSw;go_simp⟩) hHeld ?_
       simp only [Act.put,List.setIfInBounds_toArray,List.set_cons_zero,List.set_cons_succ]
       refine takeD (i:=4) (d:=some 66) (v:=.pointer (some ⟨go,a,none⟩)) rfl rfl (by kernel_rfl) (by kernel_rfl) (by kernel_rfl) (fun _ _ _ h=>h) (Or.inl ⟨by rfl,fun W hSw=>by obtain⟨h1,h2,h3⟩:=hSw;go_simp⟩) hHeld ?_
       simp only [Act.put,List.setIfInBounds_toArray,List.set_cons_zero,List.set_cons_succ]
       refine takeD (i:=5) (d:=some 67) (v:=.int .i64 m) rfl rfl (by kernel_rfl) (by kernel_rfl) (by kernel_rfl) (fun _ _ _ h=>h) (Or.inl ⟨by rfl,fun W hSw=>by obtain⟨h1,h2,h3⟩:=hSw;go_simp⟩) hHeld ?_
       simp only [Act.put,List.setIfInBounds_toArray,List.set_cons_zero,List.set_cons_succ]
       refine takeD (i:=6) (d:=some 68) (v:=.pointer (some ⟨g,o0+m*34,none⟩)) rfl rfl (by kernel_rfl) (by kernel_rfl) (by kernel_rfl) (fun _ _ _ h=>h) (Or.inl ⟨by rfl,fun W hSw=>by obtain⟨h1,h2,h3⟩:=hSw;go_simp⟩) hHeld ?_
       simp only [Act.put,List.setIfInBounds_toArray,List.set_cons_zero,List.set_cons_succ]
       refine takeD (i:=7) (d:=some 69) (v:=.agg cs.toArray) rfl rfl (by kernel_rfl) (by kernel_rfl) (by kernel_rfl) (fun _ _ _ h=>h) (yieldsIf_load_mid (by rfl) _ _ rfl _ _ rfl cs _ (fun W h=>h.2.2) Tryz.underlying46 rfl (by rw [hl34];kernel_rfl)) hHeld ?_
       simp only [Act.put,List.setIfInBounds_toArray,List.set_cons_zero,List.set_cons_succ]
       refine wpAnyH_ready (rs:=[8]) (by kernel_rfl) (by simp) ?_
       refine AllReadyH.cons rfl (fun K hK=>?_) AllReadyH.nil
       go_simp
       refine hK.out _ _ ⟨(World.cell?_alloc_lt _ _ ⟨w.heap.size,0,none⟩ lr1).trans hHeld.1,(World.cell?_alloc_lt _ _ ⟨go,a,none⟩ lr2).trans hHeld.2.1,fun j u hu=>(World.cell?_alloc_lt _ _ ⟨g,o0+m*34+j,none⟩ lr3).trans (hHeld.2.2 j u hu)⟩ (fun hHeld2=>?_)
       (try simp only [Act.put,List.setIfInBounds_toArray,List.set_cons_zero,List.set_cons_succ])
       refine wpAnyH_ready (rs:=[9]) (by kernel_rfl) (by simp) ?_
       refine AllReadyH.cons rfl (fun K2 hK2=>?_) AllReadyH.nil
       rw [if_pos (by rfl)]
       refine wp_storeN (W:=wr.drew) rfl rfl rfl rfl (by simpa using hl34) (by
        rw [List.all_toArray]
        exact List.all_eq_true.2 fun u hu=>HON.out u hu) ?_
       refine hK2.out _ _ ⟨(World.cell?_alloc_lt _ _ ⟨w.heap.size,0,none⟩ lr1).trans hHeld.1,(World.cell?_alloc_lt _ _ ⟨go,a,none⟩ lr2).trans hHeld.2.1,fun j u hu=>(World.cell?_alloc_lt _ _ ⟨g,o0+m*34+j,none⟩ lr3).trans (hHeld.2.2 j u hu)⟩ (fun hHeld3=>wpAnyH_done (by kernel_rfl) ?_ _)
       (try simp only [Act.put])
       clear hHeld hHeld2 hHeld3 hK hK2 K K2
       obtain⟨wo,rfl⟩:∃ wo,wo=wr:=⟨wr,rfl⟩
       generalize wo.drew.alloc (.cells cs.toArray 46)=w6 at HV6 HB6 HF6 HZ6 ⊢
       go_wp2
       have HBO:Hid (Below w.heap.size w w6):=zH (hbw.trans (HB6.out.mono hbw.size))
       have HBQ:Hid (Below w5.heap.size w5 w6):=zH (hQ.bel.trans (HB6.out.mono hQ.bel.size))
       have HQT:=zH hQ
       have HTM:=zH hTm
       obtain⟨pk,ck,rfl,hkl,hkx⟩:=hkv
       have HKX:=zH hkx
       have HCV:=zH hcv
       have c3w:=HV6.out.kids
       simp only [Nat.zero_add] at c3w
       have C3W:=zH c3w
       obtain⟨Q,hQl⟩:∃ Q,(ndF ns m).kids.length=Q:=⟨_,rfl⟩
       have hQb:Q≤4096:=by
        have h1:=(HGD.out.node m _ (by have:=ndF_at (ns:=ns) hor1 (by rw [HN.out];exact hor2);rwa [Int.toNat_natCast] at this)).ok.kl
        have h2:=HN.out
        omega
       have HQL:=zH hQl
       rw [hQl] at C3W hkl
       have LZ6:=HZ6.out
       clear hcv hbw hQ hTm hkx hQl c3w a1 a2 lr1 lr2 lr3
       go_loopw [13,14] (fun s i wr=>∃ b:Nat,i=.int .i64 b∧b≤Q∧Hid (wr.ownsRow w6.heap.size 3 1 s b (ivl (((ndF ns m).kids.take b).map (plOf P))))∧Hid (Below w6.heap.size w6 wr)) (fun _ i _=>Q - (intOf i).toNat)
       case atStart=>exact⟨0,rfl,by omega,World.ownsRow_nil _ _ _ _,zH (Below.refl _ _)⟩
       case round=>
        obtain⟨b,rfl,hb,HR,HB⟩:=hrel
        have c3:=(HB.out.cell (p:=⟨wo.heap.size,3,none⟩) LZ6).trans C3W.out
        have l6:wo.heap.size<wr.heap.size:=Nat.lt_of_lt_of_le LZ6 HB.out.size
        by_cases hlt2:b<Q
        ·have hlt2I:(b:Int)<(Q:Int):=by omega
         obtain⟨y,hy⟩:∃ y,(ndF ns m).kids[b]?=some y:=⟨_,List.getElem?_eq_getElem (by rw [HQL.out];omega)⟩
         obtain⟨gk,ok,rfl,hgk,hck⟩:=HKX.out b y hy
         have hyr:=HKD.out y (List.mem_of_getElem? hy)
         obtain⟨yn,rfl⟩:∃ yn:Nat,y=yn:=⟨y.toNat,by omega⟩
         have hyk:yn<k:=by omega
         have hykI:(yn:Int)<(k:Int):=by omega
         have hbw:Below w.heap.size w wr:=HBO.out.trans (HB.out.mono HBO.out.size)
         have hb5:Below w5.heap.size w5 wr:=HBQ.out.trans (HB.out.mono HBQ.out.size)
         have e1:=(hbw.cell (p:=⟨gk,ok+b,none⟩) hgk).trans hck
         have e2:=HPC.out wr hb5 yn hyk
         have lk:gk<wr.heap.size:=Nat.lt_of_lt_of_le hgk hbw.size
         have lp:w4.heap.size<wr.heap.size:=Nat.lt_of_lt_of_le HLP.out hb5.size
         have HNX:Hid (((ndF ns m).kids.take (b+1)).map (plOf P)=((ndF ns m).kids.take b).map (plOf P) ++ [plOf P yn]):=zH (by rw [List.take_add_one,hy];simp)
         have hB6:=HB.out.size
         have HLB:Hid (b<1000000000000):=zH (by omega)
         generalize plOf P yn=py at e2 HNX
         generalize hks:(ndF ns m).kids=ks at HR HNX
         clear hyr hy hck hbw hb5 hks
         go_wp2_with ((with_reducible apply wpList_append_new elI (B:=w6.heap.size) (n:=b) (xs:=ivl ((ks.take b).map (plOf P))) (nw:=#[.int .i64 py]));exact rfl;exact rfl;(first|exact rfl|simp);exact HR.out;exact hB6;exact HLB.out;exact rfl;(intro u hu;simp at hu;subst hu;rfl);intro v9 w9 hrow9 hgr9 hpl9 K9 hK9;have HR9:Hid (w9.ownsRow w6.heap.size 3 1 v9 (b+1) (ivl ((ks.take (b+1)).map (plOf P)))):=zH (by rw [HNX.out];simpa [ivl] using hrow9);have HB9:Hid (Below w6.heap.size w6 w9):=zH ((HB.out.alloc hB6 _).grown hgr9 (by simp;omega) (fun q e=>(HR.out.lt q e).1));clear hrow9 hgr9 hpl9)
         go_roundw
         case rel=>exact⟨b+1,by first|rfl|go_num,by omega,HR9,HB9⟩
         case measure=>simp [intOf]<;>omega
        ·have hlt2I:decide ((b:Int)<(Q:Int))=false:=decide_eq_false (by omega)
         obtain rfl:b=Q:=by omega
         obtain⟨w7,rfl⟩:∃ w7,w7=wr:=⟨wr,rfl⟩
         have hrow:=HR.out
         rw [List.take_of_length_le (show (ndF ns m).kids.length≤b by rw [HQL.out];exact Nat.le_refl _)] at hrow
         have hsl:SlI w7 _ ((renN (plOf P) (ndF ns m)).kids):=sli_row (B:=w6.heap.size) (o:=(ndF ns m).kids.map (plOf P)) (by rw [List.length_map,HQL.out];exact hrow) (by rw [List.length_map,HQL.out];omega)
         have hof:=fun (q:Nat) (hq:q<w6.heap.size)=>off_row hrow ((renN (plOf P) (ndF ns m)).kids) hq
         have HOF:=zH hof
         clear hof
         obtain⟨A,cs2,rfl,_,_,_⟩:=slice_form2 hrow
         have f3:w7.frozen? ⟨wo.heap.size,3,none⟩=false:=(HB.out.frozen (p:=⟨wo.heap.size,3,none⟩) LZ6).trans HF6.out
         have HV8:Hid (NodeV (w7.setCell ⟨wo.heap.size,3,none⟩ (.slice A b cs2)) wo.heap.size 0 (renN (plOf P) (ndF ns m)) (.slice A b cs2) cv):=zH (by
          have:=((HV6.out.below HB.out LZ6).setKids (.slice A b cs2)).ren (plOf P)
          rwa [Nat.zero_add] at this)
         have HQ8:Hid (NumQ w5 w5.heap.size v T (w7.setCell ⟨wo.heap.size,3,none⟩ (.slice A b cs2))):=zH (HQT.out.below ((HB6.out.trans (HB.out.mono HB6.out.size)).setCell (p:=⟨wo.heap.size,3,none⟩) (Nat.le_refl _) _))
         have HK8:Hid (SlI (w7.setCell ⟨wo.heap.size,3,none⟩ (.slice A b cs2)) (.slice A b cs2) ((renN (plOf P) (ndF ns m)).kids)):=zH (hsl.setN (HOF.out _ LZ6) 3 _)
         have HL8:Hid (wo.heap.size<(w7.setCell ⟨wo.heap.size,3,none⟩ (.slice A b cs2)).heap.size):=zH (by simpa using l6)
         clear hrow hsl
         go_upto_region 25 with (fail)
         generalize w7.setCell ⟨wo.heap.size,3,none⟩ (.slice A b cs2)=w8 at HV8 HQ8 HK8 HL8 ⊢
         have c10:=HQ8.out.box.cell
         have l10:=HQ8.out.box.lt
         have hN1:∀ u ∈ node34 (renN (plOf P) (ndF ns m)) (.slice A b cs2) cv,u.oneCell'=true:=node34_one rfl HCO.out
         have HN1:=zH hN1
         have HG34:=zH HV8.out.of34
         have HAD:Hid (∀ w9 v' tmp,w9.ownsRow w5.heap.size 46 34 v' (T.length+1) (flatN T ++ node34 (renN (plOf P) (ndF ns m)) (.slice A b cs2) cv)→(w8.alloc tmp).grownBy w9 v.ownBlock→(v'.ownBlock=v.ownBlock∨v'.ownBlock=some (w8.heap.size+1))→NumQ w5 w5.heap.size v' (T ++ [(renN (plOf P) (ndF ns m),.slice A b cs2,cv)]) (w9.setCell ⟨w5.heap.size,0,none⟩ v')):=zH fun w9 v' tmp r1 r2 r3=>by
          have hq6:w5.heap.size<w6.heap.size:=Nat.lt_of_lt_of_le HQT.out.box.lt HB6.out.size
          refine HQ8.out.add HK8.out (HOF.out _ hq6) (fun q hq=>HOF.out q ?_) ?_ r1 r2 r3
          ·exact Nat.lt_of_lt_of_le (HQT.out.row.lt q hq).2 HB6.out.size
          ·exact HCV.out.below (HW4.out.trans (HB5.out.mono HW4.out.size))
         have hn34:(node34 (renN (plOf P) (ndF ns m)) (.slice A b cs2) cv).length=34:=rfl
         generalize node34 (renN (plOf P) (ndF ns m)) (.slice A b cs2) cv=cn at HN1 HG34 HAD hn34
         clear hN1 c3 f3 l6 HK8 HOF HV8
         refine wp_region_lit ?_
         iterate 2 (refine wpList_plain rfl fun K1 hK1=>?_;unfold Oper.wp execOp;go_simp;refine hK1 _ _ ?_;clear hK1)
         refine load_nodeM (b:=wo.heap.size) (o:=0) (cs:=cn) rfl hn34 HG34.out (fun K hK=>hK _ _ ?_)
         refine wpList_build1 (c:=cn.toArray) rfl (by simpa using hn34) ?_
         refine wpList_append_nd (B:=w5.heap.size) (n:=T.length) (xs:=flatN T) (nw:=cn.toArray) rfl rfl rfl HQ8.out.row HQ8.out.bel.size ?_ (by simpa using hn34) (by simpa using HN1.out) (fun v' w9 hrow9 hgr9 hpl9=>?_)
         ·have h:=congrArg List.length HTM.out
          rw [List.length_map,List.length_take] at h
          omega
         obtain⟨g9,cap9,rfl⟩:=ownsRow_succ hrow9
         have hv1:=(HQ8.out.box.appended (by decide) HQ8.out.row HQ8.out.bel.size HQ8.out.lo hrow9 hgr9).1
         have hc1:=hv1.cell
         have hf1:=hv1.frozen
         have hl1:=hv1.lt
         have HNQ:=zH (HAD.out w9 _ _ (by simpa using hrow9) hgr9 hpl9)
         clear hv1 hrow9 hgr9 hpl9 c10 l10
         go_wp2
         go_roundw
         case rel=>exact⟨a+1,by first|rfl|go_num,by omega,_,_,HNQ.out,by rw [HRN.out,List.map_append,HTM.out];rfl⟩
         case measure=>simp [intOf]<;>omega
      ·have hltI:decide ((a:Int)<(k:Int))=false:=decide_eq_false (by omega)
       obtain rfl:a=k:=by omega
       obtain⟨w8,rfl⟩:∃ w8,w8=wr:=⟨wr,rfl⟩
       obtain⟨v,T,hQ,hTm⟩:=HI.out
       have hTm':T.map (·.1)=renS ns (plOf P):=by rw [hTm,List.take_of_length_le (by rw [ren_len HGD.out,HN.out];exact Nat.le_refl _)]
       have hTl:T.length=a:=by
        have:=congrArg List.length hTm'
        rw [List.length_map,ren_len HGD.out,HN.out] at this
        exact this
       obtain⟨Aq,cq,rfl,_,_,hq3⟩:=slice_form2 hQ.row
       obtain⟨gq,rfl,_,_,_⟩:=hq3 (by omega)
       have hTQ:TreeAt w8 (some ⟨gq,0,none⟩) (renS ns (plOf P)):=by rw [← hTm'];exact hQ.tree
       have hrl:(renS ns (plOf P)).length=a:=by rw [ren_len HGD.out,HN.out]
       have hin:∀ x ∈ renS ns (plOf P),∃ y ∈ ns,x=renN (plOf P) y:=fun x hx=>by
        obtain⟨o,ho,rfl⟩:=List.mem_map.1 hx
        have hr:=HPM.out o ho
        exact⟨_,List.mem_of_getElem? (ndF_at (ns:=ns) hr.1 (by rw [HN.out];exact hr.2)),rfl⟩
       have HNR:=zH ((new_gen w8 (some ⟨gq,0,none⟩) cq (renS ns (plOf P)) hTQ (by rw [hrl];omega) (fun x hx=>by
        obtain⟨y,hy,rfl⟩:=hin x hx
        exact HID.out y hy) (fun x hx=>by
        obtain⟨y,hy,rfl⟩:=hin x hx
        exact⟨(HX8.out y hy).bd,(HX8.out y hy).al,(HX8.out y hy).cr,(HX8.out y hy).md⟩)).mono fun e W h=>NewG.ok h (check_good (ren_good HGD.out HPO.out)))
       rw [hrl] at HNR
       have c10:=hQ.box.cell
       rw [hTl] at c10
       have l10:=hQ.box.lt
       have HB8:Hid (Below w4.heap.size w4 w8):=zH (HB5.out.trans (hQ.bel.mono HB5.out.size))
       have HEQ:Hid (∀ (i:Nat) (o:Int),(preL ns)[i]?=some o→∀ y z,measF tabF (renS ns (plOf P)) i y z=measF tabF ns o y z):=zH fun i o ho y z=>by
        have hr:=HPM.out o (List.mem_of_getElem? ho)
        have:=ren_meas (T:=tabF) tabF_ren HGD.out HPO.out ns.length o hr.1 (by rw [HN.out];exact hr.2) (by omega)
        rw [HPO.out i o ho] at this
        rw [this]
       have HRG:=zH (ren_good HGD.out HPO.out)
       have HRL:=zH hrl
       clear hQ hTm hTm' hTl hTQ hrl hin hq3
       go_upto_region 29 with (go_at_call 8;((with_reducible refine HNR.out.mono ?_);rintro e1' w9 ⟨pm2,gm2,bk2,bm2,cc2,rfl,hb9,hm9,hM9⟩;have HB9:=zH hb9;have HM9:=zH hM9;have HQ9:=zH hm9;clear hb9 hm9 hM9))
       obtain⟨P1,hP1⟩:∃ P1:MP,(⟨pm,gm,bk,bm,cc,ns,measF tabF ns⟩:MP)=P1:=⟨_,rfl⟩
       obtain⟨Q1,hQ1⟩:∃ Q1:MP,(⟨pm2,gm2,bk2,bm2,cc2,renS ns (plOf P),measF tabF (renS ns (plOf P))⟩:MP)=Q1:=⟨_,rfl⟩
       have LP:Law tabF P1:=by
        have ht:TreeOk P1.ns:=by rw [← hP1];exact tree_ok (check_good HGD.out)
        exact⟨ht,by rw [← hP1],tab_all P1 ht⟩
       have LQ:Law tabF Q1:=by
        have ht:TreeOk Q1.ns:=by rw [← hQ1];exact tree_ok (check_good HRG.out)
        exact⟨ht,by rw [← hQ1],tab_all Q1 ht⟩
       have hTW:TwoO w1 P1 Q1 go (preL ns) w9:=by
        have t:=HM3.out
        have t2:=HM9.out
        have lm:=HM3.out.lm
        rw [hP1] at t
        rw [hQ1] at t2
        have b1:bm=P1.bm:=by rw [← hP1]
        have b2:bm2=Q1.bm:=by rw [← hQ1]
        have lm':bm<w3.heap.size:=lm
        have z2:=HB2.out.size
        have z3:=HB3.out.size
        have z4:=HB4.out.size
        have z8:=HB8.out.size
        have z9:=HB9.out.size
        have q3:=HQ3.out
        have q9:=HQ9.out
        have g1:=HGO1.out
        have b49:Below w4.heap.size w4 w9:=HB8.out.trans (HB9.out.mono z8)
        have b39:Below w3.heap.size w3 w9:=HB4.out.trans (b49.mono z4)
        exact⟨⟨t.below b39,t2,(HB2.out.trans (HB3.out.mono z2)).trans (b39.mono (by omega)),by omega,by omega,by omega⟩,fun j o ho=>HCL.out w9 b49 j o ho,by omega,by omega,by omega⟩
       have hpm:pm=P1.pm:=by rw [← hP1]
       have hpm2:pm2=Q1.pm:=by rw [← hQ1]
       have HAE:Hid (∀ (i:Nat) (o:Int),(preL ns)[i]?=some o→∀ y z,ansS Q1 i y z=ansS P1 o y z):=zH fun i o ho y z=>by
        have hr:=HPM.out o (List.mem_of_getElem? ho)
        have hi:=(List.getElem?_eq_some_iff.1 ho).1
        rw [HPL.out] at hi
        have:=HEQ.out i o ho y z
        unfold ansS
        rw [← hP1,← hQ1]
        dsimp only
        rw [if_pos (by rw [HRL.out];omega),if_pos (by rw [HN.out];exact hr),this]
       have HPT:=zH (fun n z hz W hW=>ask_tall LP n z hz W hW)
       have HPS:=zH (fun n W hW=>ask_least LP n W hW)
       have HPO2:=zH (fun n W hW=>ask_most LP n W hW)
       have HQT:=zH (fun n z hz W hW=>ask_tall LQ n z hz W hW)
       have HQL:=zH (fun n W hW=>ask_least LQ n W hW)
       have HQM:=zH (fun n W hW=>ask_most LQ n W hW)
       rw [← hpm] at HPT HPS HPO2
       rw [← hpm2] at HQT HQL HQM
       have HTW:=zH hTW
       clear LP LQ HM3 HM9 hP1 hQ1 HNW HBY HOD HG HB3 HB4 HB5 HB8 HB9 HQ3 HQ9 hpm hpm2 HB2 HW2 HW3 HW4 HNR HEQ HRG HRL HPC HPO HQ0 HI HND HTA HX8 HID HNZ HGO HGO1 HCL hTW c10 l10 C4 L4 HLP HP0
       go_wp2
       go_loopw [17] (fun i wr=>∃ b:Nat,i=.int .i64 b∧b≤a∧Hid (TwoO w1 P1 Q1 go (preL ns) wr)) (fun i _=>a - (intOf i).toNat)
       case atStart=>exact⟨0,rfl,by omega,HTW⟩
       case round=>
        obtain⟨b,rfl,hb,HU0⟩:=hrel
        by_cases hlt2:b<a
        ·have hlt2I:(b:Int)<(a:Int):=by omega
         obtain⟨o,ho⟩:∃ o,(preL ns)[b]?=some o:=⟨_,List.getElem?_eq_getElem (by rw [HPL.out];omega)⟩
         have HT:=zH (HQT.out b z hz64)
         have HL:=zH (HQL.out b)
         have HM:=zH (HQM.out b)
         have HT2:=zH (HPT.out o z hz64)
         have HL2:=zH (HPS.out o)
         have HM2:=zH (HPO2.out o)
         rw [HAE.out b o ho] at HT HL HM
         generalize ansS P1 o 2 (sideS z)=At at HT HT2
         generalize ansS P1 o 0 0=Al at HL HL2
         generalize ansS P1 o 1 0=Am at HM HM2
         have HOC:Hid (∀ W,TwoO w1 P1 Q1 go (preL ns) W→W.cell? ⟨go,b,none⟩=some (.int .i64 o)∧go<W.heap.size):=zH fun W hW=>⟨hW.ord b o ho,hW.lt⟩
         obtain⟨r0,s0⟩:=HOC.out _ HU0.out
         clear ho
         go_wp2_with (first|(go_at_call 11;((with_reducible refine(HL2.out _ HU0.out.two.mp).mono ?_);rintro e1' w6 hp6;have HU1:=zH (HU0.out.callp hp6);obtain⟨rfl,_,_⟩:=hp6))|(go_at_call 11;((with_reducible refine(HL.out _ HU1.out.two.mq).mono ?_);rintro e1' w7 hp7;have HU2:=zH (HU1.out.callq hp7);obtain⟨rfl,_,_⟩:=hp7;obtain⟨r2,s2⟩:=HOC.out _ HU2.out))|(go_at_call 12;((with_reducible refine(HM2.out _ HU2.out.two.mp).mono ?_);rintro e1' w10 hp10;have HU3:=zH (HU2.out.callp hp10);obtain⟨rfl,_,_⟩:=hp10))|(go_at_call 12;((with_reducible refine(HM.out _ HU3.out.two.mq).mono ?_);rintro e1' w11 hp11;have HU4:=zH (HU3.out.callq hp11);obtain⟨rfl,_,_⟩:=hp11;obtain⟨r4,s4⟩:=HOC.out _ HU4.out))|(go_at_call 10;((with_reducible refine(HT2.out _ HU4.out.two.mp).mono ?_);rintro e1' w12 hp12;have HU5:=zH (HU4.out.callp hp12);obtain⟨rfl,_,_⟩:=hp12))|(go_at_call 10;((with_reducible refine(HT.out _ HU5.out.two.mq).mono ?_);rintro e1' w13 hp13;have HU6:=zH (HU5.out.callq hp13);obtain⟨rfl,_,_⟩:=hp13)))
         go_roundw
         case rel=>exact⟨b+1,by first|rfl|go_num,by omega,HU6⟩
         case measure=>simp [intOf]<;>omega
        ·have hlt2I:decide ((b:Int)<(a:Int))=false:=decide_eq_false (by omega)
         have HBW:Hid (Below w.heap.size w wr):=zH (HB1.out.trans (HU0.out.two.b.mono HB1.out.size))
         go_wp2_with (go_at_call 9;((with_reducible refine(alive_new _).mono ?_);rintro e1' w14 ⟨rfl,hb14⟩))
         go_ret
         exact⟨rfl,HBW.out.trans (hb14.mono HBW.out.size)⟩
  ·have HG:Hid (∀ W e W',NewG ns W e W'→e=.returned (.tuple #[.pointer none,.int .i64 (checkS ns).1])∧Below W.heap.size W W'):=zH fun W e W' h=>by
    rcases h with ⟨h1,_⟩|⟨_,h1,h2⟩
    ·exact absurd h1 h0
    ·exact⟨h1,h2⟩
   have h0b:((checkS ns).1 == 0)=false:=by simpa using h0
   have h0c:((checkS ns).1 != 0)=true:=by simp [h0]
   generalize (checkS ns).1=code at HG h0b h0c
   clear h0 HOR
   go_wp2_with (first|(go_at_call 8;((with_reducible refine(HNW.out _ HW2.out).mono ?_);rintro e1' w3 h3;obtain⟨rfl,hb3⟩:=HG.out _ _ _ h3;have c3:=(hb3.cell (p:=⟨w.heap.size,0,none⟩) l2).trans c2;have l3:w.heap.size<w3.heap.size:=Nat.lt_of_lt_of_le l2 hb3.size;have HW3:=zH (HW2.out.trans (hb3.mono HW2.out.size));clear h3 hb3))|(go_at_call 9;((with_reducible refine(alive_new _).mono ?_);rintro e1' w5 ⟨rfl,hb5⟩;have HW5:=zH (HW3.out.trans (hb5.mono HW3.out.size));clear hb5)))
   go_ret
   exact⟨rfl,HW5.out⟩
 ·go_wp2
  go_ret
  exact⟨rfl,HW2.out⟩
end Go.Proofs.YtlenbcmgjancmaaGreatDoor
