import Derived.Test.YtlenbcmgjancmaaGreatDoorMn30
import Derived.Test.YtlenbcmgjancmaaGreatDoorMn33
import Derived.Test.YtlenbcmgjancmaaGreatDoorMn34
import Derived.Test.YtlenbcmgjancmaaGreatDoorMn21
import Derived.Test.YtlenbcmgjancmaaGreatDoorMn23
import Derived.RangeFuncBox
set_option linter.unusedVariables false
set_option linter.unusedSimpArgs false
namespace Go.Proofs.YtlenbcmgjancmaaGreatDoor
open Go.RowKit Go.Maps
theorem wpList_append_nodes {ops:Array Oper} {rest:List Oper} {a:Act} {Q:Exit→Act→World→Prop} {W:World} {dst:Option Tmp} {ty:TypeId} {s x:Operand} {pos:String} {after:Array Edge} {v:Value} {news:List Value} {B g o m c:Nat}
  (hs:a.eval s=v) (hx:a.eval x=.slice (some ⟨g,o,none⟩) m c) (hl:news.length=m*34) (hnews:∀ j u,news[j]?=some u→W.cell? ⟨g,o+j,none⟩=some u) (h1:∀ u ∈ news,u.oneCell'=true)
  (hrow:W.ownsRow B 46 34 v 0 []) (hB:B≤W.heap.size) (hm:0<m) (hm2:m≤1000000)
  (h:∀ v' w',w'.ownsRow B 46 34 v' m news→W.grownBy w' v.ownBlock→(v'.ownBlock=v.ownBlock∨v'.ownBlock=some W.heap.size)→∀ K:Act→World→Prop,(∀ a w,wpList Tryz.prog ops Q rest a w→K a w)→K (a.put dst v') w') :
  wpList Tryz.prog ops Q ({ dst:=dst,op:=.call { callee:=.builtin .append,args:=#[s,x],argTypes:=#[22,22] },type:=ty,pos:=pos,after:=after,guard:=none } :: rest) a W:=by
 obtain⟨i0,hi,hz0,hz1,hz2⟩:=info_parts zeroNode
 refine wpList_append_place (w:=W) rfl s x 22 rfl B 46 i0 _ 34 288 Tryz.underlying22 hi hz0 hz1 hz2 rfl (by decide) v 0 [] hs hrow
  ⟨g,o,none⟩ m c news hx hl ?_ h1 ?_ ?_ hB hm ?_
 ·intro j u hj
  rw [show (⟨g,o,none⟩:Addr).add j=⟨g,o+j,none⟩ by simp [Addr.add]]
  exact hnews j u hj
 ·simp [maxLen];omega
 ·omega
 ·intro v' w' hown hgr hp
  exact h v' w' (by simpa using hown) hgr hp _ (fun _ _ h=>h)
theorem sli_newsA {W:World} {v:Value} {l:List Int} (h:SlI W v l):∃ p c,v=.slice p l.length c∧(0<l.length→∃ gx ox,p=some ⟨gx,ox,none⟩∧∀ j u,(ivl l)[j]?=some u→(W.alloc (.cells #[] 3)).cell? ⟨gx,ox+j,none⟩=some u):=by
 obtain⟨p,c,rfl,hl,hx⟩:=h
 refine⟨p,c,rfl,fun h0=>?_⟩
 obtain⟨g,o,rfl,hg,_⟩:=hx 0 _ (List.getElem?_eq_getElem h0)
 refine⟨g,o,rfl,fun j u hj=>?_⟩
 unfold ivl at hj
 rw [List.getElem?_map] at hj
 obtain⟨y,hy,rfl⟩:=Option.map_eq_some_iff.1 hj
 obtain⟨g',o',e',_,hc⟩:=hx j y hy
 obtain⟨rfl,rfl⟩:g=g'∧o=o':=by simpa using e'
 rw [World.cell?_alloc_lt _ _ ⟨g,o+j,none⟩ hg];exact hc
theorem slt_newsA {W:World} {v:Value} {l:List Itm} (h:SlT W v l):∃ p c,v=.slice p l.length c∧(0<l.length→∃ gx ox,p=some ⟨gx,ox,none⟩∧∀ j u,(flatC Itm.cells l)[j]?=some u→(W.alloc (.cells #[] 40)).cell? ⟨gx,ox+j,none⟩=some u):=by
 obtain⟨p,c,rfl,_,hx⟩:=slt_news h
 refine⟨p,c,rfl,fun h0=>?_⟩
 obtain⟨g,o,rfl,hg,hc⟩:=hx h0
 exact⟨g,o,rfl,fun j u hj=>by rw [World.cell?_alloc_lt _ _ ⟨g,o+j,none⟩ hg];exact hc j u hj⟩
theorem off_row {W:World} {B n sz:Nat} {e:TypeId} {v:Value} {news:List Value} (h:W.ownsRow B e sz v n news) {α:Type} (l:List α) {b:Nat} (hb:b<B):Off v l b:=by
 intro a m c e' _
 rcases h.2 with ⟨rfl,_⟩|⟨g,cap,cur,rfl,hg,_⟩
 ·simp at e'
 ·obtain rfl:=(Option.some.inj (Value.slice.inj e').1)
  show g ≠ b
  omega
theorem slt_row {W:World} {B:Nat} {v:Value} {l:List Itm} (h:W.ownsRow B 40 5 v l.length (flatC Itm.cells l)) (hv:v ≠ .slice none 0 0) (hl:l.length≤4398046511104):SlT W v l:=by
 obtain⟨b,cap,rfl,_,hr⟩:=RowT.of_owns h rfl hv
 exact hr.sl hl cap
theorem one_ints (l:List Int):∀ u ∈ ivl l,u.oneCell'=true:=fun u hu=>by unfold ivl at hu;obtain⟨y,_,rfl⟩:=List.mem_map.1 hu;rfl
theorem ivl_lenA (l:List Int):(ivl l).length=l.length*1:=by unfold ivl;simp
theorem TreeAt.below {w W:World} {p:Option Addr} {ns:List ND} (h:TreeAt w p ns) (hb:Below w.heap.size w W):TreeAt W p ns:=fun i x hx=>by
 obtain⟨g,o,e,hg,kv,cv,h1,h2,h3⟩:=h i x hx
 exact⟨g,o,e,Nat.lt_of_lt_of_le hg hb.size,kv,cv,h1.below hb hg,h2.below hb,h3.below hb⟩
def NewG (ns:List ND) (w:World) (e:Ending) (W:World):Prop :=
 ((checkS ns).1=0∧∃ pm g bk bm cc,e=.returned (.tuple #[.pointer (some ⟨pm,0,none⟩),.int .i64 0])∧Below w.heap.size w W∧w.heap.size≤pm∧w.heap.size≤g∧w.heap.size≤bk∧w.heap.size≤bm∧∀ f,MG ⟨pm,g,bk,bm,cc,ns,f⟩ W)∨
 ((checkS ns).1 ≠ 0∧e=.returned (.tuple #[.pointer none,.int .i64 (checkS ns).1])∧Below w.heap.size w W)
set_option maxRecDepth 100000 in
set_option maxHeartbeats 8000000 in
theorem new_gen (w:World) (p:Option Addr) (c:Nat) (ns:List ND) (hT:TreeAt w p ns) (hl:ns.length≤4398046511104) (hid:∀ x ∈ ns,x.id.size≤maxLen) (h8:∀ x ∈ ns,X8 x) :
  Calls Tryz.prog 8 #[.agg #[.slice p ns.length c]] w (NewG ns w):=by
 have hB1:Below w.heap.size w (w.alloc (.cells #[.slice p ns.length c] 24)):=Below.alloc (Below.refl _ _) (Nat.le_refl _) _
 have HCK:=zH (check_gen (w.alloc (.cells #[.slice p ns.length c] 24)) p c ns (hT.below hB1) hl hid h8)
 by_cases h0:(checkS ns).1=0
 ·have hTO:=tree_ok h0
  obtain⟨hn1,hn4⟩:=hTO.len
  obtain⟨g,o,rfl,hg,_⟩:=hT 0 _ (List.getElem?_eq_getElem hn1)
  have HNG:Hid (∀ e W,(∃ pm g bk bm cc,e=.returned (.tuple #[.pointer (some ⟨pm,0,none⟩),.int .i64 0])∧Below w.heap.size w W∧w.heap.size≤pm∧w.heap.size≤g∧w.heap.size≤bk∧w.heap.size≤bm∧∀ f,MG ⟨pm,g,bk,bm,cc,ns,f⟩ W)→NewG ns w e W):=zH fun e W h=>.inl ⟨h0,h⟩
  rw [h0] at HCK
  generalize (checkS ns).2=r2 at HCK
  have HTO:=zH hTO
  have HT:=zH hT
  clear hT hTO h0 hid h8
  obtain⟨N,hN⟩:∃ N,ns.length=N:=⟨_,rfl⟩
  have HN:=zH hN
  rw [hN] at hn1 hn4 HCK hB1 ⊢
  clear hN hl
  go_enter Tryz.func8,Tryz.ntmps8
  go_upto_region 4 with (go_at_call 19;go_loud ((with_reducible refine(HCK.out).mono ?_);rintro e1' w2 ⟨rfl,hb2⟩;have hz2:=hb2.size;have hbx:w2.cell? ⟨w.heap.size,0,none⟩=some (.slice (some ⟨g,o,none⟩) N c):=(hb2.cell (p:=⟨w.heap.size,0,none⟩) (by simp)).trans (cell_newC _ _ _ _ _ rfl);have hlw:w.heap.size<w2.heap.size:=(by simp at hz2;omega);clear hz2;have hB2:Below w.heap.size w w2:=Below.trans hB1 (hb2.mono (by simp));clear hb2))
  have HB2:=zH hB2
  have hl2:=hB2.size
  clear hB2
  have hnc:=fun j u (hu:(nodesC' w g o N)[j]?=some u)=>nodesC'_cell (c:=0) HT.out (j:=j) (u:=u) (by rw [HN.out];exact hu)
  have HNC:=zH hnc
  clear hnc
  have hHT2:TreeAt w2 (some ⟨g,o,none⟩) ns:=HT.out.below HB2.out
  have hnl:(nodesC' w2 g o N).length=N*34:=nodesC'_len _ _ _ _
  have hnw:∀ j u,(nodesC' w2 g o N)[j]?=some u→(w2.alloc (.cells #[] 46)).cell? ⟨g,o+j,none⟩=some u:=fun j u hu=>by
   have:=(nodesC'_cell (c:=0) hHT2 (j:=j) (u:=u) (by rw [HN.out];exact hu)).1
   rw [World.cell?_alloc_lt _ _ ⟨g,o+j,none⟩ (World.block_lt_of_cell? w2 _ this)];exact this
  have hno:∀ u ∈ nodesC' w2 g o N,u.oneCell'=true:=fun u hu=>by
   obtain⟨j,hj⟩:=List.mem_iff_getElem?.1 hu
   exact(nodesC'_cell (c:=0) hHT2 (j:=j) (u:=u) (by rw [HN.out];exact hj)).2
  have HHT2:=zH hHT2
  have HNW:=zH hnw
  have HNO:=zH hno
  have HNL:=zH hnl
  clear hnw hno hnl hHT2 HNC
  go_wp2_with ((with_reducible apply wpList_append_nodes (B:=w2.heap.size) (m:=N) (news:=nodesC' w2 g o N) (g:=g) (o:=o));exact rfl;exact rfl;exact HNL.out;exact HNW.out;exact HNO.out;exact World.ownsRow_made w2 #[] 0 (Nat.le_refl _) (Nat.zero_le _) rfl;(simp);omega;omega;intro v' w5 hrow5 hgr5 hpl5 K hK;obtain⟨gN,cN,cur,rfl,hgN,hblk,hle,hcm,hcs,htk⟩:=(hrow5.2.resolve_left (fun h=>by have:=h.2;omega));have HR5:=zH hrow5;have HG5:=zH hgr5;clear hrow5 hgr5 hpl5 hcs htk hcm)
  have hl5:gN<w5.heap.size:=(Array.getElem?_eq_some_iff.1 hblk).1
  have hB25:Below w2.heap.size w2 w5:=((Below.refl _ w2).alloc (Nat.le_refl _) _).grown HG5.out (by simp) (fun k e=>by have e':w2.heap.size=k:=Option.some.inj e.symm |>.symm;omega)
  have hTN:TreeN w5 gN ns:=TreeN.made HHT2.out hgN hl5 hB25 (fun j u hu=>by
   have:=HR5.out.cells (g:=gN) rfl j u (by rw [← HN.out];exact hu)
   rw [addr_add,Nat.zero_add] at this;exact this) (fun q=>by simp [World.frozen?,hblk])
  have HTN:=zH hTN
  have HB5:=zH (HB2.out.trans (hB25.mono hl2))
  have hwg:w.heap.size≤gN:=by omega
  clear hTN hB25 hblk HR5 HG5 HHT2 HNW HNO HNL hbx
  go_loopw [22] (fun i wr=>∃ a:Nat,i=.int .i64 a∧a≤N∧TreeN wr gN ns∧Below w.heap.size w wr) (fun i _=>N - (intOf i).toNat)
  case atStart=>exact⟨0,rfl,by omega,HTN.out,HB5.out⟩
  case round=>
   obtain⟨a,rfl,ha,hT,hB⟩:=hrel
   have HTR:=zH hT
   have HBR:=zH hB
   have hlr:=hT.lt
   have hzr:=hB.size
   clear hT hB HTN HB5 hl5
   by_cases hlt:a<N
   ·have hltI:(a:Int)<(N:Int):=by omega
    obtain⟨x,hx⟩:∃ x,ns[a]?=some x:=⟨_,List.getElem?_eq_getElem (by rw [HN.out];exact hlt)⟩
    have hok:=HTO.out.node a x hx
    have hkl:x.kids.length≤4096:=by have:=hok.kl;have:=HN.out;omega
    have hcl:x.cols.length≤64:=by have:=hok.items.2.2.2;unfold ColsP at this;omega
    obtain⟨kv,cv,h1,h2,h3,h4,h5⟩:=HTR.out.nd a x hx
    obtain⟨pk,ck,rfl,hkn⟩:=sli_newsA h2
    have c3:=h1.kids
    have HKN:=zH hkn
    have HKO:=zH (one_ints x.kids)
    have HKL:=zH (ivl_lenA x.kids)
    have HC28:=zH h1.cols
    have HC3:=zH c3
    have H3:=zH h3
    have H5:=zH h5
    have HX:=zH hx
    clear h1 h2 h3 h4 h5 hkn hok hx
    go_upto_region 9 with ((with_reducible apply wpList_append_all elI (news:=ivl x.kids));exact rfl;exact rfl;exact rfl;exact HKN.out;exact HKL.out;exact HKO.out;omega;intro v9 w9 hrow9 hnn9 hb9 K9 hK9;have HS9:Hid (SlI w9 v9 x.kids):=zH (sli_row hrow9 (by omega));have HO9:Hid (Off v9 x.kids gN):=zH (off_row hrow9 x.kids hlr);have HT9:=zH (HTR.out.below hb9);have HB9:=zH hb9;have e3:=(hb9.cell (p:=⟨gN,a*34+3,none⟩) hlr).trans HC3.out;have f3:=HT9.out.froz (a*34+3);have l9:=HT9.out.lt;clear hrow9 hnn9 hb9 c3;obtain⟨p9,c9,e9,_,_⟩:=HS9.out;subst e9)
    have HTA:Hid (TreeN (w9.setCell ⟨gN,a*34+3,none⟩ (.slice p9 x.kids.length c9)) gN ns):=zH (HT9.out.putKids HX.out HS9.out HO9.out)
    have c28:(w9.setCell ⟨gN,a*34+3,none⟩ (.slice p9 x.kids.length c9)).cell? ⟨gN,a*34+28,none⟩=some cv:=by rw [cell_setF (by omega)];exact(HB9.out.cell (p:=⟨gN,a*34+28,none⟩) hlr).trans HC28.out
    have h3A:SlT (w9.setCell ⟨gN,a*34+3,none⟩ (.slice p9 x.kids.length c9)) cv x.cols:=(H3.out.below HB9.out).setN H5.out _ _
    have HBA:Hid (Below w.heap.size w (w9.setCell ⟨gN,a*34+3,none⟩ (.slice p9 x.kids.length c9))):=zH ((HBR.out.trans (HB9.out.mono hzr)).setCell (show w.heap.size≤(⟨gN,a*34+3,none⟩:Addr).block from hwg) _)
    generalize w9.setCell ⟨gN,a*34+3,none⟩ (.slice p9 x.kids.length c9)=wA at HTA c28 h3A HBA ⊢
    have lA:=HTA.out.lt
    obtain⟨pc,cc,rfl,hcn⟩:=slt_newsA h3A
    have HCN:=zH hcn
    have HCO:=zH (one_items x.cols)
    have HCL:Hid ((flatC Itm.cells x.cols).length=x.cols.length*5):=zH (by rw [flatC_len Itm.cells_len])
    have HC28A:=zH c28
    clear hcn h3A e3 f3 l9 HT9 HS9 HO9 HB9 HTR HBR
    go_wp2_with ((with_reducible apply wpList_append_all elT (news:=flatC Itm.cells x.cols));exact rfl;exact rfl;exact rfl;exact HCN.out;exact HCL.out;exact HCO.out;omega;intro v7 w7 hrow7 hnn7 hb7 K7 hK7;have HS7:Hid (SlT w7 v7 x.cols):=zH (slt_row hrow7 hnn7 (by omega));have HO7:Hid (Off v7 x.cols gN):=zH (off_row hrow7 x.cols lA);have HT7:=zH (HTA.out.below hb7);have HB7:=zH hb7;have e7:=(hb7.cell (p:=⟨gN,a*34+28,none⟩) lA).trans HC28A.out;have f7:=HT7.out.froz (a*34+28);have l7:=HT7.out.lt;clear hrow7 hnn7 hb7 c28;obtain⟨p7,c7,e8,_,_⟩:=HS7.out;subst e8)
    go_roundw
    case rel=>exact⟨a+1,by first|rfl|go_num,by omega,HT7.out.putCols HX.out HS7.out HO7.out,((HBA.out.trans (HB7.out.mono HBA.out.size)).setCell (show w.heap.size≤(⟨gN,a*34+28,none⟩:Addr).block from hwg) _)⟩
    case measure=>simp [intOf]<;>omega
   ·have hltI:decide ((a:Int)<(N:Int))=false:=decide_eq_false (by omega)
    have hmm:=@run_makeMap Tryz.prog
    go_wp2_with (go_at_call 20;((with_reducible refine(kinds_all _).mono ?_);rintro e1' w9 ⟨bk,rfl,hk1,hk2,hb9,hk9⟩))
    go_ret2
    have hz9:=hb9.size
    have g9:Below w9.heap.size w9 ((w9.alloc (.map #[] 0)).alloc (.cells #[.slice (some ⟨gN,0,none⟩) N cN,.slice (some ⟨bk,0,none⟩) 12 12,.map (some w9.heap.size)] 61)):=by(repeat (first|exact Below.refl _ _|assumption|refine below_drewN ?_ _|refine Below.drew ?_|(refine Below.alloc ?_ ?bs _;(case bs=>first|omega|(simp;done)|(simp;omega)))|(refine Below.setCell ?_ ?bs _;(case bs=>first|omega|(simp;done)|(simp;omega)))))
    have g8:Below wr.heap.size wr ((w9.alloc (.map #[] 0)).alloc (.cells #[.slice (some ⟨gN,0,none⟩) N cN,.slice (some ⟨bk,0,none⟩) 12 12,.map (some w9.heap.size)] 61)):=hb9.trans (g9.mono hz9)
    refine HNG.out _ _ ⟨w9.heap.size+1,gN,bk,w9.heap.size,cN,rfl,HBR.out.trans (g8.mono hzr),by omega,by omega,by omega,by omega,fun f=>⟨?_,?_,?_,?_,?_,?_⟩⟩
    ·rw [HN.out];exact cell_newC _ _ _ _ _ (by simp)
    ·exact cell_newC _ _ _ _ _ (by simp)
    ·exact cell_newC _ _ _ _ _ (by simp)
    ·exact hk9.keeps (keeps_below g9)
    ·exact(HTR.out.below g8).tree
    ·exact⟨.map [],ownsMap_tight (World.ownsMap.alloc (World.ownsMap_made w9 _ _ _) _) (by simp [Maps.size]),known_empty f,fun kl h=>by simp [Maps.has] at h⟩
 ·have HNG:Hid (∀ W,Below w.heap.size w W→NewG ns w (.returned (.tuple #[.pointer none,.int .i64 (checkS ns).1])) W):=zH fun W h=>.inr ⟨h0,rfl,h⟩
  have h0I:(((checkS ns).1:Int) == 0)=false:=by rw [beq_eq_false_iff_ne];omega
  obtain⟨r1,hr1⟩:∃ r,(checkS ns).1=r:=⟨_,rfl⟩
  rw [hr1] at HCK HNG h0I
  generalize (checkS ns).2=r2 at HCK
  clear hT hid h8 h0 hr1
  go_enter Tryz.func8,Tryz.ntmps8
  go_wp2_with (go_at_call 19;((with_reducible refine(HCK.out).mono ?_);rintro e1' w2 ⟨rfl,hb2⟩))
  go_ret2
  exact HNG.out _ (Below.trans hB1 (hb2.mono (by simp)))
end Go.Proofs.YtlenbcmgjancmaaGreatDoor
namespace Go.Proofs.YtlenbcmgjancmaaGreatDoor
open Go.RowKit
structure OrdS (w:World) (b:Nat) (v:Value) (L:List Int) (W:World):Prop where
 box:Boxed W b 38 v
 row:W.ownsRow w.heap.size 3 1 v L.length (ivl L)
 lo:w.heap.size≤b
 bel:Below w.heap.size w W
structure OrdG (b:Nat) (v v':Value) (W W':World):Prop where
 size:W.heap.size≤W'.heap.size
 kept:∀ k,k<W.heap.size→k ≠ b→v.ownBlock ≠ some k→W'.heap[k]?=W.heap[k]?
 row:∀ k,k<W.heap.size→v.ownBlock ≠ some k→v'.ownBlock ≠ some k
theorem OrdS.below {w W W':World} {b:Nat} {v:Value} {L:List Int} (h:OrdS w b v L W) (hb:Below W.heap.size W W'):OrdS w b v L W' :=
 ⟨(hb.block b h.box.lt).trans h.box,orow_belowSize h.row hb,h.lo,h.bel.trans (hb.mono h.bel.size)⟩
theorem OrdG.below {b:Nat} (v:Value) {W W':World} (hb:Below W.heap.size W W'):OrdG b v v W W':=⟨hb.size,fun k hk _ _=>hb.block k hk,fun _ _ h=>h⟩
theorem OrdG.trans {b:Nat} {v v' v'':Value} {A B C:World} (h:OrdG b v v' A B) (k:OrdG b v' v'' B C):OrdG b v v'' A C :=
 ⟨Nat.le_trans h.size k.size,fun j hj hb hv=>(k.kept j (Nat.lt_of_lt_of_le hj h.size) hb (h.row j hj hv)).trans (h.kept j hj hb hv),fun j hj hv=>k.row j (Nat.lt_of_lt_of_le hj h.size) (h.row j hj hv)⟩
theorem cell_heap {W W':World} {k j:Nat} (h:W'.heap[k]?=W.heap[k]?):W'.cell? ⟨k,j,none⟩=W.cell? ⟨k,j,none⟩:=by simp [World.cell?,h]
def OrdP (w:World) (b:Nat) (v:Value) (r:Value) (L:List Int) (W:World) (e:Ending) (W':World):Prop:=e=.returned r∧∃ v',OrdS w b v' L W'∧OrdG b v v' W W'
set_option maxRecDepth 100000 in
set_option maxHeartbeats 4000000 in
theorem order1_any (w W:World) (b:Nat) (v:Value) (L:List Int) (n d:Int) (hS:OrdS w b v L W) (hl:L.length<1000000000000) :
  Calls Tryz.prog 30 #[.int .i64 n,.int .i64 d,.pointer (some ⟨b,0,none⟩)] W (OrdP w b v (.bool true) (L ++ [n]) W):=by
 have HS:=zH hS
 have hc:=hS.box.cell
 have hlt:=hS.box.lt
 have hB:=hS.bel.size
 have HL:=zH hl
 clear hS hl
 go_enter Tryz.func30,Tryz.ntmps30
 go_wp2_with ((with_reducible apply wpList_append_new elI (B:=w.heap.size) (n:=L.length) (xs:=ivl L) (nw:=#[.int .i64 n]));exact rfl;exact rfl;(first|exact rfl|simp);exact HS.out.row;exact hB;exact HL.out;exact rfl;(intro u hu;simp at hu;subst hu;rfl);intro v' w9 hrow9 hgr9 hpl9 K hK;obtain⟨g',cap',rfl⟩:=ownsRow_succ hrow9;obtain⟨hv1,hv2,hr2,_,hb2⟩:=HS.out.box.appended (by decide) HS.out.row hB HS.out.lo hrow9 hgr9;have HG9:=zH hgr9;have HP9:=zH hpl9;have HV2:=zH hv2;have HR2:=zH hr2;have HB2:=zH hb2;have hc1:=hv1.cell;have hf1:=hv1.frozen;have hl1:=hv1.lt;clear hv1 hv2 hr2 hb2 hgr9 hpl9 hrow9)
 go_ret
 refine⟨rfl,_,⟨HV2.out,?_,HS.out.lo,HS.out.bel.trans HB2.out⟩,⟨?_,fun k hk hkb hkv=>?_,fun k hk hkv=>?_⟩⟩
 ·have:=HR2.out
  simpa [ivl] using this
 ·have:=HG9.out.size
  simp at this ⊢
  omega
 ·exact(Below.heap_setCell _ _ _ k hkb).trans ((HG9.out.block k (by simp;omega) (fun e=>hkv e.symm)).trans (Below.heap_alloc W _ k (by omega)))
 ·rcases HP9.out with e|e<;>rw [e]
  ·exact hkv
  ·intro e'
   simp at e'
   omega
theorem cf1:∀ args w,(callFunc 30 args).run Tryz.prog w=.ok (.enter 30 args) w:=fun _ _=>by kernel_rfl
theorem take_flat {α:Type} {l:List Int} {a:Nat} {k:Int} (h:l[a]?=some k) (f:Int→List α):(l.take (a+1)).flatMap f=(l.take a).flatMap f ++ f k:=by
 rw [List.take_add_one,h,List.flatMap_append]
 simp
theorem take_flat_le {α:Type} (l:List Int) (a:Nat) (f:Int→List α):((l.take a).flatMap f).length≤(l.flatMap f).length:=by
 conv=>rhs;rw [← List.take_append_drop a l]
 rw [List.flatMap_append,List.length_append]
 omega
set_option maxRecDepth 100000 in
set_option maxHeartbeats 4000000 in
theorem downO_any (w:World) (p:Option Addr) (c b:Nat) (ns:List ND) (hT:TreeAt w p ns) (hG:TreeG ns):∀ (q:Nat) (n:Int),0≤n→n<ns.length→ns.length - n≤(q:Int)→∀ (d:Int),0≤d→d+q≤5000→∀ (v:Value) (L:List Int) (W:World),OrdS w b v L W→L.length+(preF ns q n).length≤1000000→
  Calls Tryz.prog 90 #[.agg #[.slice p ns.length c],.int .i64 n,.int .i64 d,.func (.func 30) #[] #[.pointer (some ⟨b,0,none⟩)]] W (OrdP w b v (.tuple #[]) (L ++ preF ns q n) W)
 | 0,n,h0,h1,h2,_,_,_,_,_,_,_,_=>by omega
 |q+1,n,h0,h1,h2,d,hd0,hd,v,L,W,hS,hlen=>by
  have hx:=ndF_at h0 h1
  have IH:∀ k ∈ (ndF ns n).kids,∀ (v:Value) (L:List Int) (W:World),OrdS w b v L W→L.length+(preF ns q k).length≤1000000→
    Calls Tryz.prog 90 #[.agg #[.slice p ns.length c],.int .i64 k,.int .i64 (d+1),.func (.func 30) #[] #[.pointer (some ⟨b,0,none⟩)]] W (OrdP w b v (.tuple #[]) (L ++ preF ns q k) W):=fun k hk v L W hS hl=>by
   have:=hG.kid h0 h1 hk
   exact downO_any w p c b ns hT hG q k (by omega) this.2 (by omega) (d+1) (by omega) (by omega) v L W hS hl
  obtain⟨m,rfl⟩:∃ m:Nat,n=m:=⟨n.toNat,by omega⟩
  rw [Int.toNat_natCast] at hx
  obtain⟨g,o,rfl,hg,kv,cv,hnd,hkv,_⟩:=hT m _ hx
  have hck:=hnd.kids
  simp only [preF,List.length_cons] at hlen ⊢
  generalize (ndF ns m).kids=ks at IH hkv hlen ⊢
  obtain⟨pk,ck,rfl,hkl,hkx⟩:=hkv
  have HKX:=zH hkx
  have HIH:=zH IH
  have HLEN:=zH hlen
  have HB0:Hid (Below W.heap.size W (W.alloc (.cells #[.slice (some ⟨g,o,none⟩) ns.length c] 24))):=zH (Below.alloc (Below.refl _ _) (Nat.le_refl _) _)
  have HVW:=zH (order1_any w _ b v L m d (hS.below HB0.out) (by omega))
  have HS:=zH hS
  have HG0:=zH hG
  obtain⟨N,hN⟩:∃ N,ns.length=N:=⟨_,rfl⟩
  obtain⟨Q,hQ⟩:∃ Q,ks.length=Q:=⟨_,rfl⟩
  rw [hN] at HIH HVW HB0 h1 h2 ⊢
  rw [hQ] at hck hkl
  have HQ:=zH hQ
  have hcf:=cf1
  have hgw:g<w.heap.size:=hg
  have hbW:w.heap.size≤W.heap.size:=hS.bel.size
  have hmN:m<N:=by omega
  have hNs:N≤4096:=by have:=hG.len;omega
  have HCK:=zH hck
  have hw1:IntKind.i64.wrap (d+1)=d+1:=IntWalk.i64_in _ (by omega)
  clear hT hG hS hlen IH hkx hnd hx hN hQ hck h2
  go_enter Tryz.func90,Tryz.ntmps90
  go_upto_region 2 with (go_at_call 30;((with_reducible refine HVW.out.mono ?_);rintro e1' w1 ⟨rfl,v1,hS1,hG1⟩))
  have c1:w1.cell? ⟨W.heap.size,0,none⟩=some (.slice (some ⟨g,o,none⟩) N c):=by
   have hlt:=HS.out.box.lt
   have h:=hG1.kept W.heap.size (by simp) (by omega) (fun e=>by have:=World.ownsRow.lt HS.out.row _ e;omega)
   exact(cell_heap h).trans ((show Arr (W.alloc (.cells #[.slice (some ⟨g,o,none⟩) N c] 24)) W.heap.size [.slice (some ⟨g,o,none⟩) N c] 24 from heap_alloc_new W _).cell (j:=0) rfl)
  have l1:W.heap.size<w1.heap.size:=Nat.lt_of_lt_of_le (by simp) hG1.size
  have HG1:Hid (OrdG b v v1 W w1):=zH ((OrdG.below v HB0.out).trans hG1)
  have HS1:=zH hS1
  have ck1:w1.cell? ⟨g,o+m*34+3,none⟩=some (.slice pk Q ck):=(hS1.bel.cell (p:=⟨g,o+m*34+3,none⟩) hgw).trans HCK.out
  have lg1:g<w1.heap.size:=Nat.lt_of_lt_of_le hgw hS1.bel.size
  have HNB:Hid (W.heap.size ≠ b∧v1.ownBlock ≠ some W.heap.size):=zH (by
   have hlt:=HS.out.box.lt
   exact⟨by omega,hG1.row W.heap.size (by simp) (fun e=>by have:=World.ownsRow.lt HS.out.row _ e;omega)⟩)
  clear hG1 hS1
  go_wp2
  go_loopw [22] (fun i wr=>∃ a:Nat,i=.int .i64 a∧a≤Q∧Hid (∃ v',OrdS w b v' (L ++ [(m:Int)] ++ (ks.take a).flatMap (preF ns q)) wr∧OrdG b v1 v' w1 wr)) (fun i _=>Q - (intOf i).toNat)
  case atStart=>exact⟨0,rfl,by omega,⟨v1,by simpa using HS1.out,OrdG.below v1 (Below.refl _ _)⟩⟩
  case round=>
   obtain⟨a,rfl,haQ,HI⟩:=hrel
   by_cases hlt:a<Q
   ·have hltI:(a:Int)<(Q:Int):=by omega
    obtain⟨v2,hS2,hG2⟩:=HI.out
    obtain⟨k,hka⟩:∃ k,ks[a]?=some k:=⟨_,List.getElem?_eq_getElem (by rw [HQ.out];omega)⟩
    obtain⟨gk,ok,rfl,hgk,hck⟩:=HKX.out a k hka
    have e1:=(cell_heap (j:=0) (hG2.kept W.heap.size l1 HNB.out.1 HNB.out.2)).trans c1
    have l2:W.heap.size<wr.heap.size:=Nat.lt_of_lt_of_le l1 hG2.size
    have ck2:wr.cell? ⟨gk,ok+a,none⟩=some (.int .i64 k):=(hS2.bel.cell (p:=⟨gk,ok+a,none⟩) hgk).trans hck
    have lgk:gk<wr.heap.size:=Nat.lt_of_lt_of_le hgk hS2.bel.size
    have HC:=zH (HIH.out k (List.mem_of_getElem? hka) v2 _ wr hS2 (by
     have h3:=take_flat_le ks (a+1) (preF ns q)
     rw [take_flat hka,List.length_append] at h3
     have:=HLEN.out
     rw [List.length_append,List.length_append]
     simp only [List.length_cons,List.length_nil]
     omega))
    rw [List.append_assoc,← take_flat hka] at HC
    have HG2:=zH hG2
    clear hS2 hG2 hck hka HI
    go_wp2_with (go_at_call 90;((with_reducible refine HC.out.mono ?_);rintro e1' w3 ⟨rfl,v3,hS3,hG3⟩;have HW3:Hid (∃ v',OrdS w b v' (L ++ [(m:Int)] ++ (ks.take (a+1)).flatMap (preF ns q)) w3∧OrdG b v1 v' w1 w3):=zH ⟨v3,hS3,HG2.out.trans hG3⟩;clear hS3 hG3))
    go_roundw
    case rel=>exact⟨a+1,by first|rfl|go_num,by omega,HW3⟩
    case measure=>simp [intOf]<;>omega
   ·have hltI:decide ((a:Int)<(Q:Int))=false:=decide_eq_false (by omega)
    obtain rfl:a=Q:=by omega
    rw [← HQ.out,List.take_length] at HI
    go_wp2
    go_end0
    obtain⟨v2,hS2,hG2⟩:=HI.out
    exact⟨rfl,v2,by simpa using hS2,HG1.out.trans hG2⟩
end Go.Proofs.YtlenbcmgjancmaaGreatDoor
namespace Go.Proofs.YtlenbcmgjancmaaGreatDoor
open Go.RowKit
theorem eqO_nil (b:Nat) (W:World):(binOp .eql 80 (.func (.func 30) #[] #[.pointer (some ⟨b,0,none⟩)]) .nilFunc).run Tryz.prog W=.ok (.bool false) W:=by kernel_rfl
set_option maxRecDepth 100000 in
set_option maxHeartbeats 4000000 in
theorem walkO_any (w:World) (p:Option Addr) (c b:Nat) (ns:List ND) (hT:TreeAt w p ns) (hl:ns.length≤4398046511104) (hid:∀ x ∈ ns,x.id.size≤maxLen) (h8:∀ x ∈ ns,X8 x) (h0:(checkS ns).1=0) (v:Value) (W:World) (hS:OrdS w b v [] W) :
  Calls Tryz.prog 29 #[.agg #[.slice p ns.length c],.func (.func 30) #[] #[.pointer (some ⟨b,0,none⟩)]] W (OrdP w b v (.tuple #[]) (preL ns) W):=by
 have hG:=tree_good h0
 have hlen:=hG.len
 have hpl:=pre_len hG
 have HB0:Hid (Below W.heap.size W (W.alloc (.cells #[.slice p ns.length c] 24))):=zH (Below.alloc (Below.refl _ _) (Nat.le_refl _) _)
 have HCK:=zH (check_gen (W.alloc (.cells #[.slice p ns.length c] 24)) p c ns ((hT.below hS.bel).below HB0.out) hl hid h8)
 have HDN:Hid (∀ V,OrdS w b v [] V→Calls Tryz.prog 90 #[.agg #[.slice p ns.length c],.int .i64 0,.int .i64 1,.func (.func 30) #[] #[.pointer (some ⟨b,0,none⟩)]] V (OrdP w b v (.tuple #[]) (preL ns) V)):=zH fun V hV=>by
  have:=downO_any w p c b ns hT hG ns.length 0 (by omega) (by omega) (by omega) 1 (by omega) (by omega) v [] V hV (by show ([]:List Int).length+(preL ns).length≤1000000;rw [hpl];simp;omega)
  exact this
 have HS:=zH hS
 have hnil:=eqO_nil b
 rw [h0] at HCK
 obtain⟨N,hN⟩:∃ N,ns.length=N:=⟨_,rfl⟩
 rw [hN] at HCK HDN HB0 ⊢
 generalize (checkS ns).2=k2 at HCK
 clear hT hl hid h8 h0 hS hG hlen hpl hN
 go_enter Tryz.func29,Tryz.ntmps29
 go_wp2_with (first|(go_at_call 19;((with_reducible refine HCK.out.mono ?_);rintro e1' w2 ⟨rfl,hb2⟩;have HB2:Hid (Below W.heap.size W w2):=zH (HB0.out.trans (hb2.mono HB0.out.size));have c2:w2.cell? ⟨W.heap.size,0,none⟩=some (.slice p N c):=(hb2.cell (p:=⟨W.heap.size,0,none⟩) (by simp)).trans ((show Arr (W.alloc (.cells #[.slice p N c] 24)) W.heap.size [.slice p N c] 24 from heap_alloc_new W _).cell (j:=0) rfl);have l2:W.heap.size<w2.heap.size:=Nat.lt_of_lt_of_le (by simp) hb2.size;clear hb2))|(go_at_call 90;((with_reducible refine(HDN.out w2 (HS.out.below HB2.out)).mono ?_);rintro e1' w3 ⟨rfl,v3,hS3,hG3⟩)))
 go_end0
 exact⟨rfl,v3,hS3,(OrdG.below v HB2.out).trans hG3⟩
set_option maxRecDepth 100000 in
set_option maxHeartbeats 4000000 in
theorem order_any (w:World) (p:Option Addr) (c:Nat) (ns:List ND) (hT:TreeAt w p ns) (hl:ns.length≤4398046511104) (hid:∀ x ∈ ns,x.id.size≤maxLen) (h8:∀ x ∈ ns,X8 x) (h0:(checkS ns).1=0) :
  Calls Tryz.prog 18 #[.agg #[.slice p ns.length c]] w (VRow 3 1 ns.length (ivl (preL ns)) w):=by
 have hG:=tree_good h0
 have hpl:=pre_len hG
 have HOS:Hid (OrdS w (w.heap.size+1) (.slice none 0 0) [] ((w.alloc (.cells #[.slice p ns.length c] 24)).alloc (.cells #[.slice none 0 0] 38))):=zH (by
  refine⟨?_,World.ownsRow_nil _ _ _ _,by omega,Below.alloc (Below.alloc (Below.refl _ _) (Nat.le_refl _) _) (by simp) _⟩
  have:=Boxed.new (w.alloc (.cells #[.slice p ns.length c] 24)) 38 (.slice none 0 0)
  rwa [World.size_alloc] at this)
 have HW:=zH (walkO_any w p c (w.heap.size+1) ns hT hl hid h8 h0 (.slice none 0 0) _ HOS.out)
 obtain⟨N,hN⟩:∃ N,ns.length=N:=⟨_,rfl⟩
 rw [hN] at HW HOS hpl ⊢
 clear hT hl hid h8 h0 hG hN
 go_enter Tryz.func18,Tryz.ntmps18
 go_wp2_with (go_at_call 29;((with_reducible refine HW.out.mono ?_);rintro e1' w2 ⟨rfl,v2,hS2,hG2⟩;have HS2:=zH hS2;have c2:=hS2.box.cell;have l2:=hS2.box.lt;clear hS2 hG2))
 go_ret
 refine⟨v2,rfl,HS2.out.bel,?_⟩
 have:=HS2.out.row
 rwa [hpl] at this
end Go.Proofs.YtlenbcmgjancmaaGreatDoor
