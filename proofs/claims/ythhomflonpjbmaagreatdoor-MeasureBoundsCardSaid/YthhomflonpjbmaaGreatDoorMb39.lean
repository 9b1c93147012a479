/-
 The walk of measure.New at any tree.
-/
import Derived.Test.YthhomflonpjbmaaGreatDoorMb33
import Derived.Test.YthhomflonpjbmaaGreatDoorMb37
import Derived.Test.YthhomflonpjbmaaGreatDoorMb38
set_option linter.unusedVariables false
set_option linter.unusedSimpArgs false
namespace Go.Proofs.YthhomflonpjbmaaGreatDoor
open Go.RowKit Go.Maps
theorem wpList_append_nodes {ops : Array Oper} {rest : List Oper} {a : Act} {Q : Exit→Act→World→Prop} {W : World} {dst : Option Tmp} {ty : TypeId} {s x : Operand} {pos : String} {after : Array Edge} {v : Value} {news : List Value} {B g o m c : Nat}
  (hs : a.eval s = v) (hx : a.eval x = .slice (some ⟨g,o,none⟩) m c) (hl : news.length = m * 34) (hnews : ∀ j u,news[j]? = some u→W.cell? ⟨g,o + j,none⟩ = some u) (h1 : ∀ u ∈ news,u.oneCell' = true)
  (hrow : W.ownsRow B 46 34 v 0 []) (hB : B≤W.heap.size) (hm : 0 < m) (hm2 : m≤1000000)
  (h : ∀ v' w',w'.ownsRow B 46 34 v' m news→W.grownBy w' v.ownBlock→(v'.ownBlock = v.ownBlock∨v'.ownBlock = some W.heap.size)→∀ K : Act→World→Prop,(∀ a w,wpList Tryz.prog ops Q rest a w→K a w)→K (a.put dst v') w') :
  wpList Tryz.prog ops Q ({ dst:=dst,op:=.call { callee:=.builtin .append,args:=#[s,x],argTypes:=#[22,22] },type:=ty,pos:=pos,after:=after,guard:=none } :: rest) a W:=by
 obtain ⟨i0,hi,hz0,hz1,hz2⟩:=info_parts zeroNode
 refine wpList_append_place (w:=W) rfl s x 22 rfl B 46 i0 _ 34 288 Tryz.underlying22 hi hz0 hz1 hz2 rfl (by decide) v 0 [] hs hrow
  ⟨g,o,none⟩ m c news hx hl ?_ h1 ?_ ?_ hB hm ?_
 ·intro j u hj
  rw [show (⟨g,o,none⟩ : Addr).add j = ⟨g,o + j,none⟩ by simp [Addr.add]]
  exact hnews j u hj
 ·simp [maxLen];omega
 ·omega
 ·intro v' w' hown hgr hp
  exact h v' w' (by simpa using hown) hgr hp _ (fun _ _ h=>h)
theorem sli_newsA {W : World} {v : Value} {l : List Int} (h : SlI W v l) : ∃ p c,v = .slice p l.length c∧(0 < l.length→∃ gx ox,p = some ⟨gx,ox,none⟩∧∀ j u,(ivl l)[j]? = some u→(W.alloc (.cells #[] 3)).cell? ⟨gx,ox + j,none⟩ = some u):=by
 obtain ⟨p,c,rfl,hl,hx⟩:=h
 refine ⟨p,c,rfl,fun h0=>?_⟩
 obtain ⟨g,o,rfl,hg,_⟩:=hx 0 _ (List.getElem?_eq_getElem h0)
 refine ⟨g,o,rfl,fun j u hj=>?_⟩
 unfold ivl at hj
 rw [List.getElem?_map] at hj
 obtain ⟨y,hy,rfl⟩:=Option.map_eq_some_iff.1 hj
 obtain ⟨g',o',e',_,hc⟩:=hx j y hy
 obtain ⟨rfl,rfl⟩ : g = g'∧o = o':=by simpa using e'
 rw [World.cell?_alloc_lt _ _ ⟨g,o + j,none⟩ hg];exact hc
theorem slt_newsA {W : World} {v : Value} {l : List Itm} (h : SlT W v l) : ∃ p c,v = .slice p l.length c∧(0 < l.length→∃ gx ox,p = some ⟨gx,ox,none⟩∧∀ j u,(flatC Itm.cells l)[j]? = some u→(W.alloc (.cells #[] 40)).cell? ⟨gx,ox + j,none⟩ = some u):=by
 obtain ⟨p,c,rfl,_,hx⟩:=slt_news h
 refine ⟨p,c,rfl,fun h0=>?_⟩
 obtain ⟨g,o,rfl,hg,hc⟩:=hx h0
 exact ⟨g,o,rfl,fun j u hj=>by rw [World.cell?_alloc_lt _ _ ⟨g,o + j,none⟩ hg];exact hc j u hj⟩
theorem off_row {W : World} {B n sz : Nat} {e : TypeId} {v : Value} {news : List Value} (h : W.ownsRow B e sz v n news) {α : Type} (l : List α) {b : Nat} (hb : b < B) : Off v l b:=by
 intro a m c e' _
 rcases h.2 with ⟨rfl,_⟩ | ⟨g,cap,cur,rfl,hg,_⟩
 ·simp at e'
 ·obtain rfl:=(Option.some.inj (Value.slice.inj e').1)
  show g ≠ b
  omega
theorem slt_row {W : World} {B : Nat} {v : Value} {l : List Itm} (h : W.ownsRow B 40 5 v l.length (flatC Itm.cells l)) (hv : v ≠ .slice none 0 0) (hl : l.length≤4398046511104) : SlT W v l:=by
 obtain ⟨b,cap,rfl,_,hr⟩:=RowT.of_owns h rfl hv
 exact hr.sl hl cap
theorem one_ints (l : List Int) : ∀ u ∈ ivl l,u.oneCell' = true:=fun u hu=>by unfold ivl at hu;obtain ⟨y,_,rfl⟩:=List.mem_map.1 hu;rfl
theorem ivl_lenA (l : List Int) : (ivl l).length = l.length * 1:=by unfold ivl;simp
theorem TreeAt.below {w W : World} {p : Option Addr} {ns : List ND} (h : TreeAt w p ns) (hb : Below w.heap.size w W) : TreeAt W p ns:=fun i x hx=>by
 obtain ⟨g,o,e,hg,kv,cv,h1,h2,h3⟩:=h i x hx
 exact ⟨g,o,e,Nat.lt_of_lt_of_le hg hb.size,kv,cv,h1.below hb hg,h2.below hb,h3.below hb⟩
def NewG (ns : List ND) (w : World) (e : Ending) (W : World) : Prop :=
 ((checkS ns).1 = 0∧∃ pm g bk bm cc,e = .returned (.tuple #[.pointer (some ⟨pm,0,none⟩),.int .i64 0])∧Below w.heap.size w W∧w.heap.size≤pm∧w.heap.size≤g∧w.heap.size≤bk∧w.heap.size≤bm∧∀ f,MG ⟨pm,g,bk,bm,cc,ns,f⟩ W)∨
 ((checkS ns).1 ≠ 0∧e = .returned (.tuple #[.pointer none,.int .i64 (checkS ns).1])∧Below w.heap.size w W)
set_option maxRecDepth 100000 in
set_option maxHeartbeats 8000000 in
theorem new_gen (w : World) (p : Option Addr) (c : Nat) (ns : List ND) (hT : TreeAt w p ns) (hl : ns.length≤4398046511104) (hid : ∀ x ∈ ns,x.id.size≤maxLen) (h8 : ∀ x ∈ ns,X8 x) :
  Calls Tryz.prog 8 #[.agg #[.slice p ns.length c]] w (NewG ns w):=by
 have hB1 : Below w.heap.size w (w.alloc (.cells #[.slice p ns.length c] 24)):=Below.alloc (Below.refl _ _) (Nat.le_refl _) _
 have HCK:=zH (check_gen (w.alloc (.cells #[.slice p ns.length c] 24)) p c ns (hT.below hB1) hl hid h8)
 by_cases h0 : (checkS ns).1 = 0
 ·have hTO:=tree_ok h0
  obtain ⟨hn1,hn4⟩:=hTO.len
  obtain ⟨g,o,rfl,hg,_⟩:=hT 0 _ (List.getElem?_eq_getElem hn1)
  have HNG : Hid (∀ e W,(∃ pm g bk bm cc,e = .returned (.tuple #[.pointer (some ⟨pm,0,none⟩),.int .i64 0])∧Below w.heap.size w W∧w.heap.size≤pm∧w.heap.size≤g∧w.heap.size≤bk∧w.heap.size≤bm∧∀ f,MG ⟨pm,g,bk,bm,cc,ns,f⟩ W)→NewG ns w e W):=zH fun e W h=>.inl ⟨h0,h⟩
  rw [h0] at HCK
  generalize (checkS ns).2 = r2 at HCK
  have HTO:=zH hTO
  have HT:=zH hT
  clear hT hTO h0 hid h8
  obtain ⟨N,hN⟩ : ∃ N,ns.length = N:=⟨_,rfl⟩
  have HN:=zH hN
  rw [hN] at hn1 hn4 HCK hB1 ⊢
  clear hN hl
  go_enter Tryz.func8,Tryz.ntmps8
  go_upto_region 4 with (go_at_call 19;go_loud ((with_reducible refine (HCK.out).mono ?_);rintro e1' w2 ⟨rfl,hb2⟩;have hz2:=hb2.size;have hbx : w2.cell? ⟨w.heap.size,0,none⟩ = some (.slice (some ⟨g,o,none⟩) N c):=(hb2.cell (p:=⟨w.heap.size,0,none⟩) (by simp)).trans (cell_newC _ _ _ _ _ rfl);have hlw : w.heap.size < w2.heap.size:=(by simp at hz2;omega);clear hz2;have hB2 : Below w.heap.size w w2:=Below.trans hB1 (hb2.mono (by simp));clear hb2))
  have HB2:=zH hB2
  have hl2:=hB2.size
  clear hB2
  have hnc:=fun j u (hu : (nodesC' w g o N)[j]? = some u)=>nodesC'_cell (c:=0) HT.out (j:=j) (u:=u) (by rw [HN.out];exact hu)
  have HNC:=zH hnc
  clear hnc
  have hHT2 : TreeAt w2 (some ⟨g,o,none⟩) ns:=HT.out.below HB2.out
  have hnl : (nodesC' w2 g o N).length = N * 34:=nodesC'_len _ _ _ _
  have hnw : ∀ j u,(nodesC' w2 g o N)[j]? = some u→(w2.alloc (.cells #[] 46)).cell? ⟨g,o + j,none⟩ = some u:=fun j u hu=>by
   have:=(nodesC'_cell (c:=0) hHT2 (j:=j) (u:=u) (by rw [HN.out];exact hu)).1
   rw [World.cell?_alloc_lt _ _ ⟨g,o + j,none⟩ (World.block_lt_of_cell? w2 _ this)];exact this
  have hno : ∀ u ∈ nodesC' w2 g o N,u.oneCell' = true:=fun u hu=>by
   obtain ⟨j,hj⟩:=List.mem_iff_getElem?.1 hu
   exact (nodesC'_cell (c:=0) hHT2 (j:=j) (u:=u) (by rw [HN.out];exact hj)).2
  have HHT2:=zH hHT2
  have HNW:=zH hnw
  have HNO:=zH hno
  have HNL:=zH hnl
  clear hnw hno hnl hHT2 HNC
  go_wp2_with ((with_reducible apply wpList_append_nodes (B:=w2.heap.size) (m:=N) (news:=nodesC' w2 g o N) (g:=g) (o:=o));exact rfl;exact rfl;exact HNL.out;exact HNW.out;exact HNO.out;exact World.ownsRow_made w2 #[] 0 (Nat.le_refl _) (Nat.zero_le _) rfl;(simp);omega;omega;intro v' w5 hrow5 hgr5 hpl5 K hK;obtain ⟨gN,cN,cur,rfl,hgN,hblk,hle,hcm,hcs,htk⟩:=(hrow5.2.resolve_left (fun h=>by have:=h.2;omega));have HR5:=zH hrow5;have HG5:=zH hgr5;clear hrow5 hgr5 hpl5 hcs htk hcm)
  have hl5 : gN < w5.heap.size:=(Array.getElem?_eq_some_iff.1 hblk).1
  have hB25 : Below w2.heap.size w2 w5:=((Below.refl _ w2).alloc (Nat.le_refl _) _).grown HG5.out (by simp) (fun k e=>by have e' : w2.heap.size = k:=Option.some.inj e.symm |>.symm;omega)
  have hTN : TreeN w5 gN ns:=TreeN.made HHT2.out hgN hl5 hB25 (fun j u hu=>by
   have:=HR5.out.cells (g:=gN) rfl j u (by rw [← HN.out];exact hu)
   rw [addr_add,Nat.zero_add] at this;exact this) (fun q=>by simp [World.frozen?,hblk])
  have HTN:=zH hTN
  have HB5:=zH (HB2.out.trans (hB25.mono hl2))
  have hwg : w.heap.size≤gN:=by omega
  clear hTN hB25 hblk HR5 HG5 HHT2 HNW HNO HNL hbx
  go_loopw [22] (fun i wr=>∃ a : Nat,i = .int .i64 a∧a≤N∧TreeN wr gN ns∧Below w.heap.size w wr) (fun i _=>N - (intOf i).toNat)
  case atStart=>exact ⟨0,rfl,by omega,HTN.out,HB5.out⟩
  case round=>
   obtain ⟨a,rfl,ha,hT,hB⟩:=hrel
   have HTR:=zH hT
   have HBR:=zH hB
   have hlr:=hT.lt
   have hzr:=hB.size
   clear hT hB HTN HB5 hl5
   by_cases hlt : a < N
   ·have hltI : (a : Int) < (N : Int):=by omega
    obtain ⟨x,hx⟩ : ∃ x,ns[a]? = some x:=⟨_,List.getElem?_eq_getElem (by rw [HN.out];exact hlt)⟩
    have hok:=HTO.out.node a x hx
    have hkl : x.kids.length≤4096:=by have:=hok.kl;have:=HN.out;omega
    have hcl : x.cols.length≤64:=by have:=hok.items.2.2.2;unfold ColsP at this;omega
    obtain ⟨kv,cv,h1,h2,h3,h4,h5⟩:=HTR.out.nd a x hx
    obtain ⟨pk,ck,rfl,hkn⟩:=sli_newsA h2
    have c3:=h1.kids
    have HKN:=zH hkn
    have HKO:=zH (one_ints x.kids)
    have HKL:=zH (ivl_lenA x.kids)
    have HC28:=zH h1.cols
    have HC3:=zH c3
    have H3:=zH h3
    have H5:=zH h5
    have HX:=zH hx
    clear h1 h2 h3 h4 h5 hkn hok hx
    go_upto_region 9 with ((with_reducible apply wpList_append_all elI (news:=ivl x.kids));exact rfl;exact rfl;exact rfl;exact HKN.out;exact HKL.out;exact HKO.out;omega;intro v9 w9 hrow9 hnn9 hb9 K9 hK9;have HS9 : Hid (SlI w9 v9 x.kids):=zH (sli_row hrow9 (by omega));have HO9 : Hid (Off v9 x.kids gN):=zH (off_row hrow9 x.kids hlr);have HT9:=zH (HTR.out.below hb9);have HB9:=zH hb9;have e3:=(hb9.cell (p:=⟨gN,a * 34 + 3,none⟩) hlr).trans HC3.out;have f3:=HT9.out.froz (a * 34 + 3);have l9:=HT9.out.lt;clear hrow9 hnn9 hb9 c3;obtain ⟨p9,c9,e9,_,_⟩:=HS9.out;subst e9)
    have HTA : Hid (TreeN (w9.setCell ⟨gN,a * 34 + 3,none⟩ (.slice p9 x.kids.length c9)) gN ns):=zH (HT9.out.putKids HX.out HS9.out HO9.out)
    have c28 : (w9.setCell ⟨gN,a * 34 + 3,none⟩ (.slice p9 x.kids.length c9)).cell? ⟨gN,a * 34 + 28,none⟩ = some cv:=by rw [cell_setF (by omega)];exact (HB9.out.cell (p:=⟨gN,a * 34 + 28,none⟩) hlr).trans HC28.out
    have h3A : SlT (w9.setCell ⟨gN,a * 34 + 3,none⟩ (.slice p9 x.kids.length c9)) cv x.cols:=(H3.out.below HB9.out).setN H5.out _ _
    have HBA : Hid (Below w.heap.size w (w9.setCell ⟨gN,a * 34 + 3,none⟩ (.slice p9 x.kids.length c9))):=zH ((HBR.out.trans (HB9.out.mono hzr)).setCell (show w.heap.size≤(⟨gN,a * 34 + 3,none⟩ : Addr).block from hwg) _)
    generalize w9.setCell ⟨gN,a * 34 + 3,none⟩ (.slice p9 x.kids.length c9) = wA at HTA c28 h3A HBA ⊢
    have lA:=HTA.out.lt
    obtain ⟨pc,cc,rfl,hcn⟩:=slt_newsA h3A
    have HCN:=zH hcn
    have HCO:=zH (one_items x.cols)
    have HCL : Hid ((flatC Itm.cells x.cols).length = x.cols.length * 5):=zH (by rw [flatC_len Itm.cells_len])
    have HC28A:=zH c28
    clear hcn h3A e3 f3 l9 HT9 HS9 HO9 HB9 HTR HBR
    go_wp2_with ((with_reducible apply wpList_append_all elT (news:=flatC Itm.cells x.cols));exact rfl;exact rfl;exact rfl;exact HCN.out;exact HCL.out;exact HCO.out;omega;intro v7 w7 hrow7 hnn7 hb7 K7 hK7;have HS7 : Hid (SlT w7 v7 x.cols):=zH (slt_row hrow7 hnn7 (by omega));have HO7 : Hid (Off v7 x.cols gN):=zH (off_row hrow7 x.cols lA);have HT7:=zH (HTA.out.below hb7);have HB7:=zH hb7;have e7:=(hb7.cell (p:=⟨gN,a * 34 + 28,none⟩) lA).trans HC28A.out;have f7:=HT7.out.froz (a * 34 + 28);have l7:=HT7.out.lt;clear hrow7 hnn7 hb7 c28;obtain ⟨p7,c7,e8,_,_⟩:=HS7.out;subst e8)
    go_roundw
    case rel=>exact ⟨a + 1,by first | rfl | go_num,by omega,HT7.out.putCols HX.out HS7.out HO7.out,((HBA.out.trans (HB7.out.mono HBA.out.size)).setCell (show w.heap.size≤(⟨gN,a * 34 + 28,none⟩ : Addr).block from hwg) _)⟩
    case measure=>simp [intOf] <;> omega
   ·have hltI : decide ((a : Int) < (N : Int)) = false:=decide_eq_false (by omega)
    have hmm:=@run_makeMap Tryz.prog
    go_wp2_with (go_at_call 20;((with_reducible refine (kinds_all _).mono ?_);rintro e1' w9 ⟨bk,rfl,hk1,hk2,hb9,hk9⟩))
    go_ret2
    have hz9:=hb9.size
    have g9 : Below w9.heap.size w9 ((w9.alloc (.map #[] 0)).alloc (.cells #[.slice (some ⟨gN,0,none⟩) N cN,.slice (some ⟨bk,0,none⟩) 12 12,.map (some w9.heap.size)] 61)):=by (repeat (first | exact Below.refl _ _ | assumption | refine below_drewN ?_ _ | refine Below.drew ?_ | (refine Below.alloc ?_ ?bs _;(case bs=>first | omega | (simp;done) | (simp;omega))) | (refine Below.setCell ?_ ?bs _;(case bs=>first | omega | (simp;done) | (simp;omega)))))
    have g8 : Below wr.heap.size wr ((w9.alloc (.map #[] 0)).alloc (.cells #[.slice (some ⟨gN,0,none⟩) N cN,.slice (some ⟨bk,0,none⟩) 12 12,.map (some w9.heap.size)] 61)):=hb9.trans (g9.mono hz9)
    refine HNG.out _ _ ⟨w9.heap.size + 1,gN,bk,w9.heap.size,cN,rfl,HBR.out.trans (g8.mono hzr),by omega,by omega,by omega,by omega,fun f=>⟨?_,?_,?_,?_,?_,?_⟩⟩
    ·rw [HN.out];exact cell_newC _ _ _ _ _ (by simp)
    ·exact cell_newC _ _ _ _ _ (by simp)
    ·exact cell_newC _ _ _ _ _ (by simp)
    ·exact hk9.keeps (keeps_below g9)
    ·exact (HTR.out.below g8).tree
    ·exact ⟨.map [],ownsMap_tight (World.ownsMap.alloc (World.ownsMap_made w9 _ _ _) _) (by simp [Maps.size]),known_empty f,fun kl h=>by simp [Maps.has] at h⟩
 ·have HNG : Hid (∀ W,Below w.heap.size w W→NewG ns w (.returned (.tuple #[.pointer none,.int .i64 (checkS ns).1])) W):=zH fun W h=>.inr ⟨h0,rfl,h⟩
  have h0I : (((checkS ns).1 : Int) == 0) = false:=by rw [beq_eq_false_iff_ne];omega
  obtain ⟨r1,hr1⟩ : ∃ r,(checkS ns).1 = r:=⟨_,rfl⟩
  rw [hr1] at HCK HNG h0I
  generalize (checkS ns).2 = r2 at HCK
  clear hT hid h8 h0 hr1
  go_enter Tryz.func8,Tryz.ntmps8
  go_wp2_with (go_at_call 19;((with_reducible refine (HCK.out).mono ?_);rintro e1' w2 ⟨rfl,hb2⟩))
  go_ret2
  exact HNG.out _ (Below.trans hB1 (hb2.mono (by simp)))
end Go.Proofs.YthhomflonpjbmaaGreatDoor
