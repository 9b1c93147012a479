import Derived.Test.YtlenbcmgjancmaaGreatDoorMn33
import Derived.Test.YtlenbcmgjancmaaGreatDoorMn13
import Derived.Test.YtlenbcmgjancmaaGreatDoorMn37
set_option linter.unusedVariables false
set_option linter.unusedSimpArgs false
namespace Go.Proofs.YtlenbcmgjancmaaGreatDoor
open Go.RowKit Go.Maps
theorem elX:ElOK 99 101 1 24 (.slice none 0 0):=⟨Tryz.underlying99,by kernel_rfl,rfl,by decide,by decide⟩
def SlRS (w:World) (v:Value) (l:List (List ByteArray)):Prop :=
 ∃ p c,v=.slice p l.length c∧l.length≤4398046511104∧∀ (i:Nat) r,l[i]?=some r→∃ g o u,p=some ⟨g,o,none⟩∧g<w.heap.size∧w.cell? ⟨g,o+i,none⟩=some u∧SlX w u r
theorem SlRS.below {w w':World} {v:Value} {l:List (List ByteArray)} (h:SlRS w v l) (hb:Below w.heap.size w w'):SlRS w' v l:=by
 obtain⟨p,c,rfl,hl,hx⟩:=h
 refine⟨p,c,rfl,hl,fun i x hi=>?_⟩
 obtain⟨g,o,u,e,hg,hc,hs⟩:=hx i x hi
 exact⟨g,o,u,e,Nat.lt_of_lt_of_le hg hb.size,(hb.cell (p:=⟨g,o+i,none⟩) hg).trans hc,hs.below hb⟩
def OutSR (l:List (List ByteArray)) (w:World) (e:Ending) (w':World):Prop:=∃ v,e=.returned v∧Below w.heap.size w w'∧SlRS w' v l
def rowsT (t:ByteArray):List (List ByteArray):=if t.size=0 then [] else (partsS 10 t).map (partsS 9)
def OffO (u:Value) (r:List ByteArray) (ob:Option Nat):Prop:=∀ a n c,u=.slice (some a) n c→r ≠ []→some a.block ≠ ob
theorem SlX.grown {w w':World} {u:Value} {r:List ByteArray} {ob:Option Nat} (h:SlX w u r) (hg:w.grownBy w' ob) (ho:OffO u r ob):SlX w' u r:=by
 obtain⟨p,c,rfl,hl,hx⟩:=h
 refine⟨p,c,rfl,hl,fun i x hi=>?_⟩
 obtain⟨g,o,rfl,hgs,hc⟩:=hx i x hi
 exact⟨g,o,rfl,Nat.lt_of_lt_of_le hgs hg.size,hg.cell hc (ho ⟨g,o,none⟩ _ _ rfl (by intro e;subst e;simp at hi))⟩
theorem SlX.offo {w:World} {u:Value} {r:List ByteArray} (h:SlX w u r) {b:Nat} (hb:w.heap.size≤b):OffO u r (some b):=by
 obtain⟨p,c,rfl,hl,hx⟩:=h
 intro a n d e hr
 obtain⟨rfl,-,-⟩:p=some a∧r.length=n∧c=d:=by simpa using e
 cases r with
 |nil=>exact absurd rfl hr
 |cons y r=>
  obtain⟨g,o,e,hg,_⟩:=hx 0 y rfl
  obtain rfl:=Option.some.inj e
  intro e2
  have e3:g=b:=Option.some.inj e2
  omega
structure RwX (B:Nat) (v:Value) (vs:List Value) (L:List (List ByteArray)) (W:World):Prop where
 own:W.ownsRow B 101 1 v L.length vs
 rows:∀ (i:Nat) r,L[i]?=some r→∃ u,vs[i]?=some u∧SlX W u r∧OffO u r v.ownBlock
theorem RwX.below {B:Nat} {v:Value} {vs:List Value} {L:List (List ByteArray)} {W W':World} (h:RwX B v vs L W) (hb:Below W.heap.size W W'):RwX B v vs L W' :=
 ⟨orow_belowSize h.own hb,fun i r hi=>by obtain⟨u,h1,h2,h3⟩:=h.rows i r hi;exact⟨u,h1,h2.below hb,h3⟩⟩
theorem RwX.base {B k:Nat} {v:Value} {vs:List Value} {L:List (List ByteArray)} {W:World} (h:RwX B v vs L W) (e:v.ownBlock=some k):B≤k:=by
 rcases h.own.2 with ⟨rfl,_⟩|⟨g,cap,cur,rfl,hb,_⟩
 ·simp [Value.ownBlock] at e
 ·have:g=k:=by simpa [Value.ownBlock] using e
  omega
theorem RwX.offN {B:Nat} {v u:Value} {vs:List Value} {L:List (List ByteArray)} {W:World} (h:RwX B v vs L W) {r:List ByteArray} (hf:∀ a n c,u=.slice (some a) n c→W.heap.size≤a.block):OffO u r v.ownBlock:=by
 intro a n c e _ e2
 have h1:=hf a n c e
 rcases h.own.2 with ⟨rfl,_⟩|⟨g,cap,cur,rfl,hb,hg,_⟩
 ·simp [Value.ownBlock] at e2
 ·have:a.block=g:=by simpa [Value.ownBlock] using e2
  have:=(Array.getElem?_eq_some_iff.1 hg).1
  omega
theorem RwX.sl {B:Nat} {v:Value} {vs:List Value} {L:List (List ByteArray)} {W:World} (h:RwX B v vs L W) (hl:L.length≤4398046511104):SlRS W v L:=by
 rcases h.own.2 with ⟨rfl,h0⟩|⟨g,cap,cur,rfl,hb,hg,hn,hc,hs,ht⟩
 ·exact⟨none,0,by rw [h0],hl,fun i r hi=>by obtain⟨h1,_⟩:=List.getElem?_eq_some_iff.1 hi;omega⟩
 ·refine⟨some ⟨g,0,none⟩,cap,rfl,hl,fun i r hi=>?_⟩
  obtain⟨u,h1,h2,_⟩:=h.rows i r hi
  have hi':=(List.getElem?_eq_some_iff.1 hi).1
  refine⟨g,0,u,rfl,(Array.getElem?_eq_some_iff.1 hg).1,?_,h2⟩
  have:=World.ownsRow.cellAt h.own i (by omega)
  rw [Nat.zero_add,this,h1]
theorem RwX.app {B:Nat} {v v' u:Value} {vs:List Value} {L:List (List ByteArray)} {r:List ByteArray} {W W1 W':World} (h:RwX B v vs L W) (hu:SlX W u r) (hou:OffO u r v.ownBlock) (hl:vs.length=L.length) (hb:Below W.heap.size W W1) (ho:W'.ownsRow B 101 1 v' (L.length+1) (vs ++ [u])) (hg:W1.grownBy W' v.ownBlock) {b:Nat} (hW:W.heap.size≤b) (hp:v'.ownBlock=v.ownBlock∨v'.ownBlock=some b):RwX B v' (vs ++ [u]) (L ++ [r]) W':=by
 have off:∀ u r,SlX W u r→OffO u r v.ownBlock→OffO u r v'.ownBlock:=fun u r hs ho=>by
  rcases hp with e|e
  ·rw [e];exact ho
  ·rw [e];exact hs.offo hW
 refine⟨by rw [List.length_append];exact ho,fun i s hi=>?_⟩
 by_cases e:i<L.length
 ·rw [List.getElem?_append_left e] at hi
  obtain⟨y,h1,h2,h3⟩:=h.rows i s hi
  exact⟨y,by rw [List.getElem?_append_left (by omega)];exact h1,(h2.below hb).grown hg h3,off y s h2 h3⟩
 ·have hlt:=(List.getElem?_eq_some_iff.1 hi).1
  rw [List.length_append] at hlt
  have hi2:i=L.length:=by simp at hlt;omega
  subst hi2
  rw [List.getElem?_append_right (Nat.le_refl _),Nat.sub_self] at hi
  obtain rfl:r=s:=by simpa using hi
  exact⟨u,by rw [List.getElem?_append_right (by omega),hl,Nat.sub_self];rfl,(hu.below hb).grown hg hou,off u r hu hou⟩
theorem partsF_size (c:UInt8):∀ (k:Nat) (s:ByteArray),∀ r ∈ partsF c k s,r.size≤s.size
 | 0,s,r,h=>by simp only [partsF,List.mem_singleton] at h;rw [h];exact Nat.le_refl _
 |k+1,s,r,h=>by
  simp only [partsF] at h
  split at h
  ·simp only [List.mem_singleton] at h;rw [h];exact Nat.le_refl _
  ·rcases List.mem_cons.1 h with rfl|h
   ·simp;omega
   ·have:=partsF_size c k _ r h
    simp at this
    omega
set_option maxRecDepth 100000 in
set_option maxHeartbeats 4000000 in
theorem tabRows_any (t:ByteArray) (ht:t.size≤65536) (w:World):Calls Tryz.prog 71 #[.string t] w (OutSR (rowsT t) w):=by
 by_cases h0:t.size=0
 ·obtain rfl:t=⟨#[]⟩:=by
   cases t with
   |mk d=>congr;exact Array.eq_empty_of_size_eq_zero h0
  go_enter Tryz.func71,Tryz.ntmps71
  go_wp2
  go_ret
  exact⟨_,rfl,Below.refl _ _,none,0,by unfold rowsT;rw [if_pos h0];rfl,by unfold rowsT;rw [if_pos h0];simp,fun i r h=>by unfold rowsT at h;rw [if_pos h0] at h;simp at h⟩
 ·have hnil:t.toList ≠ []:=by
   rw [ByteArray.toList_eq]
   intro e
   have:t.data.toList.length=0:=by rw [e];rfl
   simp at this
   exact h0 (by rw [ByteArray.size,this];rfl)
  have hne:t.toList.isEmpty=false:=by rw [List.isEmpty_eq_false_iff];exact hnil
  have hne3:(t.toList == [])=false:=by rw [beq_eq_false_iff_ne];exact hnil
  obtain⟨L,hL⟩:∃ L,partsS 10 t=L:=⟨_,rfl⟩
  have HRT:Hid (rowsT t=L.map (partsS 9)):=zH (by unfold rowsT;rw [if_neg h0,hL])
  have hls:∀ r ∈ L,r.size≤65536:=fun r hr=>by rw [← hL] at hr;have:=partsF_size 10 _ t r hr;omega
  have hLl:L.length≤65537:=by
   rw [← hL]
   have h1:=partsF_len 10 (Lib.countByte t.data.toList 10) t
   have h2:Lib.countByte t.data.toList 10≤t.size:=by unfold Lib.countByte;exact Nat.le_trans (List.count_le_length) (by simp)
   unfold partsS;omega
  have HSP:=zH (splitS_10 t ht w)
  rw [hL] at HSP
  have HLS:=zH hls
  obtain⟨N,hN⟩:∃ N,L.length=N:=⟨_,rfl⟩
  have HN:=zH hN
  rw [hN] at hLl
  clear h0 hL hls hN hnil
  go_enter Tryz.func71,Tryz.ntmps71
  go_wp2_with (go_at_call 104;((with_reducible refine HSP.out.mono ?_);rintro e1' w2 ⟨v2,rfl,hb2,⟨p2,c2,rfl,_,hx2⟩,_⟩;rw [HN.out];have HX2:=zH hx2;have HB2:=zH hb2;clear hx2 hb2))
  go_loopw [11,3] (fun i rv wr=>∃ (a:Nat) (vs:List Value),i=.int .i64 a∧a≤N∧vs.length=a∧RwX w2.heap.size rv vs ((L.map (partsS 9)).take a) wr∧Below w2.heap.size w2 wr) (fun i _ _=>N - (intOf i).toNat)
  case atStart=>exact⟨0,[],rfl,by omega,rfl,⟨World.ownsRow_nil _ _ _ _,fun i r h=>by simp at h⟩,Below.refl _ _⟩
  case round=>
   obtain⟨a,vs,rfl,ha,hvl,hR,hB⟩:=hrel
   have HR:=zH hR
   have HB:=zH hB
   have HVL:=zH hvl
   have hz:=hB.size
   have hz2:=HB2.out.size
   clear hR hB hvl
   have hml:(L.map (partsS 9)).length=N:=by rw [List.length_map,HN.out]
   have HML:=zH hml
   clear hml
   by_cases hlt:a<N
   ·have hltI:(a:Int)<(N:Int):=by omega
    obtain⟨r,hr⟩:∃ r,L[a]?=some r:=⟨_,List.getElem?_eq_getElem (by rw [HN.out];exact hlt)⟩
    obtain⟨g,o,rfl,hg,hc⟩:=HX2.out a r hr
    have c1:=(HB.out.cell (p:=⟨g,o+a,none⟩) hg).trans hc
    have lg:g<wr.heap.size:=by omega
    have HSQ:=zH (splitS_9 r (HLS.out r (List.mem_of_getElem? hr)) wr)
    have HTK:Hid ((L.map (partsS 9)).take (a+1)=(L.map (partsS 9)).take a ++ [partsS 9 r]):=zH (by
     rw [List.take_add_one,List.getElem?_map,hr];rfl)
    have HTL:Hid (((L.map (partsS 9)).take a).length=a):=zH (by rw [List.length_take,HML.out];omega)
    clear hc hr
    go_wp2_with (first|(go_at_call 104;((with_reducible refine HSQ.out.mono ?_);rintro e1' w3 ⟨v3,rfl,hb3,hs3,hf3⟩;have HF3:=zH hf3;have HS3:=zH hs3;have HB3:=zH hb3;have hz3:=hb3.size;clear hs3 hb3 hf3;obtain⟨p3,c3,e3,_,_⟩:=HS3.out;subst e3))|((with_reducible apply wpList_append_new elX (B:=w2.heap.size) (n:=a) (xs:=vs) (nw:=#[.slice p3 (partsS 9 r).length c3]));go_loud (exact rfl);go_loud (exact rfl);go_loud (first|exact rfl|simp);go_loud (exact(by have:=(HR.out.below HB3.out).own;rw [HTL.out] at this;exact this));go_loud (omega);go_loud (omega);go_loud (exact rfl);go_loud (intro u hu;simp at hu;subst hu;rfl);intro v' w9 hrow9 hgr9 hpl9 K hK;have HO9:=zH hrow9;have HG9:=zH hgr9;have HP9:=zH hpl9;clear hrow9 hgr9 hpl9))
    go_roundw
    case rel=>exact⟨a+1,vs ++ [.slice p3 (partsS 9 r).length c3],by first|rfl|go_num,by omega,by rw [List.length_append,HVL.out];rfl,by rw [HTK.out];exact(HR.out.below HB3.out).app HS3.out (HR.out.offN HF3.out) (by rw [HVL.out,HTL.out]) (Below.alloc (Below.refl _ _) (Nat.le_refl _) _) (by rw [HTL.out];exact HO9.out) HG9.out (Nat.le_succ _) HP9.out,((HB.out.trans (HB3.out.mono hz)).trans ((Below.alloc (Below.refl _ _) (Nat.le_refl _) _).mono (by omega))).grown HG9.out (by simp;omega) (fun k e=>HR.out.base e)⟩
    case measure=>simp [intOf]<;>omega
   ·have hltI:decide ((a:Int)<(N:Int))=false:=decide_eq_false (by omega)
    obtain rfl:a=N:=by omega
    have hRR:=HR.out
    rw [List.take_of_length_le (by rw [HML.out];exact Nat.le_refl _)] at hRR
    have hq:=hRR.sl (by rw [HML.out];omega)
    go_wp2
    go_ret
    exact⟨_,rfl,HB2.out.trans (HB.out.mono hz2),by rw [HRT.out];exact hq⟩
end Go.Proofs.YtlenbcmgjancmaaGreatDoor
namespace Go.Proofs.YtlenbcmgjancmaaGreatDoor
open Go.RowKit Go.Maps
def fieldS (r:List ByteArray) (k:Nat):ByteArray:=(r[k]?).getD ⟨#[]⟩
theorem fieldS_size {r:List ByteArray} (h:∀ s ∈ r,s.size≤65536) (k:Nat):(fieldS r k).size≤65536:=by
 unfold fieldS
 cases e:r[k]? with
 |none=>exact Nat.zero_le _
 |some x=>exact h x (List.mem_of_getElem? e)
set_option maxRecDepth 100000 in
theorem field_any (v:Value) (r:List ByteArray) (k:Nat) (w:World) (hv:SlX w v r):Calls Tryz.prog 103 #[v,.int .i64 k] w (VRet (.string (fieldS r k)) w):=by
 obtain⟨p,c,rfl,hl,hx⟩:=hv
 have HX:=zH hx
 obtain⟨n,hn⟩:∃ n,r.length=n:=⟨_,rfl⟩
 have HN:=zH hn
 rw [hn]
 clear hx
 by_cases hlt:k<n
 ·obtain⟨x,hxk⟩:∃ x,r[k]?=some x:=⟨_,List.getElem?_eq_getElem (by omega)⟩
  obtain⟨g,o,rfl,hg,hc⟩:=HX.out k x hxk
  have HF:Hid (fieldS r k=x):=zH (by unfold fieldS;rw [hxk];rfl)
  have hltI:(k:Int)<(n:Int):=by omega
  have e1:decide ((n:Int)≤(k:Int))=false:=decide_eq_false (by omega)
  clear hxk hn
  go_enter Tryz.func103,Tryz.ntmps103
  go_wp2
  go_ret
  exact⟨by rw [HF.out];rfl,rfl⟩
 ·have HF:Hid (fieldS r k=⟨#[]⟩):=zH (by unfold fieldS;rw [List.getElem?_eq_none (by omega)];rfl)
  have e1:decide ((n:Int)≤(k:Int))=true:=decide_eq_true (by omega)
  clear hn
  go_enter Tryz.func103,Tryz.ntmps103
  go_wp2
  go_ret
  exact⟨by rw [HF.out];rfl,rfl⟩
def widF (cs:List Cl):Nat:=(cs.map (·.2)).sum
def wideT (s:ByteArray):Int:=min (widF (flowS s.data.toList):Int) 4096
theorem widF_take {cs:List Cl} {k:Nat} {y:Cl} (h:cs[k]?=some y):widF (cs.take (k+1))=widF (cs.take k)+y.2:=by
 unfold widF
 rw [List.take_add_one,h,List.map_append,List.sum_append]
 simp
theorem widF_le {cs:List Cl} (h:∀ c ∈ cs,c.2≤2):widF cs≤2*cs.length:=by
 unfold widF
 induction cs with
 |nil=>simp
 |cons c cs ih=>
  have h1:=h c (by simp)
  have h2:=ih (fun x hx=>h x (by simp [hx]))
  simp only [List.map_cons,List.sum_cons,List.length_cons]
  omega
set_option maxRecDepth 100000 in
set_option maxHeartbeats 4000000 in
theorem tabWide_any (s:ByteArray) (hs:s.size≤65536) (w:World):Calls Tryz.prog 102 #[.string s] w (VBel (.int .i64 (wideT s)) w):=by
 have HR:Hid (wideT s=min (widF (flowS s.data.toList):Int) 4096):=zH rfl
 have HFL:=zH (flow_any s (by omega) w)
 have hok:∀ c ∈ flowS s.data.toList,c.2≤2:=fun c hc=>(flowS_ok _ c hc).1.1
 have hln:=flowS_len s.data.toList
 rw [blen] at hln
 obtain⟨cs,hcs⟩:∃ cs,flowS s.data.toList=cs:=⟨_,rfl⟩
 rw [hcs] at HFL HR hok hln
 obtain⟨n,hn⟩:∃ n,cs.length=n:=⟨_,rfl⟩
 have HN:=zH hn
 rw [hn] at hln HFL
 have HOK:=zH hok
 rw [HR.out]
 have hwn:=widF_le hok
 have HWN:=zH hwn
 have hn4:n≤1000000:=by omega
 clear hcs hok hn hln hwn
 go_enter Tryz.func102,Tryz.ntmps102
 go_wp2_with (go_at_call 28;((with_reducible refine HFL.out.mono ?_);rintro e w1 ⟨v,rfl,hb1,hrow⟩;obtain⟨A,c,rfl,hc1,hc2,hA⟩:=slice_form2 hrow;have HA:=zH hA;have HB1:=zH hb1;clear hA hrow hb1))
 go_loopw [9,3] (fun i m wr=>∃ k:Nat,i=.int .i64 k∧k≤n∧m=.int .i64 (widF (cs.take k):Nat)∧Hid (Below w1.heap.size w1 wr)) (fun i _ _=>n - (intOf i).toNat)
 case atStart=>exact⟨0,rfl,by omega,rfl,Below.refl _ _⟩
 case round=>
  obtain⟨k,rfl,hk,rfl,HBE⟩:=hrel
  by_cases hlt:k<n
  ·have hltI:(k:Int)<(n:Int):=by omega
   obtain⟨g,rfl,hgB,hg,hc⟩:=HA.out (by omega)
   obtain⟨y,hy⟩:∃ y,cs[k]?=some y:=⟨_,List.getElem?_eq_getElem (by have:=HN.out;omega)⟩
   have hc0:wr.cell? ⟨g,k*2,none⟩=some (.string (mkS y.1)):=(HBE.out.cell (p:=⟨g,k*2,none⟩) hg).trans (hc _ _ (cv_get cs k y hy).1)
   have hc1':wr.cell? ⟨g,k*2+1,none⟩=some (.int .i64 y.2):=(HBE.out.cell (p:=⟨g,k*2+1,none⟩) hg).trans (hc _ _ (cv_get cs k y hy).2)
   have hgr:g<wr.heap.size:=Nat.lt_of_lt_of_le hg HBE.out.size
   have hy2:=HOK.out y (List.mem_of_getElem? hy)
   have hbd:=widF_le (cs:=cs.take k) fun x hx=>HOK.out x (List.mem_of_mem_take hx)
   have hl:(cs.take k).length≤k:=List.length_take_le _ _
   have HT:=zH (widF_take hy)
   have HSZ:=zH HBE.out.size
   obtain⟨y1,y2⟩:=y
   simp only at hc0 hc1' hy2
   generalize mkS y1=t at hc0
   have hm:widF (cs.take k)≤4000000:=by omega
   clear hy hc hbd hl
   generalize widF (cs.take k)=m at *
   go_wp2
   go_roundw
   case rel=>exact⟨k+1,by first|rfl|go_num,by omega,by rw [HT.out];first|rfl|(push_cast;rfl),zH (HBE.out.alloc HSZ.out _)⟩
   case measure=>simp [intOf]<;>omega
  ·have hltI:decide ((k:Int)<(n:Int))=false:=decide_eq_false (by omega)
   obtain rfl:k=n:=by omega
   have HTK:Hid (cs.take k=cs):=zH (List.take_of_length_le (by rw [HN.out];exact Nat.le_refl _))
   rw [HTK.out]
   have hb1:=HWN.out
   rw [HN.out] at hb1
   go_wp2
   all_goals
    go_ret
    exact⟨by first|rfl|(congr 2;omega)|simp,HB1.out.trans (HBE.out.mono HB1.out.size)⟩
end Go.Proofs.YtlenbcmgjancmaaGreatDoor
namespace Go.Proofs.YtlenbcmgjancmaaGreatDoor
open Go.RowKit Go.Maps
def manyW:List (List ByteArray)→Int→Int
 | [],n=>n
 |r :: l,n=>manyW l (max n r.length)
def needW (k:Nat):List (List ByteArray)→Int→Int
 | [],n=>n
 |r :: l,n=>needW k l (max n (wideT (fieldS r k)))
def itemC (cols:List Itm) (k:Nat):Itm :=
 match cols[k]? with
 |some c=>if c.ok then c else itm0
 |none=>itm0
def itemF (it:Itm) (n:Int):Itm :=
 ⟨1,(if 0<it.mx then min (max n it.mn) it.mx else max n it.mn),it.d,max it.mn (min 1 (if 0<it.mx then min (max n it.mn) it.mx else max n it.mn)),it.mx⟩
def itemW (rows:List (List ByteArray)) (cols:List Itm) (k:Nat):Itm :=
 if (itemC cols k).k=0 then itemF (itemC cols k) (needW k rows (itemC cols k).n) else itemC cols k
noncomputable def widthsT (rows:List (List ByteArray)) (cols:List Itm) (ext:Int):List Int :=
 sizesS ((List.range (min (manyW rows cols.length) 64).toNat).map (itemW rows cols)) ext 1
theorem widthsT_near (rows:List (List ByteArray)) (cols:List Itm) (ext:Int):(widthsT rows cols ext).length≤64∧∀ x ∈ widthsT rows cols ext,-34359738368≤x∧x≤34359738368:=by
 unfold widthsT
 have h:=sizesS_near (its:=(List.range (min (manyW rows cols.length) 64).toNat).map (itemW rows cols)) (by simp;omega) ext 1
 refine⟨?_,h.2⟩
 rw [h.1]
 simp
 omega
def NewZ (l:List Int) (w:World) (e:Ending) (w':World):Prop:=NewI l w e w'∨(l=[]∧e=.returned (.slice none 0 0)∧Below w.heap.size w w')
theorem NewZ.out {l:List Int} {w w':World} {e:Ending} (h:NewZ l w e w') (hl:l.length≤17592186044416):OutI l w e w':=by
 rcases h with h|⟨rfl,rfl,hb⟩
 ·exact h.out hl
 ·exact⟨_,rfl,hb,none,0,rfl,by simp,fun i x h=>by simp at h⟩
theorem NewZ.ret {l:List Int} {w w':World} {e:Ending} (h:NewZ l w e w'):∃ v,e=.returned v∧NewZ l w (.returned v) w':=by
 rcases h with ⟨b,rfl,h⟩|⟨rfl,rfl,hb⟩
 ·exact⟨_,rfl,.inl ⟨b,rfl,h⟩⟩
 ·exact⟨_,rfl,.inr ⟨rfl,rfl,hb⟩⟩
theorem NewZ.from {l:List Int} {W w:World} {e:Ending} {w':World} (h:NewZ l w e w') (hb:Below W.heap.size W w):NewZ l W e w':=by
 rcases h with h|⟨rfl,rfl,h⟩
 ·exact .inl (h.from hb)
 ·exact .inr ⟨rfl,rfl,hb.trans (h.mono hb.size)⟩
set_option maxRecDepth 100000 in
theorem sizes_nil (p:Option Addr) (c:Nat) (ext gap:Int) (W:World):Calls Tryz.prog 96 #[.slice p 0 c,.int .i64 ext,.int .i64 gap] W (NewZ [] W):=by
 go_enter Tryz.func96,Tryz.ntmps96
 go_wp2
 go_ret
 exact .inr ⟨rfl,rfl,Below.refl _ _⟩
theorem sizes_own {p:Option Addr} {n c:Nat} {its:List Itm} {W:World} (hv:n=0∨∃ b,p=some ⟨b,0,none⟩∧b<W.heap.size∧∀ (i:Nat) x,its[i]?=some x→ItmAt W b (i*5) x) (hn:its.length=n) (h4:n≤4096) (ext gap:Int) :
  Calls Tryz.prog 96 #[.slice p n c,.int .i64 ext,.int .i64 gap] W (NewZ (sizesS its ext gap) W):=by
 rcases Nat.eq_zero_or_pos n with rfl|hp
 ·have e:sizesS its ext gap=[]:=by unfold sizesS;rw [if_pos (.inl hn)]
  rw [e]
  exact sizes_nil p c ext gap W
 ·rcases hv with h|⟨b,rfl,hb,hi⟩
  ·omega
  ·exact(sizes_any hi hb hn hp h4 ext gap).mono fun e w h=>.inl h
def WidC:Prop:=∀ (rows:List (List ByteArray)) (cols:List Itm) (ext:Int) (W:World) (v u:Value),SlRS W v rows→SlT W u cols→(∀ r ∈ rows,∀ s ∈ r,s.size≤65536)→rows.length≤65537→cols.length≤64→0≤ext∧ext≤4096→
 Calls Tryz.prog 70 #[v,u,.int .i64 ext] W (NewZ (widthsT rows cols ext) W)
theorem rowsT_ok {t:ByteArray} (ht:t.size≤65536):(∀ r ∈ rowsT t,∀ s ∈ r,s.size≤65536)∧(rowsT t).length≤65537:=by
 unfold rowsT
 split
 ·simp
 ·constructor
  ·intro r hr s hs
   obtain⟨l,hl,rfl⟩:=List.mem_map.1 hr
   have h1:=partsF_size 10 _ t l hl
   have h2:=partsF_size 9 _ l s hs
   omega
  ·have h1:=partsF_len 10 (Lib.countByte t.data.toList 10) t
   have h2:Lib.countByte t.data.toList 10≤t.size:=by unfold Lib.countByte;exact Nat.le_trans (List.count_le_length) (by simp)
   rw [List.length_map]
   unfold partsS
   omega
abbrev TbS (w:World) (p:MP) (n:Nat) (t:ByteArray) (cv:Value) (W:World):Prop :=
 W.cell? ⟨p.g,n*34+22,none⟩=some (.string t)∧W.cell? ⟨p.g,n*34+28,none⟩=some cv∧MS p w W
theorem TbS.drew {w:World} {p:MP} {n:Nat} {t:ByteArray} {cv:Value} {W:World} (h:TbS w p n t cv W):TbS w p n t cv W.drew:=⟨h.1,h.2.1,h.2.2.drew⟩
set_option maxRecDepth 100000 in
set_option maxHeartbeats 4000000 in
theorem table_most (HW:WidC) (p:MP) (w:World) (M:MG p w) (n:Nat) (x:ND) (hn:p.ns[n]?=some x) (ht:x.tx.size≤65536) (hc:x.cols.length≤64) (nv:Int) :
  Calls Tryz.prog 69 #[.pointer (some ⟨p.pm,0,none⟩),.pointer (some ⟨p.g,n*34,none⟩),.int .i64 nv] w (GPost (sumS (widthsT (rowsT x.tx) (x.cols.map autoI) 4096) 1) p w):=by
 obtain⟨kv,cv,hnd,hkv,hcv⟩:=M.node hn
 have s1:=hnd.tx
 have s2:=hnd.cols
 have s3:MS p w w:=MS.start M
 have lg:=M.lg hn
 have HS0:Hid (TbS w p n x.tx cv w.drew):=zH (TbS.drew ⟨s1,s2,s3⟩)
 have HRW:=zH (tabRows_any x.tx ht w.drew)
 have HAU:=zH (fun W (hW:MS p w W)=>auto_any (w:=W) (hcv.keeps (hW.m0.keeps hW.gr) hW.size) (by omega))
 have hro:=rowsT_ok ht
 have hnr:=widthsT_near (rowsT x.tx) (x.cols.map autoI) 4096
 have hcl:(x.cols.map autoI).length≤64:=by rw [List.length_map];exact hc
 have HSG:=zH s1
 have HSC:=zH s2
 obtain⟨t,htx⟩:∃ t,x.tx=t:=⟨_,rfl⟩
 rw [htx] at s1 HS0 HRW hro hnr HSG ⊢
 generalize x.cols.map autoI=IL at HAU hnr hcl ⊢
 generalize rowsT t=RL at HRW hro hnr ⊢
 have HWC:=zH (fun W v u h1 h2=>(HW RL IL 4096 W v u h1 h2 hro.1 hro.2 hcl (by omega)).mono fun e w' h=>h.out (by have:=hnr.1;omega))
 generalize widthsT RL IL 4096=L at HWC hnr ⊢
 have HNR:=zH hnr
 clear hnd hkv M hn HW htx hcv ht hc hro hnr hcl
 go_enter Tryz.func69,Tryz.ntmps69
 go_upto_region 1 with (fail)
 go_region_held3 (fun W=>W.cell? ⟨p.g,n*34+22,none⟩=some (.string t)∧W.cell? ⟨p.g,n*34+28,none⟩=some cv∧MS p w W)
  ((first|(refine TbS.drew ?_;(refine⟨?_,?_,?_⟩<;>assumption))|(refine⟨?_,?_,?_⟩<;>assumption)))
  (first|(go_at_call 71;((with_reducible refine HRW.out.mono ?_);rintro e1' w4 ⟨v4,rfl,hb4,hs4⟩;have HM4:Hid (MS p w w4):=zH (HS0.out.2.2.below hb4);have r1:=HM4.out.cell HSG.out;have r2:=HM4.out.cell HSC.out;have r3:=HM4.out;have HS4:=zH hs4;clear hb4 hs4))|(go_at_call 57;((with_reducible refine(HAU.out _ HM4.out).mono ?_);rintro e1' w5 ⟨v5,rfl,hb5,hs5⟩;have HM5:Hid (MS p w w5):=zH (HM4.out.below hb5);have u1:=HM5.out.cell HSG.out;have u2:=HM5.out.cell HSC.out;have u3:=HM5.out;have HTC:=zH (HWC.out w5 v4 v5 (HS4.out.below hb5) hs5);clear hb5 hs5))|(go_at_call 70;((with_reducible refine HTC.out.mono ?_);rintro e1' w6 ⟨v6,rfl,hb6,hs6⟩;have HM6:Hid (MS p w w6):=zH (HM5.out.below hb6);have t1:=HM6.out.cell HSG.out;have t2:=HM6.out.cell HSC.out;have t3:=HM6.out;have HSM:=zH (sum_near _ L 1 w6 hs6 (by omega) (by have:=HNR.out.1;omega) HNR.out.2);clear hb6 hs6))|(go_at_call 44;((with_reducible refine HSM.out.mono ?_);rintro e1' w7 ⟨rfl,hw7⟩;obtain rfl:=hw7.symm)))
 all_goals
  go_wp2
  go_ret
  exact⟨rfl,HM6.out.gr,HM6.out.mg⟩
end Go.Proofs.YtlenbcmgjancmaaGreatDoor
namespace Go.Proofs.YtlenbcmgjancmaaGreatDoor
open Go.RowKit Go.Maps
theorem manyW_drop {rows:List (List ByteArray)} {a:Nat} {r:List ByteArray} {m:Int} (h:rows[a]?=some r):manyW (rows.drop a) m=manyW (rows.drop (a+1)) (max m r.length):=by
 obtain⟨h1,rfl⟩:=List.getElem?_eq_some_iff.1 h
 rw [List.drop_eq_getElem_cons h1]
 rfl
theorem manyW_ge:∀ (rows:List (List ByteArray)) (m:Int),m≤manyW rows m
 | [],m=>Int.le_refl _
 |r :: l,m=>by
  simp only [manyW]
  have:=manyW_ge l (max m r.length)
  omega
theorem needW_drop {rows:List (List ByteArray)} {a:Nat} {r:List ByteArray} {m:Int} {k:Nat} (h:rows[a]?=some r):needW k (rows.drop a) m=needW k (rows.drop (a+1)) (max m (wideT (fieldS r k))):=by
 obtain⟨h1,rfl⟩:=List.getElem?_eq_some_iff.1 h
 rw [List.drop_eq_getElem_cons h1]
 rfl
theorem set_was {α:Type} {l:List α} {i:Nat} {v:α} (h:l[i]?=some v):l.set i v=l:=by
 obtain⟨h1,rfl⟩:=List.getElem?_eq_some_iff.1 h
 exact List.set_getElem_self h1
section
variable {W:World} {b:Nat} {l:List Itm} {k:Nat} {K N D MN MX:Int}
theorem flat5 (hi:l[k]?=some ⟨K,N,D,MN,MX⟩) (y:Itm):flatC Itm.cells (l.set k y)=(((((flatC Itm.cells l).set (k*5) (.int .i8 y.k)).set (k*5+1) (.int .i64 y.n)).set (k*5+2) (.int .i64 y.d)).set (k*5+3) (.int .i64 y.mn)).set (k*5+4) (.int .i64 y.mx) :=
 flatC_set Itm.cells_len y l k (List.getElem?_eq_some_iff.1 hi).1
theorem flat5g (hi:l[k]?=some ⟨K,N,D,MN,MX⟩):(flatC Itm.cells l)[k*5]?=some (.int .i8 K)∧(flatC Itm.cells l)[k*5+1]?=some (.int .i64 N)∧(flatC Itm.cells l)[k*5+2]?=some (.int .i64 D)∧(flatC Itm.cells l)[k*5+3]?=some (.int .i64 MN)∧(flatC Itm.cells l)[k*5+4]?=some (.int .i64 MX):=by
 have g:=fun j hj=>flatC_get Itm.cells_len l k j _ hi hj
 exact⟨g 0 (by omega),g 1 (by omega),g 2 (by omega),g 3 (by omega),g 4 (by omega)⟩
theorem five0 {X:List Value} {i:Nat} {u v1 v2 v3 v4:Value} (h1:X[i+1]?=some v1) (h2:X[i+2]?=some v2) (h3:X[i+3]?=some v3) (h4:X[i+4]?=some v4):((((X.set i u).set (i+1) v1).set (i+2) v2).set (i+3) v3).set (i+4) v4=X.set i u:=by
 rw [set_was (l:=X.set i u) (i:=i+1) (v:=v1) (by rw [List.getElem?_set_ne (by omega)];exact h1),set_was (l:=X.set i u) (i:=i+2) (v:=v2) (by rw [List.getElem?_set_ne (by omega)];exact h2),set_was (l:=X.set i u) (i:=i+3) (v:=v3) (by rw [List.getElem?_set_ne (by omega)];exact h3),set_was (l:=X.set i u) (i:=i+4) (v:=v4) (by rw [List.getElem?_set_ne (by omega)];exact h4)]
theorem five1 {X:List Value} {i:Nat} {u v0 v2 v3 v4:Value} (h0:X[i]?=some v0) (h2:X[i+2]?=some v2) (h3:X[i+3]?=some v3) (h4:X[i+4]?=some v4):((((X.set i v0).set (i+1) u).set (i+2) v2).set (i+3) v3).set (i+4) v4=X.set (i+1) u:=by
 rw [set_was (l:=X) (i:=i) (v:=v0) h0,set_was (l:=X.set (i+1) u) (i:=i+2) (v:=v2) (by rw [List.getElem?_set_ne (by omega)];exact h2),set_was (l:=X.set (i+1) u) (i:=i+3) (v:=v3) (by rw [List.getElem?_set_ne (by omega)];exact h3),set_was (l:=X.set (i+1) u) (i:=i+4) (v:=v4) (by rw [List.getElem?_set_ne (by omega)];exact h4)]
theorem five3 {X:List Value} {i:Nat} {u v0 v1 v2 v4:Value} (h0:X[i]?=some v0) (h1:X[i+1]?=some v1) (h2:X[i+2]?=some v2) (h4:X[i+4]?=some v4):((((X.set i v0).set (i+1) v1).set (i+2) v2).set (i+3) u).set (i+4) v4=X.set (i+3) u:=by
 rw [set_was (l:=X) (i:=i) (v:=v0) h0,set_was (l:=X) (i:=i+1) (v:=v1) h1,set_was (l:=X) (i:=i+2) (v:=v2) h2,set_was (l:=X.set (i+3) u) (i:=i+4) (v:=v4) (by rw [List.getElem?_set_ne (by omega)];exact h4)]
theorem ArrT.setK (h:ArrT W b l) (hi:l[k]?=some ⟨K,N,D,MN,MX⟩) (v:Int):ArrT (W.setCell ⟨b,k*5,none⟩ (.int .i8 v)) b (l.set k ⟨v,N,D,MN,MX⟩):=by
 obtain⟨g0,g1,g2,g3,g4⟩:=flat5g hi
 unfold ArrT
 rw [flat5 hi,five0 g1 g2 g3 g4]
 exact h.set _ _
theorem ArrT.setN (h:ArrT W b l) (hi:l[k]?=some ⟨K,N,D,MN,MX⟩) (v:Int):ArrT (W.setCell ⟨b,k*5+1,none⟩ (.int .i64 v)) b (l.set k ⟨K,v,D,MN,MX⟩):=by
 obtain⟨g0,g1,g2,g3,g4⟩:=flat5g hi
 unfold ArrT
 rw [flat5 hi,five1 g0 g2 g3 g4]
 exact h.set _ _
theorem ArrT.setMn (h:ArrT W b l) (hi:l[k]?=some ⟨K,N,D,MN,MX⟩) (v:Int):ArrT (W.setCell ⟨b,k*5+3,none⟩ (.int .i64 v)) b (l.set k ⟨K,N,D,v,MX⟩):=by
 obtain⟨g0,g1,g2,g3,g4⟩:=flat5g hi
 unfold ArrT
 rw [flat5 hi,five3 g0 g1 g2 g4]
 exact h.set _ _
end
set_option maxRecDepth 100000 in
set_option maxHeartbeats 4000000 in
theorem widths_any:WidC:=by
 intro rows cols ext w v u hv hu hrs hrl hcl hext
 obtain⟨N,hN⟩:∃ N:Nat,min (manyW rows cols.length) 64=(N:Int):=⟨(min (manyW rows cols.length) 64).toNat,by have:=manyW_ge rows cols.length;omega⟩
 have hN4:N≤64:=by omega
 obtain⟨L,hL⟩:∃ L,(List.range N).map (itemW rows cols)=L:=⟨_,rfl⟩
 have HR:Hid (widthsT rows cols ext=sizesS L ext 1):=zH (by unfold widthsT;rw [hN,Int.toNat_natCast,hL])
 have hLl:L.length=N:=by rw [← hL];simp
 have HLX:Hid (∀ i,i<N→L[i]?=some (itemW rows cols i)):=zH fun i hi=>by rw [← hL,List.getElem?_map,List.getElem?_range hi];rfl
 obtain⟨M,hM⟩:∃ M,manyW rows cols.length=M:=⟨_,rfl⟩
 have HMM:=zH hM
 rw [hM] at hN
 have hM0:0≤M:=by rw [← hM];have:=manyW_ge rows cols.length;omega
 obtain⟨pv,cv,rfl,_,hxv⟩:=hv
 obtain⟨pu,cu,rfl,_,hxu⟩:=hu
 have HXV:=zH hxv
 have HXU:=zH hxu
 have HRS:=zH hrs
 obtain⟨rn,hrn⟩:∃ rn,rows.length=rn:=⟨_,rfl⟩
 obtain⟨cn,hcn⟩:∃ cn,cols.length=cn:=⟨_,rfl⟩
 have HRN:=zH hrn
 have HCN:=zH hcn
 rw [hrn,hcn]
 rw [hrn] at hrl
 rw [hcn] at hcl HMM
 have HLN:=zH hLl
 have hmk:=mk_items N (by omega)
 clear hxv hxu hrs hrn hcn hL hLl hM
 go_enter Tryz.func70,Tryz.ntmps70
 go_wp2
 go_loopw [19,7] (fun i m wr=>∃ (a:Nat) (z:Int),i=.int .i64 a∧a≤rn∧m=.int .i64 z∧manyW (rows.drop a) z=M∧wr=w) (fun i _ _=>rn - (intOf i).toNat)
 case atStart=>exact⟨0,cn,rfl,by omega,rfl,by simpa using HMM.out,by first|rfl|trivial⟩
 case round=>
  obtain⟨a,z,rfl,ha,rfl,hz,rfl⟩:=hrel
  by_cases hlt:a<rn
  ·have hltI:(a:Int)<(rn:Int):=by omega
   obtain⟨r,hr⟩:∃ r,rows[a]?=some r:=⟨_,List.getElem?_eq_getElem (by rw [HRN.out];exact hlt)⟩
   obtain⟨g,o,u,rfl,hg,hc,⟨pr,cr,rfl,_,_⟩⟩:=HXV.out a r hr
   rw [manyW_drop hr] at hz
   have HZ:=zH hz
   clear hz hr
   go_wp2
   go_roundw
   case rel=>exact⟨a+1,max z r.length,by first|rfl|go_num,by omega,by first|rfl|simp,HZ.out,by first|rfl|trivial⟩
   case measure=>simp [intOf]<;>omega
  ·have hltI:decide ((a:Int)<(rn:Int))=false:=decide_eq_false (by omega)
   obtain rfl:a=rn:=by omega
   have hzM:z=M:=by rw [← hz,List.drop_of_length_le (by rw [HRN.out];exact Nat.le_refl _)];rfl
   subst hzM
   clear hz
   obtain⟨w1,rfl⟩:∃ w1,w1=wr:=⟨_,rfl⟩
   have HA0:=zH (ArrT.made w1 N)
   go_wp2
   go_loopw [33] (fun i wr=>∃ k:Nat,i=.int .i64 k∧k≤N∧ArrT wr w1.heap.size (partZ itm0 L k)∧Below w1.heap.size w1 wr) (fun i _=>N - (intOf i).toNat)
   case atStart=>exact⟨0,rfl,by omega,by rw [partZ_zero,HLN.out];exact HA0.out,by(repeat (first|exact Below.refl _ _|assumption|refine below_drewN ?_ _|refine Below.drew ?_|(refine Below.alloc ?_ ?bs _;(case bs=>first|omega|(simp;done)|(simp;omega)))|(refine Below.setCell ?_ ?bs _;(case bs=>first|omega|(simp;done)|(simp;omega)))))⟩
   case round=>
    obtain⟨k,rfl,hk,hA,hB⟩:=hrel
    have HA:=zH hA
    have HB:=zH hB
    have lA:=hA.lt
    clear hA hB HA0 hmk
    by_cases hlt2:k<N
    ·have hlt2I:(k:Int)<(N:Int):=by omega
     have hpl:k<(partZ itm0 L k).length:=by rw [partZ_len (by rw [HLN.out];omega),HLN.out];exact hlt2
     have HPL:=zH hpl
     have HPG:Hid ((partZ itm0 L k)[k]?=some itm0):=zH (partZ_get (z:=itm0) (l:=L) (by rw [HLN.out];exact hlt2))
     have HLK:=zH (HLX.out k hlt2)
     have HPS:=zH (fun x (h:L[k]?=some x)=>partZ_set (z:=itm0) h)
     generalize partZ itm0 L k=M at *
     clear hpl
     go_upto_region 11 with (fail)
     go_cut [46] (fun v W=>∃ t:Bool,v=.bool t∧(t=true↔∃ c:Itm,cols[k]?=some c∧c.ok)∧ArrT W w1.heap.size M∧Below w1.heap.size w1 W)
     case first=>
      by_cases hkc:k<cn
      ·have hkcI:(k:Int)<(cn:Int):=by omega
       obtain⟨c,hck⟩:∃ c,cols[k]?=some c:=⟨_,List.getElem?_eq_getElem (by rw [HCN.out];exact hkc)⟩
       obtain⟨g,o,rfl,hg,hci⟩:=HXU.out k c hck
       have HCI:=zH (hci.below HB.out hg)
       obtain⟨y0,y1,y2,y3,y4⟩:=HCI.out
       have lg:g<wr.heap.size:=Nat.lt_of_lt_of_le hg HB.out.size
       have HRI:=zH (fun W=>right_any c.k c.n c.d c.mn c.mx W)
       have HCK:=zH hck
       obtain⟨t,ht⟩:∃ t:Bool,decide (RightP c.k c.n c.d c.mn c.mx)=t:=⟨_,rfl⟩
       have HT:=zH ht
       rw [ht] at HRI
       clear hck hci ht
       go_wp2_with (go_at_call 91;((with_reducible refine(HRI.out _).mono ?_);rintro e1' w4 ⟨rfl,hb4⟩))
       go_meet
       refine⟨t,rfl,⟨fun e=>⟨c,HCK.out,of_decide_eq_true (HT.out.trans e)⟩,fun ⟨c2,e,h⟩=>?_⟩,Arr.below HA.out hb4,HB.out.trans (hb4.mono HB.out.size)⟩
       obtain rfl:=Option.some.inj (HCK.out.symm.trans e)
       rw [← HT.out];exact decide_eq_true h
      ·have hkcI:decide ((k:Int)<(cn:Int))=false:=decide_eq_false (by omega)
       go_wp2
       go_meet
       exact⟨false,rfl,⟨fun e=>(by cases e),fun ⟨c2,e,h⟩=>absurd (List.getElem?_eq_some_iff.1 e).1 (by rw [HCN.out];exact hkc)⟩,HA.out,HB.out⟩
     case rest=>
     obtain⟨t,rfl,ht,hA2,hB2⟩:=hcut
     have HTT:=zH ht
     have HA2:=zH hA2
     have HB2:=zH hB2
     clear ht hA2 hB2
     have HIS:Hid (∀ c,cols[k]?=some c→c.ok→itemC cols k=c):=zH fun c h1 h2=>by unfold itemC;rw [h1];simp [h2]
     have HIN:Hid ((¬ ∃ c:Itm,cols[k]?=some c∧c.ok)→itemC cols k=itm0):=zH fun h=>by
      unfold itemC
      cases e:cols[k]? with
      |none=>rfl
      |some c=>exact if_neg fun h2=>h ⟨c,e,h2⟩
     go_upto_if 46 with (fail)
     go_cut [] (fun W=>ArrT W w1.heap.size (M.set k (itemC cols k))∧Below w1.heap.size w1 W)
     case first=>
      cases t
      ·have HI0:=zH (HIN.out (by rw [← HTT.out];simp))
       go_wp2
       go_meet
       exact⟨by rw [HI0.out,set_was HPG.out];exact HA2.out,HB2.out⟩
      ·obtain⟨c,hck,hok⟩:=HTT.out.1 rfl
       have HI1:=zH (HIS.out c hck hok)
       have hkc:k<cn:=by rw [← HCN.out];exact(List.getElem?_eq_some_iff.1 hck).1
       have hkcI:(k:Int)<(cn:Int):=by omega
       obtain⟨g,o,rfl,hg,hci⟩:=HXU.out k c hck
       obtain⟨y0,y1,y2,y3,y4⟩:=hci.below HB2.out hg
       have lg:g<wc.heap.size:=Nat.lt_of_lt_of_le hg HB2.out.size
       obtain⟨z0,z1,z2,z3,z4⟩:=HA2.out.at HPG.out
       have f0:=HA2.out.froz (k*5)
       have f1:=HA2.out.froz (k*5+1)
       have f2:=HA2.out.froz (k*5+2)
       have f3:=HA2.out.froz (k*5+3)
       have f4:=HA2.out.froz (k*5+4)
       have l2:=HA2.out.lt
       clear hck hok hci
       go_wp2
       go_meet
       refine⟨by rw [HI1.out];exact HA2.out.put HPL.out c,?_⟩
       exact((((HB2.out.setCell (p:=⟨w1.heap.size,k*5,none⟩) (Nat.le_refl _) _).setCell (p:=⟨w1.heap.size,k*5+1,none⟩) (Nat.le_refl _) _).setCell (p:=⟨w1.heap.size,k*5+2,none⟩) (Nat.le_refl _) _).setCell (p:=⟨w1.heap.size,k*5+3,none⟩) (Nat.le_refl _) _).setCell (p:=⟨w1.heap.size,k*5+4,none⟩) (Nat.le_refl _) _
     case rest=>
     obtain⟨hA3,hB3⟩:=hcut
     clear HIS HIN HTT HA2 HB2 HA HB
     have HLW:Hid (∀ c,itemC cols k=c→itemW rows cols k=if c.k=0 then itemF c (needW k rows c.n) else c):=zH fun c h=>by unfold itemW;rw [h]
     obtain⟨c,hc⟩:∃ c,itemC cols k=c:=⟨_,rfl⟩
     have HLC:=zH (HLW.out c hc)
     rw [hc] at hA3
     have hMk:(M.set k c)[k]?=some c:=List.getElem?_set_self HPL.out
     have HA3:=zH hA3
     have HB3:=zH hB3
     have HMK:=zH hMk
     obtain⟨z0,z1,z2,z3,z4⟩:=hA3.at hMk
     have f0:=hA3.froz (k*5)
     have l3:=hA3.lt
     clear hA3 hB3 hMk HLW hc
     obtain⟨K,N0,D,MN,MX⟩:=c
     simp only at z0 z1 z2 z3 z4
     by_cases hK:K=0
     ·subst hK
      have HLD:Hid (itemW rows cols k=itemF ⟨0,N0,D,MN,MX⟩ (needW k rows N0)):=zH (by rw [HLC.out];rfl)
      clear HLC
      go_upto_region 16 with (fail)
      have hA4:=HA3.out.setK HMK.out 1
      rw [List.set_set] at hA4
      have hB4:=HB3.out.setCell (p:=⟨w1.heap.size,k*5,none⟩) (Nat.le_refl _) (.int .i8 1)
      clear z0 z1 z2 z3 z4 f0 l3 HA3 HB3 HMK
      generalize wc.setCell ⟨w1.heap.size,k*5,none⟩ (.int .i8 1)=w4 at hA4 hB4 ⊢
      have HA4:=zH hA4
      have HB4:=zH hB4
      have HGM:Hid (∀ x:Itm,(M.set k x)[k]?=some x):=zH fun x=>List.getElem?_set_self HPL.out
      obtain⟨NW,hNW⟩:∃ NW,needW k rows N0=NW:=⟨_,rfl⟩
      rw [hNW] at HLD
      have HNW:=zH hNW
      clear hA4 hB4 hNW
      go_wp2
      go_loopw [68] (fun i ws=>∃ (q:Nat) (z:Int),i=.int .i64 q∧q≤a∧needW k (rows.drop q) z=NW∧ArrT ws w1.heap.size (M.set k ⟨1,z,D,MN,MX⟩)∧Below w1.heap.size w1 ws) (fun i _=>a - (intOf i).toNat)
      case atStart=>exact⟨0,N0,rfl,by omega,by simpa using HNW.out,HA4.out,HB4.out⟩
      case round=>
       obtain⟨q,z,rfl,hq,hz,hA5,hB5⟩:=hrel
       have HA5:=zH hA5
       have HB5:=zH hB5
       have HZ:=zH hz
       obtain⟨z0,z1,z2,z3,z4⟩:=hA5.at (HGM.out _)
       simp only at z0 z1 z2 z3 z4
       have f1:=hA5.froz (k*5+1)
       have f3:=hA5.froz (k*5+3)
       have l5:=hA5.lt
       clear hA5 hB5 HA4 HB4 HNW hz
       by_cases hlt3:q<a
       ·have hlt3I:(q:Int)<(a:Int):=by omega
        obtain⟨r,hr⟩:∃ r,rows[q]?=some r:=⟨_,List.getElem?_eq_getElem (by rw [HRN.out];exact hlt3)⟩
        obtain⟨g,o,u,rfl,hg,hcu,hu⟩:=HXV.out q r hr
        have hcu5:=(HB5.out.cell (p:=⟨g,o+q,none⟩) hg).trans hcu
        have lg5:g<wr.heap.size:=Nat.lt_of_lt_of_le hg HB5.out.size
        have hgb:g ≠ w1.heap.size:=by omega
        have HU5:=zH (hu.below HB5.out)
        have HFI:=zH (fun W h=>field_any u r k W h)
        have hfs:=fieldS_size (HRS.out r (List.mem_of_getElem? hr)) k
        have HND:=zH ((needW_drop hr).symm.trans HZ.out)
        obtain⟨fs,hf⟩:∃ fs,fieldS r k=fs:=⟨_,rfl⟩
        rw [hf] at HFI HND hfs
        have HWI:=zH (fun W=>tabWide_any fs hfs W)
        obtain⟨wv,hwv⟩:∃ wv,wideT fs=wv:=⟨_,rfl⟩
        rw [hwv] at HWI HND
        clear hr hcu hu hf hwv hfs
        go_upto_region 19 with (fail)
        go_region_with (first|(go_at_call 103;((with_reducible refine(HFI.out _ (by first|exact HU5.out|exact HU5.out.below (Below.drew (Below.refl _ _)))).mono ?_);rintro e1' w6 ⟨rfl,hw6⟩;obtain rfl:=hw6.symm))|(go_at_call 102;((with_reducible refine(HWI.out _).mono ?_);rintro e1' w7 ⟨rfl,hb7⟩;have HA7:=zH (Arr.below (Arr.drew HA5.out 1) hb7);have HB7:=zH ((HB5.out.drew).trans (hb7.mono (HB5.out.drew).size));have l7:=HA7.out.lt;have c7:=(ArrT.at HA7.out (HGM.out _)).n;have f7:=HA7.out.froz (k*5+1))))
        all_goals
         have hA8:=ArrT.setN HA7.out (HGM.out _) (max z wv)
         rw [List.set_set] at hA8
         have HA8:=zH hA8
         have HB8:=zH (HB7.out.setCell (p:=⟨w1.heap.size,k*5+1,none⟩) (Nat.le_refl _) (.int .i64 (max z wv)))
         clear hA8 z0 z1 z2 z3 z4 f1 f3 c7 f7
         go_wp2
         go_roundw
         case rel=>exact⟨q+1,max z wv,by first|rfl|go_num,by omega,HND.out,HA8.out,HB8.out⟩
         case measure=>simp [intOf]<;>omega
       ·have hlt3I:decide ((q:Int)<(a:Int))=false:=decide_eq_false (by omega)
        obtain rfl:q=a:=by omega
        obtain rfl:z=NW:=by rw [← HZ.out,List.drop_of_length_le (by rw [HRN.out];exact Nat.le_refl _)];rfl
        clear HZ
        obtain⟨n1,hn1⟩:∃ n1,max z MN=n1:=⟨_,rfl⟩
        have HN1:=zH hn1
        obtain⟨n2,hn2⟩:∃ n2,(if 0<MX then min n1 MX else n1)=n2:=⟨_,rfl⟩
        have HN2:=zH hn2
        have HIF:Hid (itemF ⟨0,N0,D,MN,MX⟩ z=⟨1,n2,D,max MN (min 1 n2),MX⟩):=zH (by unfold itemF;simp only [hn1,hn2])
        clear hn1 hn2
        go_upto_region 21 with (fail)
        go_cut [] (fun W=>ArrT W w1.heap.size (M.set k ⟨1,n1,D,MN,MX⟩)∧Below w1.heap.size w1 W)
        case first=>
         have hA8:=ArrT.setN HA5.out (HGM.out _) (max z MN)
         rw [List.set_set] at hA8
         have HA8:=zH hA8
         have HB8:=zH (HB5.out.setCell (p:=⟨w1.heap.size,k*5+1,none⟩) (Nat.le_refl _) (.int .i64 (max z MN)))
         clear hA8
         go_region
         all_goals
          go_wp2
          go_meet
          exact⟨by rw [← HN1.out];exact HA8.out,HB8.out.drew⟩
        case rest=>
        obtain⟨hA6,hB6⟩:=hcut
        have HA6:=zH hA6
        have HB6:=zH hB6
        obtain⟨z0,z1,z2,z3,z4⟩:=hA6.at (HGM.out _)
        simp only at z0 z1 z2 z3 z4
        have f1:=hA6.froz (k*5+1)
        have l6:=hA6.lt
        clear hA6 hB6 HA5 HB5
        go_upto_if 101 with (fail)
        obtain⟨w6,rfl⟩:∃ w6,w6=wc:=⟨_,rfl⟩
        go_cut [] (fun W=>ArrT W w1.heap.size (M.set k ⟨1,n2,D,MN,MX⟩)∧Below w1.heap.size w1 W)
        case first=>
         by_cases hmx:0<MX
         ·have hA8:=ArrT.setN HA6.out (HGM.out _) (min n1 MX)
          rw [List.set_set] at hA8
          have HA8:=zH hA8
          have HB8:=zH (HB6.out.setCell (p:=⟨w1.heap.size,k*5+1,none⟩) (Nat.le_refl _) (.int .i64 (min n1 MX)))
          have HN3:Hid (n2=min n1 MX):=zH (by rw [← HN2.out,if_pos hmx])
          clear hA8
          go_upto_region 23 with (fail)
          go_region
          all_goals
           go_wp2
           go_meet
           exact⟨by rw [HN3.out];exact HA8.out,HB8.out.drew⟩
         ·have HN3:Hid (n2=n1):=zH (by rw [← HN2.out,if_neg hmx])
          have hmxb:decide (0<MX)=false:=decide_eq_false hmx
          go_wp2
          go_meet
          exact⟨by rw [HN3.out];exact HA6.out,HB6.out⟩
        case rest=>
        obtain⟨hA7,hB7⟩:=hcut
        obtain⟨z0,z1,z2,z3,z4⟩:=hA7.at (HGM.out _)
        simp only at z0 z1 z2 z3 z4
        have f3:=hA7.froz (k*5+3)
        have l7:=hA7.lt
        have hA8:=ArrT.setMn hA7 (HGM.out _) (max MN (min 1 n2))
        rw [List.set_set] at hA8
        have HA8:=zH hA8
        have HB8:=zH (hB7.setCell (p:=⟨w1.heap.size,k*5+3,none⟩) (Nat.le_refl _) (.int .i64 (max MN (min 1 n2))))
        clear hA8 hA7 hB7 HA6 HB6 f1 l6
        go_upto_region 24 with (fail)
        go_region
        all_goals
         go_wp2
         go_roundw
         case rel=>exact⟨k+1,by first|rfl|go_num,by omega,by have q:=HA8.out;rw [← HIF.out,← HLD.out,HPS.out _ HLK.out] at q;exact q,HB8.out.drew⟩
         case measure=>simp [intOf]<;>omega
     ·have hKd:(K == 0)=false:=by simpa using hK
      have HLD:Hid (itemW rows cols k=⟨K,N0,D,MN,MX⟩):=zH (by rw [HLC.out];simp [hK])
      clear HLC
      go_wp2
      go_roundw
      case rel=>exact⟨k+1,by first|rfl|go_num,by omega,by have q:=HA3.out;rw [← HLD.out,HPS.out _ HLK.out] at q;exact q,HB3.out⟩
      case measure=>simp [intOf]<;>omega
    ·have hlt2I:decide ((k:Int)<(N:Int))=false:=decide_eq_false (by omega)
     obtain rfl:k=N:=by omega
     have hfull:partZ itm0 L k=L:=partZ_full HLN.out.symm
     have hAA:=HA.out
     rw [hfull] at hAA
     have HAA:=zH hAA
     have HSZ:=zH (fun c=>sizes_own (p:=some ⟨w1.heap.size,0,none⟩) (n:=k) (c:=c) (its:=L) (W:=wr) (.inr ⟨_,rfl,hAA.lt,fun i x hx=>hAA.at hx⟩) HLN.out (by omega) ext 1)
     clear hfull hAA
     go_wp2_with (go_at_call 96;((with_reducible refine(HSZ.out _).mono ?_);rintro e1' w2 h2;obtain⟨v,rfl,h2⟩:=h2.ret))
     go_ret
     rw [HR.out]
     exact h2.from HB.out
end Go.Proofs.YtlenbcmgjancmaaGreatDoor
namespace Go.Proofs.YtlenbcmgjancmaaGreatDoor
open Go.RowKit Go.Maps
def colI (cols:List Itm) (i:Nat):Itm:=(cols[i]?).getD itm0
def colW (cols:List Itm) (i:Nat):Int:=intoS (if (colI cols i).k=1 then (colI cols i).n else 1) (colI cols i)
noncomputable def colsT (rows:List (List ByteArray)) (cols:List Itm):List Int:=(List.range (widthsT rows cols 4096).length).map (colW cols)
abbrev TcS (w:World) (g o:Nat) (t:ByteArray) (cv:Value) (W:World):Prop :=
 W.cell? ⟨g,o+22,none⟩=some (.string t)∧W.cell? ⟨g,o+28,none⟩=some cv∧Below w.heap.size w W
theorem TcS.drew {w:World} {g o:Nat} {t:ByteArray} {cv:Value} {W:World} (h:TcS w g o t cv W):TcS w g o t cv W.drew:=⟨h.1,h.2.1,h.2.2.drew⟩
theorem TcS.go {w:World} {g o:Nat} {t:ByteArray} {cv:Value} {W V:World} (h:TcS w g o t cv W) (lg:g<w.heap.size) (hb:Below W.heap.size W V):TcS w g o t cv V :=
 have hs:=Nat.lt_of_lt_of_le lg h.2.2.size
 ⟨(hb.cell (p:=⟨g,o+22,none⟩) hs).trans h.1,(hb.cell (p:=⟨g,o+28,none⟩) hs).trans h.2.1,h.2.2.trans (hb.mono h.2.2.size)⟩
theorem ArrT.one {W:World} {q:Nat} {c:Itm} (h:ArrT W q [c]):ItmAt W q 0 c:=by
 have:=ArrT.at h (i:=0) (x:=c) rfl
 simpa using this
theorem NewZ.form {l:List Int} {w w':World} {v:Value} (h:NewZ l w (.returned v) w'):Below w.heap.size w w'∧∃ p b,v=.slice p l.length l.length∧(l.length=0∧p=none∨p=some ⟨b,0,none⟩∧w.heap.size≤b∧ArrI w' b l):=by
 rcases h with ⟨b,e,hb,ha,hB⟩|⟨rfl,e,hB⟩
 ·cases e
  exact⟨hB,_,b,rfl,.inr ⟨rfl,hb,ha⟩⟩
 ·cases e
  exact⟨hB,_,0,rfl,.inl ⟨rfl,rfl⟩⟩
set_option maxRecDepth 100000 in
set_option maxHeartbeats 4000000 in
theorem columns_any (w:World) (g o:Nat) (x:ND) (kv cv:Value) (hnd:NodeV w g o x kv cv) (hcv:SlT w cv x.cols) (lg:g<w.heap.size) (ht:x.tx.size≤65536) (hc:x.cols.length≤64) :
  Calls Tryz.prog 68 #[.pointer (some ⟨g,o,none⟩)] w (OutI (colsT (rowsT x.tx) x.cols) w):=by
 have s1:=hnd.tx
 have s2:=hnd.cols
 obtain⟨pu,cu,rfl,hcl0,hxu⟩:=hcv
 have hcv:SlT w (.slice pu x.cols.length cu) x.cols:=⟨pu,cu,rfl,hcl0,hxu⟩
 have HRW:=zH (tabRows_any x.tx ht w.drew)
 have hro:=rowsT_ok ht
 have hnr:=widthsT_near (rowsT x.tx) x.cols 4096
 have hcT:Hid (colsT (rowsT x.tx) x.cols=(List.range (widthsT (rowsT x.tx) x.cols 4096).length).map (colW x.cols)):=zH rfl
 obtain⟨t,htx⟩:∃ t,x.tx=t:=⟨_,rfl⟩
 obtain⟨IL,hil⟩:∃ IL,x.cols=IL:=⟨_,rfl⟩
 rw [htx] at s1 HRW hro hnr hcT ⊢
 rw [hil] at s2 hnr hcT hcv hc hxu ⊢
 generalize rowsT t=RL at HRW hro hnr hcT ⊢
 have HWC:=zH (fun W v u h1 h2=>widths_any RL IL 4096 W v u h1 h2 hro.1 hro.2 hc (by omega))
 generalize widthsT RL IL 4096=L at HWC hnr hcT ⊢
 obtain⟨n,hn⟩:∃ n,L.length=n:=⟨_,rfl⟩
 obtain⟨cn,hcn⟩:∃ cn,IL.length=cn:=⟨_,rfl⟩
 have HN:=zH hn
 have HCN:=zH hcn
 rw [hn] at hcT hnr
 have hn4:=hnr.1
 rw [hcn] at s2 hcv hc
 have HXU:=zH hxu
 have HCV:=zH hcv
 have HS0:Hid (TcS w g o t (.slice pu cn cu) w.drew):=zH (TcS.drew ⟨s1,s2,Below.refl _ _⟩)
 have s3:Below w.heap.size w w:=Below.refl _ _
 have HC2:=zH s2
 clear hnd htx hil ht hro hnr hn hcn hxu hcv hcl0
 go_enter Tryz.func68,Tryz.ntmps68
 go_upto_region 1 with (fail)
 go_region_held3 (fun W=>W.cell? ⟨g,o+22,none⟩=some (.string t)∧W.cell? ⟨g,o+28,none⟩=some (.slice pu cn cu)∧Below w.heap.size w W)
  ((first|(refine TcS.drew ?_;(refine⟨?_,?_,?_⟩<;>assumption))|(refine⟨?_,?_,?_⟩<;>assumption)))
  (first|(go_at_call 71;((with_reducible refine HRW.out.mono ?_);rintro e1' w4 ⟨v4,rfl,hb4,hs4⟩;have HT4:=zH (HS0.out.go lg hb4);obtain⟨r1,r2,r3⟩:=HT4.out;have HTC:=zH (HWC.out w4 v4 (.slice pu cn cu) hs4 (SlT.below HCV.out r3));clear hb4 hs4))|(go_at_call 70;((with_reducible refine HTC.out.mono ?_);rintro e1' w6 h6;obtain⟨v6,rfl,h6⟩:=h6.ret;obtain⟨hb6,pv,b,rfl,hp6⟩:=h6.form;have HT6:=zH (HT4.out.go lg hb6);obtain⟨t1,t2,t3⟩:=HT6.out;have HP6:=zH hp6;have HW4:=zH HT4.out.2.2.size;clear h6 hb6 hp6)))
 all_goals
  rw [HN.out]
  have HP:Hid (n=0∨pv=some ⟨b,0,none⟩∧w.heap.size≤b∧ArrI w6 b L):=zH (by have h1:=HP6.out;have h2:=HW4.out;rw [HN.out] at h1;rcases h1 with h|⟨h,h3,h4⟩;exact .inl h.1;exact .inr ⟨h,by omega,h4⟩)
  clear HP6
  go_wp2
  go_loopw [18] (fun i wr=>∃ (k:Nat) (M:List Int),i=.int .i64 k∧k≤n∧Hid (M.length=n)∧Hid (∀ j,j<k→M[j]?=some (colW IL j))∧Hid (n=0∨ArrI wr b M)∧Hid (Below w.heap.size w wr)) (fun i _=>n - (intOf i).toNat)
  case atStart=>exact⟨0,L,rfl,by omega,HN,zH fun j h=>absurd h (Nat.not_lt_zero _),zH (HP.out.elim .inl fun h=>.inr h.2.2),zH t3⟩
  case round=>
   obtain⟨k,M,rfl,hk,HML,HMJ,HA0,HB⟩:=hrel
   have c2:=(HB.out.cell (p:=⟨g,o+28,none⟩) lg).trans HC2.out
   have lgr:g<wr.heap.size:=Nat.lt_of_lt_of_le lg HB.out.size
   have hzr:=HB.out.size
   clear t1 t2 t3
   by_cases hlt:k<n
   ·have hltI:(k:Int)<(n:Int):=by omega
    obtain⟨rfl,hwb,_⟩:=HP.out.resolve_left (by omega)
    have HA:=zH (HA0.out.resolve_left (by omega))
    have lA:=Arr.lt HA.out
    have HCI:Hid (∀ c,IL[k]?=some c→colI IL k=c):=zH fun c h=>by unfold colI;rw [h];rfl
    have HCN0:Hid (cn≤k→colI IL k=itm0):=zH fun h=>by unfold colI;rw [List.getElem?_eq_none (by rw [HCN.out];exact h)];rfl
    have HQ0:Hid (ArrT (wr.alloc (.cells #[.int .i8 0,.int .i64 0,.int .i64 0,.int .i64 0,.int .i64 0] 40)) wr.heap.size [itm0]):=zH (heap_alloc_new wr _)
    have HAQ:=zH (Arr.alloc HA.out (.cells #[.int .i8 0,.int .i64 0,.int .i64 0,.int .i64 0,.int .i64 0] 40))
    have HBQ:=zH (HB.out.alloc HB.out.size (.cells #[.int .i8 0,.int .i64 0,.int .i64 0,.int .i64 0,.int .i64 0] 40))
    go_upto_if 28 with (fail)
    go_cut [5] (fun v W=>∃ q,v=.pointer (some ⟨q,0,none⟩)∧ArrT W q [colI IL k]∧ArrI W b M∧Below w.heap.size w W∧b<q)
    case first=>
     by_cases hkc:k<cn
     ·have hkcI:(k:Int)<(cn:Int):=by omega
      obtain⟨c,hck⟩:∃ c,IL[k]?=some c:=⟨_,List.getElem?_eq_getElem (by rw [HCN.out];exact hkc)⟩
      obtain⟨gu,ou,rfl,hgu,hci⟩:=HXU.out k c hck
      have HCK:=zH (HCI.out c hck)
      obtain⟨y0,y1,y2,y3,y4⟩:=hci.below HB.out hgu
      have lgu:gu<wr.heap.size:=Nat.lt_of_lt_of_le hgu HB.out.size
      clear hck hci
      go_wp2
      go_meet
      refine⟨wr.heap.size,rfl,?_,?_,?_,lA⟩
      ·rw [HCK.out];exact heap_alloc_new wr _
      ·exact Arr.alloc HA.out _
      ·exact HB.out.alloc HB.out.size _
     ·have hkcI:decide ((k:Int)<(cn:Int))=false:=decide_eq_false (by omega)
      have HCK:=zH (HCN0.out (by omega))
      go_wp2
      go_meet
      exact⟨wr.heap.size,rfl,by rw [HCK.out];exact HQ0.out,HAQ.out,HBQ.out,lA⟩
    case rest=>
    obtain⟨q,rfl,hQ,hA1,hB1,hbq⟩:=hcut
    have HCW:Hid (colW IL k=intoS (if (colI IL k).k=1 then (colI IL k).n else 1) (colI IL k)):=zH rfl
    generalize colI IL k=c at hQ HCW
    obtain⟨K,N,D,MN,MX⟩:=c
    have HI1:Hid (∀ W n,Calls Tryz.prog 95 #[.int .i64 n,.agg #[.int .i8 K,.int .i64 N,.int .i64 D,.int .i64 MN,.int .i64 MX]] W (VBel (.int .i64 (intoS n ⟨K,N,D,MN,MX⟩)) W)):=zH (fun W n=>into_any n ⟨K,N,D,MN,MX⟩ W)
    generalize hf:(fun n=>intoS n ⟨K,N,D,MN,MX⟩)=f at *
    have HF:=zH hf
    have hf1:∀ n,intoS n ⟨K,N,D,MN,MX⟩=f n:=fun n=>by rw [← hf]
    simp only [hf1] at HI1 HCW
    clear hf hf1 HF
    obtain⟨u,hu⟩:∃ u,M[k]?=some u:=⟨_,List.getElem?_eq_getElem (by rw [HML.out];exact hlt)⟩
    have HU:=zH hu
    have HQ:=zH hQ
    have HA1:=zH hA1
    have HB1:=zH hB1
    obtain⟨z0,z1,z2,z3,z4⟩:=hQ.one
    simp only [Nat.zero_add] at z0 z1 z2 z3 z4
    have lq:=Arr.lt hQ
    have hne:b ≠ q:=by omega
    clear hu hQ hA1 hB1
    go_upto_region 9 with (go_at_call 95;((with_reducible refine(HI1.out _ _).mono ?_);rintro e1' w5 ⟨rfl,hb5⟩;have HQ5:=zH (Arr.below HQ.out hb5);have HA5:Hid (ArrI w5 b M):=zH (Arr.below HA1.out hb5);have HB5:=zH (HB1.out.trans (hb5.mono HB1.out.size));have c5:=HA5.out.at HU.out;have f5:=Arr.froz HA5.out k;have l5:=Arr.lt HA5.out;clear hb5))
    have HA6:=zH (HA5.out.put k (f 1))
    have HQ6:Hid (ArrT (w5.setCell ⟨b,k,none⟩ (.int .i64 (f 1))) q [⟨K,N,D,MN,MX⟩]):=zH (Arr.other HQ5.out (Ne.symm hne) k _)
    have HB6:=zH (HB5.out.setCell (p:=⟨b,k,none⟩) hwb (.int .i64 (f 1)))
    generalize w5.setCell ⟨b,k,none⟩ (.int .i64 (f 1))=W6 at HA6 HQ6 HB6 ⊢
    clear HQ5 HA5 HB5 c5 f5 l5 z0 z1 z2 z3 z4 lq HA1 HB1 HQ
    obtain⟨z0,z1,z2,z3,z4⟩:=HQ6.out.one
    simp only [Nat.zero_add] at z0 z1 z2 z3 z4
    have lq:=Arr.lt HQ6.out
    have l6:=Arr.lt HA6.out
    have HNX:Hid (∀ v,colW IL k=v→∀ M2:List Int,M2=M.set k v∨(∃ y,M2=(M.set k y).set k v)→∀ j,j<k+1→M2[j]?=some (colW IL j)):=zH fun v hv M2 hM j hj=>by
     have hM3:M2=M.set k v:=hM.elim id fun ⟨y,e⟩=>by rw [e,List.set_set]
     rw [hM3]
     by_cases e:k=j
     ·subst e
      rw [List.getElem?_set_self (by rw [HML.out];exact hlt),hv]
     ·rw [List.getElem?_set_ne e]
      exact HMJ.out j (by omega)
    by_cases hK:K=1
    ·subst hK
     have HV:Hid (colW IL k=f N):=zH (by rw [HCW.out];rfl)
     go_wp2_with (go_at_call 95;((with_reducible refine(HI1.out _ _).mono ?_);rintro e1' w7 ⟨rfl,hb7⟩;have HA7:Hid (ArrI w7 b (M.set k (f 1))):=zH (Arr.below HA6.out hb7);have HB7:=zH (HB6.out.trans (hb7.mono HB6.out.size));have c7:=HA7.out.at (List.getElem?_set_self (by rw [HML.out];exact hlt));have f7:=Arr.froz HA7.out k;have l7:=Arr.lt HA7.out;clear hb7))
     go_roundw
     case rel=>exact⟨k+1,_,by first|rfl|go_num,by omega,zH (by rw [List.length_set,List.length_set];exact HML.out),zH (HNX.out _ HV.out _ (.inr ⟨f 1,rfl⟩)),zH (.inr (HA7.out.put k (f N))),zH (HB7.out.setCell (p:=⟨b,k,none⟩) hwb _)⟩
     case measure=>simp [intOf]<;>omega
    ·have hKb:(K == 1)=false:=by simpa using hK
     have HV:Hid (colW IL k=f 1):=zH (by rw [HCW.out,if_neg hK])
     go_wp2
     go_roundw
     case rel=>exact⟨k+1,_,by first|rfl|go_num,by omega,zH (by rw [List.length_set];exact HML.out),zH (HNX.out _ HV.out _ (.inl rfl)),zH (.inr HA6.out),HB6⟩
     case measure=>simp [intOf]<;>omega
   ·have hltI:decide ((k:Int)<(n:Int))=false:=decide_eq_false (by omega)
    obtain rfl:k=n:=by omega
    have hMM:M=(List.range k).map (colW IL):=List.ext_getElem? fun j=>by
     by_cases hj:j<k
     ·rw [HMJ.out j hj,List.getElem?_map,List.getElem?_range hj];rfl
     ·rw [List.getElem?_eq_none (by rw [HML.out];omega),List.getElem?_eq_none (by simp;omega)]
    have HMM:=zH hMM
    have HSL:Hid (SlI wr (.slice pv k k) M):=zH (by
     rcases HP.out with h0|⟨e,hwb,_⟩
     ·subst h0
      exact⟨pv,0,by rw [HML.out],by rw [HML.out];omega,fun i x hi=>absurd (List.getElem?_eq_some_iff.1 hi).1 (by rw [HML.out];omega)⟩
     ·rcases HA0.out with h0|hA
      ·subst h0
       exact⟨pv,0,by rw [HML.out],by rw [HML.out];omega,fun i x hi=>absurd (List.getElem?_eq_some_iff.1 hi).1 (by rw [HML.out];omega)⟩
      ·have:=ArrI.sl hA (by rw [HML.out];omega) k
       rw [HML.out] at this
       rw [e];exact this)
    clear hMM
    go_wp2
    go_ret
    exact⟨_,rfl,HB.out,by rw [hcT.out,← HMM.out];exact HSL.out⟩
end Go.Proofs.YtlenbcmgjancmaaGreatDoor
namespace Go.Proofs.YtlenbcmgjancmaaGreatDoor
open Go.RowKit Go.Maps
abbrev rowN:ND:=⟨2,⟨#[]⟩,⟨#[]⟩,[1,2],itm0,itm0,1,0,0,0,0,0,0,0,⟨#[]⟩,0,0,0,0,0,[],0,0,0,0,0⟩
abbrev txtN (t:ByteArray):ND:=⟨1,⟨#[]⟩,⟨#[]⟩,[],itm0,itm0,0,0,0,0,0,0,0,0,t,0,0,0,0,0,[],0,0,0,0,0⟩
abbrev ns3:List ND:=[rowN,txtN abT,txtN xT]
theorem nodeC_good {N n:Nat} {x:ND} {s:CS} {tk:List Bool} {dp:List Int} (h1:¬ (x.kd<1∨11<x.kd)) (h2:x.id.size=0) (h3:x.cl.size=0) (h4:kidsC N n x.kids s.tk s.dp=some (tk,dp)) (h5:¬ KBad x.kd x.kids.length) (h6:ItemsP x) (h7:FieldsP x) (h8:¬ 65536<x.tx.size):nodeC N n x s=.ok ⟨tk,dp,s.ids⟩:=by
 unfold nodeC
 rw [if_neg h1,if_neg (fun h=>h.1 h2),if_neg (fun h=>h.1 h3),h4]
 simp only
 rw [if_neg h5,if_neg (fun h=>h h6),if_neg (fun h=>h h7),if_neg h8,if_pos h2]
theorem check3:checkS ns3=(0,0):=by
 have e0:nodeC 3 0 rowN (cs0 3)=.ok ⟨[false,true,true],[0,1,1],[]⟩:=nodeC_good (by decide) rfl rfl rfl (by decide) (by decide) (by decide) (by decide)
 have e1:nodeC 3 1 (txtN abT) ⟨[false,true,true],[0,1,1],[]⟩=.ok ⟨[false,true,true],[0,1,1],[]⟩:=nodeC_good (by decide) rfl rfl rfl (by decide) (by decide) (by decide) (by decide)
 have e2:nodeC 3 2 (txtN xT) ⟨[false,true,true],[0,1,1],[]⟩=.ok ⟨[false,true,true],[0,1,1],[]⟩:=nodeC_good (by decide) rfl rfl rfl (by decide) (by decide) (by decide) (by decide)
 rw [checkS_end (ns:=ns3) (by decide) (s:=⟨[false,true,true],[0,1,1],[]⟩) (by
  show nodesC 3 0 ns3 (cs0 3)=_
  simp only [nodesC,e0,e1,e2])]
 rfl
theorem norm_ok {i:Itm} (h:i.ok):normI i=i:=if_pos h
theorem sizes8:sizesS [⟨1,6,0,3,0⟩,⟨1,1,0,1,0⟩] 8 1=[6,1]:=by
 have n1:normI ⟨1,6,0,3,0⟩=⟨1,6,0,3,0⟩:=norm_ok (by decide)
 have n2:normI ⟨1,1,0,1,0⟩=⟨1,1,0,1,0⟩:=norm_ok (by decide)
 unfold sizesS
 rw [if_neg (by decide)]
 simp only [List.map_cons,List.map_nil,n1,n2]
 decide
theorem sizes5:sizesS [⟨1,6,0,3,0⟩,⟨1,1,0,1,0⟩] 5 1=[3,1]:=by
 have n1:normI ⟨1,6,0,3,0⟩=⟨1,6,0,3,0⟩:=norm_ok (by decide)
 have n2:normI ⟨1,1,0,1,0⟩=⟨1,1,0,1,0⟩:=norm_ok (by decide)
 unfold sizesS
 rw [if_neg (by decide)]
 simp only [List.map_cons,List.map_nil,n1,n2]
 decide
theorem n3_wish {p:MP} (hp:p.ns=ns3) (k:Nat) (t:ByteArray) (hk:ns3[k]?=some (txtN t)) (v:Int) (hv:0≤v):wishS (ndF p.ns k).wd v=v∧wishS (ndF p.ns k).ht v=v:=by
 rw [hp,ndF_eq hk]
 unfold wishS intoS
 simp
 omega
section
variable {T:TabF} {p:MP} (L:Law T p) (hp:p.ns=ns3)
include L hp
theorem n3_text (i:Nat) (t:ByteArray) (hi:ns3[i]?=some (txtN t)):p.f i 0 0=sideS (leastS 0 (flowS t.data.toList)+0)∧p.f i 1 0=sideS (leastS 2 (flowS t.data.toList)+0)∧∀ w,p.f i 2 w=sideS (tallS 0 (max 0 (w - 0)).toNat t+0):=by
 have hn:p.ns[i]?=some (txtN t):=by rw [hp];exact hi
 refine⟨?_,?_,fun w=>?_⟩
 ·rw [L.eq hn];unfold workS;rw [ndF_eq hn,if_pos rfl];rfl
 ·rw [L.eq hn];unfold workS;rw [ndF_eq hn,if_neg (by decide),if_pos rfl];rfl
 ·rw [L.eq hn];unfold workS;rw [ndF_eq hn,if_neg (by decide),if_neg (by decide)];rfl
theorem n3_low (k:Nat) (t:ByteArray) (hk:ns3[k]?=some (txtN t)):lwS p.ns p.f k=p.f k 0 0∧mwS p.ns p.f k=p.f k 1 0∧∀ w,highS p.ns p.f k w=p.f k 2 (sideS w):=by
 have w:=fun v hv=>n3_wish hp k t hk v hv
 exact⟨(w _ (L.range _ _ _).1).1,(w _ (L.range _ _ _).1).1,fun z=>(w _ (L.range _ _ _).1).2⟩
theorem n3_nums:p.f 1 0 0=3∧p.f 2 0 0=1∧p.f 1 1 0=6∧p.f 2 1 0=1∧p.f 1 2 6=1∧p.f 1 2 3=2∧p.f 2 2 1=1:=by
 obtain⟨a1,b1,c1⟩:=n3_text L hp 1 abT rfl
 obtain⟨a2,b2,c2⟩:=n3_text L hp 2 xT rfl
 rw [ab_least] at a1
 rw [x_least] at a2
 rw [ab_most] at b1
 rw [x_most] at b2
 have d1:=c1 6
 have d2:=c1 3
 have d3:=c2 1
 rw [show (max (0:Int) (6 - 0)).toNat=6 by decide,ab_tall6] at d1
 rw [show (max (0:Int) (3 - 0)).toNat=3 by decide,ab_tall3] at d2
 rw [show (max (0:Int) (1 - 0)).toNat=1 by decide,x_tall1] at d3
 exact⟨a1,a2,b1,b2,d1,d2,d3⟩
theorem alive_least:p.f 0 0 0=5:=by
 have hn:p.ns[0]?=some rowN:=by rw [hp];rfl
 obtain⟨a1,a2,_⟩:=n3_nums L hp
 have b1:lwS p.ns p.f 1=3:=((n3_low L hp 1 abT rfl).1).trans a1
 have b2:lwS p.ns p.f 2=1:=((n3_low L hp 2 xT rfl).1).trans a2
 have h:p.f 0 0 0=workS T p.ns p.f ((0:Nat):Int) 0 0:=L.eq hn 0 0
 rw [h]
 unfold workS
 rw [if_pos rfl,ndF_eq hn]
 show sideS (sumS ([1,2].map (lwS p.ns p.f)) 1+0)=5
 simp only [List.map_cons,List.map_nil,b1,b2]
 decide
theorem alive_most:p.f 0 1 0=8:=by
 have hn:p.ns[0]?=some rowN:=by rw [hp];rfl
 obtain⟨_,_,a1,a2,_⟩:=n3_nums L hp
 have b1:mwS p.ns p.f 1=6:=((n3_low L hp 1 abT rfl).2.1).trans a1
 have b2:mwS p.ns p.f 2=1:=((n3_low L hp 2 xT rfl).2.1).trans a2
 have h:p.f 0 1 0=workS T p.ns p.f ((0:Nat):Int) 1 0:=L.eq hn 1 0
 rw [h]
 unfold workS
 rw [if_neg (by decide),if_pos rfl,ndF_eq hn]
 show sideS (sumS ([1,2].map (mwS p.ns p.f)) 1+0)=8
 simp only [List.map_cons,List.map_nil,b1,b2]
 decide
theorem along3:[1,2].map (alongI p.ns p.f)=[⟨1,6,0,3,0⟩,⟨1,1,0,1,0⟩]:=by
 obtain⟨a1,a2,a3,a4,_⟩:=n3_nums L hp
 have b1:lwS p.ns p.f 1=3:=((n3_low L hp 1 abT rfl).1).trans a1
 have b2:lwS p.ns p.f 2=1:=((n3_low L hp 2 xT rfl).1).trans a2
 have b3:mwS p.ns p.f 1=6:=((n3_low L hp 1 abT rfl).2.1).trans a3
 have b4:mwS p.ns p.f 2=1:=((n3_low L hp 2 xT rfl).2.1).trans a4
 have h1:ndF p.ns 1=txtN abT:=by rw [hp];rfl
 have h2:ndF p.ns 2=txtN xT:=by rw [hp];rfl
 simp only [List.map_cons,List.map_nil,alongI,b1,b2,b3,b4,h1,h2]
 rfl
theorem alive_tall (z:Int) (s:List Int) (t:Int) (hz:max 0 (z - 0)=z) (hs:sizesS [⟨1,6,0,3,0⟩,⟨1,1,0,1,0⟩] z 1=s) (ht:tallRow (highS p.ns p.f) s [1,2] 0=t):p.f 0 2 z=sideS (t+0):=by
 have hn:p.ns[0]?=some rowN:=by rw [hp];rfl
 have h:p.f 0 2 z=workS T p.ns p.f ((0:Nat):Int) 2 z:=L.eq hn 2 z
 rw [h]
 unfold workS
 rw [if_neg (by decide),if_neg (by decide),ndF_eq hn]
 show sideS (tallRow (highS p.ns p.f) (sizesS ([1,2].map (alongI p.ns p.f)) (max 0 (z - 0)) 1) [1,2] 0+0)=sideS (t+0)
 rw [along3 L hp,hz,hs,ht]
theorem alive_tall8:p.f 0 2 8=1:=by
 obtain⟨_,_,_,_,a1,_,a3⟩:=n3_nums L hp
 refine alive_tall L hp 8 _ 1 (by decide) sizes8 ?_
 simp only [tallRow]
 rw [show highS p.ns p.f 1 6=1 from((n3_low L hp 1 abT rfl).2.2 6).trans a1,show highS p.ns p.f 2 1=1 from((n3_low L hp 2 xT rfl).2.2 1).trans a3]
 decide
theorem alive_tall5:p.f 0 2 5=2:=by
 obtain⟨_,_,_,_,_,a2,a3⟩:=n3_nums L hp
 refine alive_tall L hp 5 _ 2 (by decide) sizes5 ?_
 simp only [tallRow]
 rw [show highS p.ns p.f 1 3=2 from((n3_low L hp 1 abT rfl).2.2 3).trans a2,show highS p.ns p.f 2 1=1 from((n3_low L hp 2 xT rfl).2.2 1).trans a3]
 decide
end
end Go.Proofs.YtlenbcmgjancmaaGreatDoor
