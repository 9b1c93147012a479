import Derived.Test.YtlenbcmgjancmaaGreatDoorMn15
import Derived.Deep.RegionHeld3
import Derived.Outline
import Derived.Test.YtlenbcmgjancmaaGreatDoorMn13
import Derived.LoopTactic
import Derived.Deep.DeepCutAuto
set_option linter.unusedVariables false
set_option linter.unusedSimpArgs false
namespace Go.Proofs.YtlenbcmgjancmaaGreatDoor
open Go.RowKit
theorem elL:ElOK 73 109 4 48 (.agg #[.string ByteArray.empty,.int .i64 0,.int .i8 0,.string ByteArray.empty]):=⟨Tryz.underlying73,by kernel_rfl,rfl,by decide,by decide⟩
def lineR (mode:Int) (w:Nat) (r:List Cl):Nat:=if mode=2 then 1 else cntR (decide (mode=0)) w r
def linesN (mode:Int) (w:Nat) (rs:List (List Cl)):Nat:=(rs.map (lineR mode w)).sum
theorem linesN_take (mode:Int) (w:Nat) (rs:List (List Cl)) (k:Nat) (r:List Cl) (h:rs[k]?=some r):linesN mode w (rs.take (k+1))=linesN mode w (rs.take k)+lineR mode w r:=by
 obtain⟨h1,h2⟩:=List.getElem?_eq_some_iff.1 h
 unfold linesN
 rw [List.take_succ_eq_append_getElem h1,List.map_append,List.sum_append,h2];simp
theorem cntR_le (word:Bool) (w:Nat) (l:List Cl):cntR word w l≤l.length+1:=by
 generalize hn:l.length=n
 induction n using Nat.strongRecOn generalizing l with
 |ind n ih=>
  unfold cntR
  split
  ·omega
  ·rename_i h
   split
   ·omega
   ·have hp:=advS_pos word w l
    have hl:0<l.length:=by
     rcases Nat.eq_zero_or_pos l.length with h0|h0
     ·have:=List.eq_nil_of_length_eq_zero h0;subst this;simp [wideS] at h
     ·exact h0
    have:=ih (l.drop (advS word w l)).length (by simp only [List.length_drop];omega) _ rfl
    simp only [List.length_drop] at this
    omega
theorem lineR_le (mode:Int) (w:Nat) (l:List Cl):lineR mode w l≤l.length+1:=by
 unfold lineR
 split
 ·omega
 ·exact cntR_le _ _ _
theorem rowsN_sum (l:List Cl):((rowsN l).map fun r=>r.length+1).sum=l.length+1∧(rowsN l).length≤l.length+1:=by
 induction l with
 |nil=>simp [rowsN]
 |cons c l ih=>
  simp only [rowsN]
  split
  ·simp only [List.map_cons,List.sum_cons,List.length_nil,List.length_cons];omega
  ·cases h:rowsN l with
   |nil=>exact absurd h (rowsN_ne _)
   |cons r rs=>
    rw [h] at ih
    simp only [List.map_cons,List.sum_cons,List.length_cons] at ih ⊢
    omega
theorem linesN_le (mode:Int) (w:Nat) (rs:List (List Cl)):linesN mode w rs≤(rs.map fun r=>r.length+1).sum:=by
 induction rs with
 |nil=>simp [linesN]
 |cons r rs ih=>
  have:=lineR_le mode w r
  simp only [linesN,List.map_cons,List.sum_cons] at ih ⊢
  omega
theorem map_take_sum (f:List Cl→Nat) (rs:List (List Cl)) (k:Nat):((rs.take k).map f).sum≤(rs.map f).sum:=by
 have:(rs.map f).sum=((rs.take k).map f).sum+((rs.drop k).map f).sum:=by rw [← List.sum_append,← List.map_append,List.take_append_drop]
 omega
theorem single_le_sum_nat {α:Type} (f:α→Nat) (l:List α) (x:α) (h:x ∈ l):f x≤(l.map f).sum:=by
 induction l with
 |nil=>simp at h
 |cons y l ih=>
  rcases List.mem_cons.1 h with rfl|h
  ·simp only [List.map_cons,List.sum_cons];omega
  ·have:=ih h;simp only [List.map_cons,List.sum_cons];omega
theorem growS_16 (b pk n:Nat) (l:List Nat) (h:n≤16):growS b pk n l≤16:=by
 induction l generalizing pk n with
 |nil=>simpa [growS] using h
 |cons r rs ih=>
  simp only [growS]
  split
  ·rename_i h';exact ih _ _ (by omega)
  ·exact h
theorem lengthS_16 (l:List Nat):(lengthS l).1≤16:=by
 cases l with
 |nil=>simp [lengthS]
 |cons r rs=>
  simp only [lengthS]
  split
  ·simp
  ·cases rs with
   |nil=>simp
   |cons x xs=>
    simp only
    split
    ·exact growS_16 _ _ _ _ (by omega)
    ·exact growS_16 _ _ _ _ (by omega)
theorem clustersS_64 (l:List Nat):∀ c ∈ clustersS l,c.1.length≤64:=by
 generalize hn:l.length=n
 induction n using Nat.strongRecOn generalizing l with
 |ind n ih=>
  cases l with
  |nil=>simp [clustersS]
  |cons r rs=>
   rw [clustersS_cons]
   intro c hc
   rcases List.mem_cons.1 hc with rfl|hc
   ·have h1:=textS_len ((r :: rs).take (lengthS (r :: rs)).1)
    have h2:=lengthS_16 (r :: rs)
    simp only [List.length_take] at h1
    simp only
    omega
   ·have h:=lengthS_size r rs
    exact ih _ (by simp only [List.length_drop,List.length_cons] at h hn ⊢;omega) ((r :: rs).drop (lengthS (r :: rs)).1) rfl c hc
theorem flowS_ok (s:List UInt8):∀ c ∈ flowS s,okC c∧c.1.length≤64:=by
 intro c hc
 have:=(List.mem_filter.1 hc).1
 exact⟨clustersS_ok _ c this,clustersS_64 _ c this⟩
theorem flowS_len (s:List UInt8):(flowS s).length≤4*s.length:=by
 refine Nat.le_trans (List.length_filter_le _ _) (Nat.le_trans (clustersS_len _) (Nat.le_trans (runesS_len _) ?_))
 have h1:=textS_len (flowR (runesS s))
 have h2:(flowR (runesS s)).length≤(runesS s).length:=by unfold flowR;rw [List.length_map];exact List.length_filter_le _ _
 have h3:=runesS_len s
 simp only [toBytes,List.length_map];omega
theorem rowsN_mem (l:List Cl):∀ r ∈ rowsN l,∀ c ∈ r,c ∈ l:=by
 induction l with
 |nil=>simp [rowsN]
 |cons c l ih=>
  simp only [rowsN]
  split
  ·intro r hr
   rcases List.mem_cons.1 hr with rfl|hr
   ·simp
   ·exact fun x hx=>List.mem_cons_of_mem _ (ih r hr x hx)
  ·cases h:rowsN l with
   |nil=>exact absurd h (rowsN_ne _)
   |cons r0 rs=>
    rw [h] at ih
    intro r hr
    rcases List.mem_cons.1 hr with rfl|hr
    ·intro x hx
     rcases List.mem_cons.1 hx with rfl|hx
     ·simp
     ·exact List.mem_cons_of_mem _ (ih r0 (by simp) x hx)
    ·exact fun x hx=>List.mem_cons_of_mem _ (ih r (List.mem_cons_of_mem _ hr) x hx)
def LinesPost (n:Nat) (w:World) (e:Ending) (w':World):Prop :=
 ∃ v xs,e=.returned v∧Below w.heap.size w w'∧w'.ownsRow w.heap.size 109 4 v n xs
def OutRel (mode:Int) (w0:Nat) (rs:List (List Cl)) (w:World) (v i:Value) (wr:World):Prop :=
 ∃ (k:Nat) (xs:List Value),i=.int .i64 k∧k≤rs.length∧Hid (wr.ownsRow w.heap.size 109 4 v (linesN mode w0 (rs.take k)) xs)∧Hid (Below w.heap.size w wr)
def InRel (mode:Int) (w0 N:Nat) (w:World) (v r ov:Value) (wr:World):Prop :=
 ∃ (m:Nat) (xs:List Value),Hid (wr.ownsRow w.heap.size 109 4 v m xs)∧Hid (Below w.heap.size w wr)∧m≤100000000∧
  ((ov=.bool false∧∃ (A:Option Addr) (c n:Nat) (cs:List Cl),r=.slice A n c∧n≤c∧Hid (c≤maxLen)∧n≤100000000∧Hid (SeeC w A n cs)∧Hid (m+lineR mode w0 cs=N)∧Hid (∀ x ∈ cs,okC x∧x.1.length≤64))∨(ov=.bool true∧m=N))
def LineCut (W:World) (s:Value) (wx:World):Prop:=∃ (Bx:Nat) (t t2:ByteArray) (q:Nat),s=.pointer (some ⟨Bx,0,none⟩)∧W.heap.size≤Bx∧Bx<wx.heap.size∧wx.cell? ⟨Bx,0,none⟩=some (.string t)∧wx.cell? ⟨Bx,1,none⟩=some (.int .i64 q)∧wx.cell? ⟨Bx,2,none⟩=some (.int .i8 3)∧wx.cell? ⟨Bx,3,none⟩=some (.string t2)∧
 wx.frozen? ⟨Bx,2,none⟩=false∧Below W.heap.size W wx
abbrev SW (W w':World):Prop:=Below W.heap.size W w'
theorem SW.below {W w1 w2:World} (h:SW W w1) (hb:Below w1.heap.size w1 w2):SW W w2:=h.trans (hb.mono h.size)
theorem SW.alloc' {W w1:World} (h:SW W w1) (o:Obj):SW W (w1.alloc o):=Below.alloc h h.size o
theorem SW.set' {W w1:World} (h:SW W w1) {p:Addr} (hp:W.heap.size≤p.block) (u:Value):SW W (w1.setCell p u):=Below.setCell h hp u
theorem SW.set4 {W w1:World} (h:SW W w1) {b:Nat} (hb:W.heap.size≤b) (x0 x1 x2 x3:Value):SW W ((((w1.setCell ⟨b,0,none⟩ x0).setCell ⟨b,1,none⟩ x1).setCell ⟨b,2,none⟩ x2).setCell ⟨b,3,none⟩ x3) :=
 (((h.setCell (p:=⟨b,0,none⟩) hb _).setCell (p:=⟨b,1,none⟩) hb _).setCell (p:=⟨b,2,none⟩) hb _).setCell (p:=⟨b,3,none⟩) hb _
theorem SeeC.take {w:World} {A:Option Addr} {n k:Nat} {cs:List Cl} (h:SeeC w A n cs) (hk:k≤n):SeeC w A k (cs.take k):=by
 refine⟨by rw [List.length_take,h.1];omega,fun h0=>?_⟩
 obtain⟨g,o,e,hg,hR⟩:=h.2 (by omega)
 refine⟨g,o,e,hg,fun i x hx=>hR i x ?_⟩
 obtain⟨h1,h2⟩:=List.getElem?_eq_some_iff.1 hx
 rw [List.getElem_take] at h2
 exact List.getElem?_eq_some_iff.2 ⟨by simp at h1;omega,h2⟩
theorem and_cell {W w':World} {a:Addr} {v:Value} (hc:W.cell? a=some v) (ha:a.block<W.heap.size) (h:SW W w'):w'.cell? a=some v∧SW W w':=⟨(h.cell (p:=a) ha).trans hc,h⟩
def EndCut (W:World) (s:Value) (wx:World):Prop:=(∃ e:Int,s=.int .i8 e)∧wx=W
set_option maxRecDepth 100000 in
set_option maxHeartbeats 4000000 in
theorem lines_any (s:ByteArray) (w0:Nat) (mode:Int) (hm:mode=0∨mode=1∨mode=2) (h1:1≤w0) (h2:w0≤1000000) (hs:s.size≤1000000) (w:World) :
  Calls Tryz.prog 27 #[.string s,.int .i64 w0,.int .i8 mode] w (LinesPost (linesN mode w0 (rowsS (flowS s.data.toList))) w):=by
 obtain⟨cs,hcs⟩:∃ cs,flowS s.data.toList=cs:=⟨_,rfl⟩
 have hok:∀ c ∈ cs,okC c∧c.1.length≤64:=by rw [← hcs];exact flowS_ok _
 have hlen:cs.length≤4000000:=by rw [← hcs];have:=flowS_len s.data.toList;rw [blen] at this;omega
 have HFL:=zH (flow_any s (by omega) w)
 rw [hcs] at HFL ⊢
 obtain⟨rs,hrs⟩:∃ rs,rowsS cs=rs:=⟨_,rfl⟩
 obtain⟨N,hN⟩:∃ N,rs.length=N:=⟨_,rfl⟩
 have hRall:N≤4000001∧(∀ r ∈ rs,r.length≤4000000∧∀ c ∈ r,c ∈ cs)∧linesN mode w0 rs≤4000001:=by
  rw [← hN,← hrs]
  by_cases h0:cs=[]
  ·rw [h0];exact⟨by simp [rowsS],fun r hr=>by simp [rowsS] at hr,by simp [rowsS,linesN]⟩
  ·rw [rowsS_eq cs h0]
   have h1:=rowsN_sum cs
   refine⟨by omega,fun r hr=>⟨?_,rowsN_mem cs r hr⟩,Nat.le_trans (linesN_le mode w0 _) (by omega)⟩
   have h3:=single_le_sum_nat (fun r:List Cl=>r.length+1) (rowsN cs) r hr
   omega
 have hNl:=hRall.1
 have hrok:∀ r ∈ rs,r.length≤4000000∧∀ c ∈ r,okC c∧c.1.length≤64:=fun r hr=>⟨(hRall.2.1 r hr).1,fun c hc=>hok c ((hRall.2.1 r hr).2 c hc)⟩
 have hsum:=hRall.2.2
 have HROWS:Hid (∀ (A:Option Addr) (c:Nat) (W:World),SeeC W A cs.length cs→cs.length≤c→c≤maxLen→Calls Tryz.prog 76 #[.slice A cs.length c] W (RowsPost cs W)):=zH fun A c W hS hc hcm=>rows_any A c cs.length cs W hS hc hcm (by omega) fun x hx=>(hok x hx).1
 obtain⟨n,hn⟩:∃ n,cs.length=n:=⟨_,rfl⟩
 have HNN:=zH hN
 have HRSS:=zH hrs
 have HROK:=zH hrok
 have HSUM:=zH hsum
 have HNC:=zH hn
 rw [hn] at HFL HROWS hlen
 have hm0:(mode<0)=False:=by simp;omega
 have hm2:(2<mode)=False:=by simp;omega
 have hmn:¬ mode<0:=by omega
 have hmn2:¬ 2<mode:=by omega
 have HM:=zH hm
 clear hcs hok hrs hN hrok hsum hn hm0 hm2 hm hRall
 go_enter Tryz.func27,Tryz.ntmps27
 go_wp2_with (first|(go_at_call 28;((with_reducible refine HFL.out.mono ?_);rintro e w1 ⟨v,rfl,hb1,hrow⟩;obtain⟨A,c,rfl,hc1,hc2,hA⟩:=slice_form2 hrow;have HSE:Hid (SeeC w1 A n cs):=zH ⟨HNC.out,fun h0=>(by obtain⟨g,e1,_,e3,e4⟩:=hA h0;exact⟨g,0,e1,e3,fun i x hx=>⟨by rw [Nat.zero_add];exact e4 _ _ (cv_get cs i x hx).1,by rw [Nat.zero_add];exact e4 _ _ (cv_get cs i x hx).2⟩⟩)⟩;have HB1:=zH hb1;have HCM:=zH hc2;clear hA hrow hb1 hc2))|(go_at_call 76;((with_reducible refine(HROWS.out _ _ _ HSE.out hc1 HCM.out).mono ?_);rintro e w2 ⟨v2,xr,rfl,hb2,hrow2,hsee2⟩;rw [HRSS.out,HNN.out] at hrow2;obtain⟨A2,c2,rfl,hd1,hd2,hA2⟩:=slice_form2 hrow2;have HA2:=zH hA2;have HSR:Hid (SeeRows w2 xr rs):=zH (by rw [← HRSS.out];exact hsee2);have HB2:=zH hb2;clear hA2 hrow2 hsee2 hb2 hd1 hd2)))
 go_loopw [7,32] (OutRel mode w0 rs w2) (fun _ i _=>N - (intOf i).toNat)
 case atStart=>exact⟨0,[],rfl,by omega,World.ownsRow_nil _ _ _ _,Below.refl _ _⟩
 case round=>
  obtain⟨k,xs,rfl,hk,HR,HBE⟩:=hrel
  rw [HNN.out] at hk
  by_cases hlt:k<N
  ·obtain⟨gR,rfl,_,hgR,hcR⟩:=HA2.out (by omega)
   obtain⟨r,hr⟩:∃ r,rs[k]?=some r:=⟨_,List.getElem?_eq_getElem (by rw [HNN.out];exact hlt)⟩
   obtain⟨A,c,hx,hrc,hcm,hSr⟩:=HSR.out.2 k r hr
   have hcell:wr.cell? ⟨gR,k,none⟩=some (.slice A r.length c):=(HBE.out.cell (p:=⟨gR,k,none⟩) hgR).trans (hcR k _ hx)
   have HT:=zH (linesN_take mode w0 rs k r hr)
   have HNB:Hid (linesN mode w0 (rs.take (k+1))≤4000001):=zH (Nat.le_trans (map_take_sum (lineR mode w0) rs (k+1)) HSUM.out)
   have HRO:=zH (HROK.out r (List.mem_of_getElem? hr))
   have HSr:=zH hSr
   have HCMr:=zH hcm
   obtain⟨nr,hnr⟩:∃ nr,r.length=nr:=⟨_,rfl⟩
   rw [hnr] at hcell hrc HSr
   have HNR:=zH hnr
   clear hx hcm hSr hcR hr hnr
   go_upto_if 41 with (fail)
   go_cut [11] (EndCut wr)
   case first=>
    by_cases hke:k+1=N
    ·have e1:((k:Int) == (N:Int) - 1)=true:=by simp;omega
     go_wp2
     go_meet
     exact⟨⟨_,rfl⟩,rfl⟩
    ·have e1:((k:Int) == (N:Int) - 1)=false:=by simp;omega
     go_wp2
     go_meet
     exact⟨⟨_,rfl⟩,rfl⟩
   case rest=>
    obtain⟨⟨e,rfl⟩,he⟩:=hcut
    subst he
    go_wp2
    go_loopw [7,10,12] (InRel mode w0 (linesN mode w0 (rs.take (k+1))) w2) (fun _ q o _=>2*lenSl q+(match o with|.bool false=>1|_=>0))
    case atStart=>exact⟨_,xs,HR,HBE,by have h1:=HT.out;have h3:=HNB.out;omega,.inl ⟨rfl,A,c,nr,r,rfl,hrc,HCMr,by have:=HRO.out.1;have:=HNR.out;omega,HSr,by rw [HT.out];exact rfl,HRO.out.2⟩⟩
    case round=>
     obtain⟨m,ys,HY,HB3,hm3,(⟨rfl,A',c',n',cs',rfl,hnc,HC',hn',HS',HM',HO'⟩|⟨rfl,rfl⟩)⟩:=hrel
     ·have hSW:=HS'.out.below HB3.out
      have HSW:=zH hSW
      have HWD:=zH (wide_any A' c' n' cs' wr hSW (by omega) fun x hx=>(HO'.out x hx).1.1)
      have HJN:Hid (∀ W,Below wr.heap.size wr W→Calls Tryz.prog 78 #[.slice A' n' c'] W (VBel (.string (mkS (joinB cs'))) W)):=zH fun W hb=>join_any A' c' n' cs' W (hSW.below hb) (by omega) fun x hx=>(HO'.out x hx).2
      obtain⟨tw,htw⟩:∃ tw,wideS cs'=tw:=⟨_,rfl⟩
      have htwl:tw≤200000000:=by
       have:=wideS_le cs' fun x hx=>(HO'.out x hx).1.1
       have:=HS'.out.1
       omega
      rw [htw] at HWD
      by_cases hfin:mode=2∨tw≤w0
      ·have HL1:Hid (lineR mode w0 cs'=1):=zH (by
        unfold lineR
        rcases hfin with h|h
        ·rw [if_pos h]
        ·split
         ·rfl
         ·unfold cntR;rw [dif_pos (by rw [htw];exact h)])
       have HM1:Hid (m+1=linesN mode w0 (rs.take (k+1))):=zH (by have:=HM'.out;rw [HL1.out] at this;exact this)
       clear hSW htw
       by_cases hme:mode=2
       ·subst hme
        clear hfin
        go_wp2_with (first|(go_at_call 77;((with_reducible refine HWD.out.mono ?_);rintro e1' w3 ⟨rfl,hb3⟩;have hz3:=hb3.size))|(go_at_call 78;((with_reducible refine(HJN.out _ hb3).mono ?_);rintro e2' w4 ⟨rfl,hb4⟩;have hz4:=hb4.size))|((with_reducible apply wpList_append_new elL (B:=w2.heap.size) (n:=m) (xs:=ys) (nw:=#[.string (mkS (joinB cs')),.int .i64 tw,.int .i8 e,.string ⟨#[]⟩]));exact rfl;exact rfl;(first|exact rfl|simp);exact orow_belowSize (orow_belowSize HY.out hb3) hb4;(have:=HB3.out.size;omega);omega;exact rfl;(intro u hu;simp at hu;rcases hu with rfl|rfl|rfl|rfl<;>rfl);intro v' w5 hrow5 hgr5 hpl5 K hK;have HR5:=zH hrow5;clear hrow5))
        go_roundw
        case rel=>
         refine⟨k+1,_,by go_num,by rw [HNN.out];omega,by rw [← HM1.out];exact HR5,?_⟩
         exact((((HB3.out.trans (hb3.mono HB3.out.size)).trans (hb4.mono (Nat.le_trans HB3.out.size hz3))).alloc (Nat.le_trans HB3.out.size (Nat.le_trans hz3 hz4)) _).grown hgr5 (by have:=HB3.out.size;simp;omega) (fun k e=>(World.ownsRow.lt HY.out k e).1))
        case measure=>simp [intOf];omega
       ·have e1:(mode == 2)=false:=by simp [hme]
        have e2:(tw:Int)≤(w0:Int):=by rcases hfin with h|h;exact absurd h hme;omega
        clear hfin
        go_wp2_with (first|(go_at_call 77;((with_reducible refine HWD.out.mono ?_);rintro e1' w3 ⟨rfl,hb3⟩;have hz3:=hb3.size))|(go_at_call 78;((with_reducible refine(HJN.out _ hb3).mono ?_);rintro e2' w4 ⟨rfl,hb4⟩;have hz4:=hb4.size))|((with_reducible apply wpList_append_new elL (B:=w2.heap.size) (n:=m) (xs:=ys) (nw:=#[.string (mkS (joinB cs')),.int .i64 tw,.int .i8 e,.string ⟨#[]⟩]));exact rfl;exact rfl;(first|exact rfl|simp);exact orow_belowSize (orow_belowSize HY.out hb3) hb4;(have:=HB3.out.size;omega);omega;exact rfl;(intro u hu;simp at hu;rcases hu with rfl|rfl|rfl|rfl<;>rfl);intro v' w5 hrow5 hgr5 hpl5 K hK;have HR5:=zH hrow5;clear hrow5))
        go_roundw
        case rel=>
         refine⟨k+1,_,by go_num,by rw [HNN.out];omega,by rw [← HM1.out];exact HR5,?_⟩
         exact((((HB3.out.trans (hb3.mono HB3.out.size)).trans (hb4.mono (Nat.le_trans HB3.out.size hz3))).alloc (Nat.le_trans HB3.out.size (Nat.le_trans hz3 hz4)) _).grown hgr5 (by have:=HB3.out.size;simp;omega) (fun k e=>(World.ownsRow.lt HY.out k e).1))
        case measure=>simp [intOf];omega
      ·have hme:mode=0∨mode=1:=by rcases HM.out with h|h|h;exact .inl h;exact .inr h;exact absurd (.inl h) hfin
       have htw2:w0<tw:=by
        rcases Nat.lt_or_ge w0 tw with h|h
        ·exact h
        ·exact absurd (.inr h) hfin
       have hne2:¬ mode=2:=fun h=>hfin (.inl h)
       have e1:(mode == 2)=false:=by simp [hne2]
       have e2:¬ (tw:Int)≤(w0:Int):=by omega
       obtain⟨kf,hkf⟩:∃ kf,fitS cs' w0=kf:=⟨_,rfl⟩
       have HFT:Hid (∀ W,Below wr.heap.size wr W→Calls Tryz.prog 79 #[.slice A' n' c',.int .i64 w0] W (VBel (.int .i64 kf) W)):=zH fun W hb=>by
        rw [← hkf];exact fit_any A' c' n' w0 cs' W (hSW.below hb) (by omega) (by omega) fun x hx=>(HO'.out x hx).1.1
       have hkn:kf<n':=by
        have h1:=fitS_le cs' w0
        rw [hkf,HS'.out.1] at h1
        rcases Nat.lt_or_ge kf n' with h|h
        ·exact h
        ·exfalso
         have:=(fitS_iff cs' w0 n' (by rw [HS'.out.1];exact Nat.le_refl _)).1 (by omega)
         rw [List.take_of_length_le (by rw [HS'.out.1];exact Nat.le_refl _),htw] at this
         omega
       obtain⟨g',o',rfl,hg',hRc'⟩:=HS'.out.2 (by omega)
       have HG':=zH hg'
       have HRC':=zH hRc'
       clear hg' hRc'
       have HLR:Hid (lineR mode w0 cs'=cntR (decide (mode=0)) w0 cs'):=zH (by unfold lineR;rw [if_neg hne2])
       have HTW:=zH htw
       have HKF:=zH hkf
       by_cases hk0:kf=0
       ·have hk0I:((kf:Int) == 0)=true:=by simp [hk0]
        obtain⟨c0,hc0⟩:∃ c0,cs'[0]?=some c0:=⟨_,List.getElem?_eq_getElem (by rw [HS'.out.1];omega)⟩
        have hc2':c0.2≤2:=(HO'.out c0 (List.mem_of_getElem? hc0)).1.1
        have hw1:w0=1:=by
         have h5:=fitS_step cs' 0 w0 c0 hc0
         rw [List.drop_zero,hkf,hk0] at h5
         split at h5
         ·omega
         ·omega
        have HREP:Hid (∀ W,Calls Tryz.prog 80 #[.string ⟨#[32]⟩,.int .i64 w0] W (VRet (.string ⟨#[32]⟩) W)):=zH (by rw [hw1];exact fun W=>Tryz.strings_Repeat_one ⟨#[32]⟩ W)
        have hcell0:wr.cell? ⟨g',o',none⟩=some (.string (mkS c0.1)):=(HB3.out.cell (p:=⟨g',o',none⟩) HG'.out).trans (by have:=(HRC'.out 0 c0 hc0).1;simpa using this)
        have hg9:g'<wr.heap.size:=Nat.lt_of_lt_of_le HG'.out HB3.out.size
        have HCN:Hid (lineR mode w0 cs'=if cs'.drop 1=[] then 1 else 1+lineR mode w0 (cs'.drop 1)):=zH (by
         have e:lineR mode w0 (cs'.drop 1)=cntR (decide (mode=0)) w0 (cs'.drop 1):=by unfold lineR;rw [if_neg hne2]
         have ea:advS (decide (mode=0)) w0 cs'=1:=by unfold advS;simp only [hkf,hk0,if_true]
         rw [HLR.out,e]
         conv=>lhs;unfold cntR
         rw [dif_neg (by rw [htw];omega),ea]
         by_cases hd:cs'.drop 1=[]
         ·rw [if_pos ⟨by rw [hkf];exact hk0,hd⟩,if_pos hd]
         ·rw [if_neg (fun h=>hd h.2),if_neg hd])
        clear hSW hme hfin hne2 htw hkf hk0 HJN hw1 hc2' hc0
        go_upto_region 20 with (first|(go_at_call 77;((with_reducible refine HWD.out.mono ?_);rintro e1' w3 ⟨rfl,hb3⟩;have hz3:=hb3.size))|(go_at_call 79;((with_reducible refine(HFT.out _ hb3).mono ?_);rintro e2' w4 ⟨rfl,hb4⟩;have hz4:=hb4.size)))
        have hB5:Below wr.heap.size wr w4:=hb3.trans (hb4.mono hz3)
        have hcell4:w4.cell? ⟨g',o',none⟩=some (.string (mkS c0.1)):=(hB5.cell (p:=⟨g',o',none⟩) hg9).trans hcell0
        have hn0I:(0:Int)<(n':Int):=by omega
        have hn0N:0<n':=by omega
        have hg4:g'<w4.heap.size:=Nat.lt_of_lt_of_le hg9 hB5.size
        have hg4':¬ w4.heap.size=g':=by omega
        have hg4'':¬ g'=w4.heap.size:=by omega
        have HB5:=zH hB5
        have S0:SW w4 w4:=Below.refl _ _
        clear hcell0
        go_cut [15] (LineCut w4)
        case first=>
         go_region_held3 (fun w'=>w'.cell? ⟨g',o',none⟩=some (.string (mkS c0.1))∧SW w4 w')
          ((refine and_cell hcell4 hg4 ?_;(try refine Below.drew ?_);(first|assumption|(refine SW.set4 (by assumption) ?_ _ _ _ _;first|exact Nat.le_refl _|omega)|(refine SW.alloc' ?_ _;assumption)|(refine SW.set' ?_ ?_ _;assumption;(simp;omega))|(refine Below.drew ?_;assumption))))
          (first|(go_at_call 80;((with_reducible refine(HREP.out _).mono ?_);rintro e5' w7 ⟨rfl,rfl⟩)))
         all_goals
          go_wp2_with fail
          go_meet
          refine⟨_,⟨#[32]⟩,mkS c0.1,w0,rfl,?_,?_,?_,?_,?_,?_,?_,(by first|assumption|exact Below.drew (SW.alloc' S0 _)|exact SW.alloc' S0 _|exact SW.alloc' (Below.drew S0) _)⟩
          ·first|exact Nat.le_refl _|omega
          ·first|omega|(simp;done)|(simp;omega)
          ·go_simp
          ·go_simp
          ·go_simp
          ·go_simp
          ·go_simp
        case rest=>
         obtain⟨Bx,t1,t2,q,rfl,hX1,hX2,k0,k1,k2,k3,kf2,hbX⟩:=hcut
         have HBX:=zH hbX
         have hwx:wr.heap.size≤Bx:=Nat.le_trans HB5.out.size hX1
         have hwz:wr.heap.size≤wc.heap.size:=Nat.le_trans HB5.out.size hbX.size
         have HROW:Hid (wc.ownsRow w2.heap.size 109 4 u7 m ys):=zH (orow_belowSize (orow_belowSize HY.out HB5.out) hbX)
         have HBW:Hid (Below w2.heap.size w2 wc):=zH ((HB3.out.trans (HB5.out.mono HB3.out.size)).trans (hbX.mono (Nat.le_trans HB3.out.size HB5.out.size)))
         have hw2x:w2.heap.size≤Bx:=Nat.le_trans HB3.out.size hwx
         have hw2c:w2.heap.size≤wc.heap.size:=HBW.out.size
         have HRS2:Hid ((wc.setCell ⟨Bx,2,none⟩ (.int .i8 e)).ownsRow w2.heap.size 109 4 u7 m ys):=zH (ownsRow_setCell_other HROW.out (a:=⟨Bx,2,none⟩) (fun e=>by have h9:Bx<wr.heap.size:=(World.ownsRow.lt HY.out _ e).2;omega) _)
         have HOX:Hid (∀ x ∈ cs'.drop 1,okC x∧x.1.length≤64):=zH fun x hx=>HO'.out x (List.mem_of_mem_drop hx)
         have hn1:(1:Int)≤(n':Int):=by omega
         have hc1:(1:Int)≤(c':Int):=by omega
         clear hbX hb3 hb4 hB5 S0 hcell4
         by_cases hn':n'=1
         ·have hdr:cs'.drop 1=[]:=List.drop_eq_nil_of_le (by rw [HS'.out.1];omega)
          have HNX:Hid (m+1=linesN mode w0 (rs.take (k+1))):=zH (by have h1:=HM'.out;rw [HCN.out,if_pos hdr] at h1;exact h1)
          have hm1:m+1≤4000001:=by have h3:=HNB.out;have h4:=HNX.out;omega
          have hnI:(n':Int)=1:=by omega
          clear hdr
          by_cases hcc:c'=1
          ·skip
           go_wp2_with ((with_reducible apply wpList_append_new elL (B:=w2.heap.size) (n:=m) (xs:=ys) (nw:=#[.string t1,.int .i64 q,.int .i8 e,.string t2]));exact rfl;exact rfl;(first|exact rfl|simp);exact HRS2.out;(simp;omega);omega;exact rfl;(intro u hu;simp at hu;rcases hu with rfl|rfl|rfl|rfl<;>rfl);intro v' w9 hrow9 hgr9 hpl9 K hK;have HR9:=zH hrow9;clear hrow9)
           go_roundw
           case rel=>
            refine⟨m+1,_,HR9,zH (((HBW.out.setCell (p:=⟨Bx,2,none⟩) hw2x _).alloc (by simp;omega) _).grown hgr9 (by simp;omega) (fun k e=>(World.ownsRow.lt HY.out k e).1)),by omega,.inr ⟨rfl,HNX.out⟩⟩
           case measure=>(simp [lenSl])<;>omega
          ·skip
           go_wp2_with ((with_reducible apply wpList_append_new elL (B:=w2.heap.size) (n:=m) (xs:=ys) (nw:=#[.string t1,.int .i64 q,.int .i8 e,.string t2]));exact rfl;exact rfl;(first|exact rfl|simp);exact HRS2.out;(simp;omega);omega;exact rfl;(intro u hu;simp at hu;rcases hu with rfl|rfl|rfl|rfl<;>rfl);intro v' w9 hrow9 hgr9 hpl9 K hK;have HR9:=zH hrow9;clear hrow9)
           go_roundw
           case rel=>
            refine⟨m+1,_,HR9,zH (((HBW.out.setCell (p:=⟨Bx,2,none⟩) hw2x _).alloc (by simp;omega) _).grown hgr9 (by simp;omega) (fun k e=>(World.ownsRow.lt HY.out k e).1)),by omega,.inr ⟨rfl,HNX.out⟩⟩
           case measure=>(simp [lenSl])<;>omega
         ·have hdr:¬ cs'.drop 1=[]:=fun h=>by have h5:=congrArg List.length h;rw [List.length_drop,HS'.out.1] at h5;simp at h5;omega
          have HNX:Hid (m+1+lineR mode w0 (cs'.drop 1)=linesN mode w0 (rs.take (k+1))):=zH (by have h1:=HM'.out;rw [HCN.out,if_neg hdr] at h1;omega)
          have hm1:m+1≤4000001:=by have h3:=HNB.out;have h4:=HNX.out;omega
          have HSX:Hid (SeeC w2 (some ⟨g',o'+1*2,none⟩) (n' - 1) (cs'.drop 1)):=zH (by
           have h1:=HS'.out.cut (c:=c') hnc (k:=1) (m:=n' - 1) (by omega)
           rw [if_neg (by omega),Option.map_some,addr_add,List.take_of_length_le (by rw [List.length_drop,HS'.out.1];exact Nat.le_refl _)] at h1
           exact h1)
          have hcc':¬ 1=c':=by omega
          have hnI:((n':Int) - 1 == 0)=false:=by simp;omega
          clear hdr
          go_wp2_with ((with_reducible apply wpList_append_new elL (B:=w2.heap.size) (n:=m) (xs:=ys) (nw:=#[.string t1,.int .i64 q,.int .i8 3,.string t2]));exact rfl;exact rfl;(first|exact rfl|simp);exact HROW.out;exact hw2c;omega;exact rfl;(intro u hu;simp at hu;rcases hu with rfl|rfl|rfl|rfl<;>rfl);intro v' w9 hrow9 hgr9 hpl9 K hK;have HR9:=zH hrow9;clear hrow9)
          go_roundw
          case rel=>
           refine⟨m+1,_,HR9,zH ((HBW.out.alloc hw2c _).grown hgr9 (by simp;omega) (fun k e=>(World.ownsRow.lt HY.out k e).1)),by omega,.inl ⟨rfl,_,_,_,cs'.drop 1,rfl,by omega,zH (by have:=HC'.out;omega),by omega,zH (HSX.out),HNX,HOX⟩⟩
          case measure=>(simp [lenSl])<;>omega
       ·have hk0I:((kf:Int) == 0)=false:=by simp;omega
        obtain⟨fx,nn,gone,hidx,efx,hwc,hng,hg1,hnk⟩:∃ fx nn gone:Nat,(∀ W,(Instr.index 114 (.agg #[.func (.func 117) #[] #[],.func (.func 118) #[] #[]]) (.int .i8 mode)).run Tryz.prog W=.ok (.func (.func fx) #[] #[]) W)∧(∀ args W,(callFunc fx args).run Tryz.prog W=.ok (.enter fx args) W)∧
          (∀ W,Below wr.heap.size wr W→Calls Tryz.prog fx #[.slice (some ⟨g',o',none⟩) n' c',.int .i64 kf] W (VRet (.tuple #[.int .i64 nn,.int .i64 gone]) W))∧nn+gone=advS (decide (mode=0)) w0 cs'∧gone≤1∧nn≤kf:=by
         rcases hme with rfl|rfl
         ·cases hlB:lastB cs' (kf+1) with
          |some j=>
           refine⟨117,j,1,fun W=>by kernel_rfl,fun _ _=>rfl,fun W hb=>?_,?_,by omega,by have:=(lastB_some hlB).1;omega⟩
           ·have:=ways1_any (some ⟨g',o',none⟩) c' n' kf cs' W (hSW.below hb) (by omega) hkn fun x hx=>(HO'.out x hx).1.2
            unfold wayV at this;rw [hlB] at this;exact this
           ·unfold advS;simp only [hkf,if_neg hk0,decide_true,if_true,hlB]
          |none=>
           refine⟨117,kf,0,fun W=>by kernel_rfl,fun _ _=>rfl,fun W hb=>?_,?_,by omega,by omega⟩
           ·have:=ways1_any (some ⟨g',o',none⟩) c' n' kf cs' W (hSW.below hb) (by omega) hkn fun x hx=>(HO'.out x hx).1.2
            unfold wayV at this;rw [hlB] at this;exact this
           ·unfold advS;simp only [hkf,if_neg hk0,decide_true,if_true,hlB];omega
         ·refine⟨118,kf,0,fun W=>by kernel_rfl,fun _ _=>rfl,fun W hb=>ways2_any (some ⟨g',o',none⟩) c' n' kf W,?_,by omega,by omega⟩
          unfold advS;simp [hkf,if_neg hk0]
        have HWC:=zH hwc
        have hadv:=advS_pos (decide (mode=0)) w0 cs'
        have HCN:Hid (lineR mode w0 cs'=1+lineR mode w0 (cs'.drop (nn+gone))):=zH (by
         have e:lineR mode w0 (cs'.drop (nn+gone))=cntR (decide (mode=0)) w0 (cs'.drop (nn+gone)):=by unfold lineR;rw [if_neg hne2]
         rw [HLR.out,e]
         conv=>lhs;unfold cntR
         rw [dif_neg (by rw [htw];omega),if_neg (by rw [hkf];exact fun h=>hk0 h.1),hng])
        have hng1:1≤nn+gone:=by rw [hng];exact hadv
        have HSn:=zH (hSW.take (k:=nn) (by omega))
        have HJ2:Hid (∀ W,Below wr.heap.size wr W→Calls Tryz.prog 78 #[.slice (some ⟨g',o',none⟩) nn c'] W (VBel (.string (mkS (joinB (cs'.take nn)))) W)):=zH fun W hb=>join_any (some ⟨g',o',none⟩) c' nn _ W (HSn.out.below hb) (by omega) fun x hx=>(HO'.out x (List.mem_of_mem_take hx)).2
        have HW2:Hid (∀ W,Below wr.heap.size wr W→Calls Tryz.prog 77 #[.slice (some ⟨g',o',none⟩) nn c'] W (VBel (.int .i64 (wideS (cs'.take nn))) W)):=zH fun W hb=>wide_any (some ⟨g',o',none⟩) c' nn _ W (HSn.out.below hb) (by omega) fun x hx=>(HO'.out x (List.mem_of_mem_take hx)).1.1
        clear hSW hwc hadv hng hme hfin hne2 htw hkf hk0 HJN
        go_upto_region 26 with (first|(go_at_call 77;((with_reducible refine HWD.out.mono ?_);rintro e1' w3 ⟨rfl,hb3⟩;have hz3:=hb3.size))|(go_at_call 79;((with_reducible refine(HFT.out _ hb3).mono ?_);rintro e2' w4 ⟨rfl,hb4⟩;have hz4:=hb4.size))|(go_at_call 81;((with_reducible refine(ways_any _).mono ?_);rintro e3' w5 ⟨rfl,hb5⟩;have hz5:=hb5.size))|((with_reducible refine(HWC.out _ (hb3.trans ((hb4.mono hz3).trans (hb5.mono (Nat.le_trans hz3 hz4))))).mono ?_);rintro e4' w6 ⟨rfl,rfl⟩))
        have hB5:Below wr.heap.size wr w6:=hb3.trans ((hb4.mono hz3).trans (hb5.mono (Nat.le_trans hz3 hz4)))
        have HB5:=zH hB5
        have S0:SW w6 w6:=Below.refl _ _
        have hnc2:nn≤c':=by omega
        have hnc3:(nn:Int)≤(c':Int):=by omega
        have hnc4:(0:Int)≤(nn:Int):=by omega
        go_cut [18] (LineCut w6)
        case first=>
         go_region_held3 (fun w'=>SW w6 w')
          (((try refine Below.drew ?_);(first|assumption|(refine SW.set4 (by assumption) ?_ _ _ _ _;first|exact Nat.le_refl _|omega)|(refine SW.below ?_ hb7;assumption)|(refine SW.below ?_ hb8;assumption)|(refine SW.alloc' ?_ _;assumption)|(refine SW.alloc' (SW.below ?_ hb8) _;assumption)|(refine SW.alloc' (SW.below ?_ hb7) _;assumption)|(refine SW.alloc' (SW.below (SW.below ?_ hb7) hb8) _;assumption)|(refine SW.alloc' (SW.below (SW.below ?_ hb8) hb7) _;assumption)|(refine SW.set' ?_ ?_ _;assumption;(simp;omega))|(refine Below.drew ?_;assumption))))
          (first|(go_at_call 78;((with_reducible refine(HJ2.out _ (HB5.out.trans ((by assumption:SW w6 _).mono HB5.out.size))).mono ?_);rintro e5' w7 ⟨rfl,hb7⟩;have hS7:SW w6 w7:=SW.below (by assumption) hb7;have hs7:=hS7.size;obtain⟨hc7,hf7⟩:=bcell hb7;have hz7:=hb7.size;(try simp at hz7);(try have hl7:w6.heap.size<w7.heap.size:=(by have h9:=hb7.size;simp at h9;omega))))|(go_at_call 77;((with_reducible refine(HW2.out _ (HB5.out.trans ((by assumption:SW w6 _).mono HB5.out.size))).mono ?_);rintro e6' w8 ⟨rfl,hb8⟩;have hS8:SW w6 w8:=SW.below (by assumption) hb8;have hs8:=hS8.size;obtain⟨hc8,hf8⟩:=bcell hb8;have hz8:=hb8.size;(try simp at hz8);(try have hl8:w6.heap.size<w8.heap.size:=(by have h9:=hb8.size;simp at h9;omega)))))
         all_goals
          go_wp2_with fail
          go_meet
          refine⟨_,mkS (joinB (cs'.take nn)),⟨#[]⟩,wideS (cs'.take nn),rfl,?_,?_,?_,?_,?_,?_,?_,(by assumption)⟩
          ·first|exact Nat.le_refl _|omega
          ·first|omega|(simp;done)|(simp;omega)
          ·go_simp
          ·go_simp
          ·go_simp
          ·go_simp
          ·go_simp
        case rest=>
         obtain⟨Bx,t1,t2,q,rfl,hX1,hX2,k0,k1,k2,k3,kf2,hbX⟩:=hcut
         have HBX:=zH hbX
         have hwx:wr.heap.size≤Bx:=Nat.le_trans HB5.out.size hX1
         have hwz:wr.heap.size≤wc.heap.size:=Nat.le_trans HB5.out.size hbX.size
         have HROW:Hid (wc.ownsRow w2.heap.size 109 4 u7 m ys):=zH (orow_belowSize (orow_belowSize HY.out HB5.out) hbX)
         have hm1:m+1≤4000001:=by have h1:=HM'.out;have h3:=HNB.out;rw [HCN.out] at h1;omega
         have hkk:nn+gone≤n':=by omega
         have HNX:Hid (m+1+lineR mode w0 (cs'.drop (nn+gone))=linesN mode w0 (rs.take (k+1))):=zH (by have h1:=HM'.out;rw [HCN.out] at h1;omega)
         have HOX:Hid (∀ x ∈ cs'.drop (nn+gone),okC x∧x.1.length≤64):=zH fun x hx=>HO'.out x (List.mem_of_mem_drop hx)
         have HBW:Hid (Below w2.heap.size w2 wc):=zH ((HB3.out.trans (HB5.out.mono HB3.out.size)).trans (hbX.mono (Nat.le_trans HB3.out.size HB5.out.size)))
         have hw2x:w2.heap.size≤Bx:=Nat.le_trans HB3.out.size hwx
         have hw2c:w2.heap.size≤wc.heap.size:=HBW.out.size
         have HRS2:Hid ((wc.setCell ⟨Bx,2,none⟩ (.int .i8 2)).ownsRow w2.heap.size 109 4 u7 m ys):=zH (ownsRow_setCell_other HROW.out (a:=⟨Bx,2,none⟩) (fun e=>by have h9:Bx<wr.heap.size:=(World.ownsRow.lt HY.out _ e).2;omega) _)
         clear hbX hb3 hb4 hb5 hB5 S0
         by_cases hcc:c'=nn+gone
         ·have HSX:Hid (∀ (A:Option Addr) (x:Nat),x=0→SeeC w2 A x (cs'.drop (nn+gone))):=zH (by
           rintro A x rfl
           exact⟨by rw [List.length_drop,HS'.out.1];omega,fun h=>absurd h (Nat.lt_irrefl 0)⟩)
          by_cases hg0:gone=0
          ·exfalso;omega
          ·have hgI:(0:Int)<(gone:Int):=by omega
           clear hg0
           go_wp2_with ((with_reducible apply wpList_append_new elL (B:=w2.heap.size) (n:=m) (xs:=ys) (nw:=#[.string t1,.int .i64 q,.int .i8 2,.string t2]));exact rfl;exact rfl;(first|exact rfl|simp);exact HRS2.out;(simp;omega);omega;exact rfl;(intro u hu;simp at hu;rcases hu with rfl|rfl|rfl|rfl<;>rfl);intro v' w9 hrow9 hgr9 hpl9 K hK;have HR9:=zH hrow9;clear hrow9)
           go_roundw
           case rel=>
            refine⟨m+1,_,HR9,zH (((HBW.out.setCell (p:=⟨Bx,2,none⟩) hw2x _).alloc (by simp;omega) _).grown hgr9 (by simp;omega) (fun k e=>(World.ownsRow.lt HY.out k e).1)),by omega,.inl ⟨rfl,_,_,_,cs'.drop (nn+gone),rfl,by omega,zH (by have:=HC'.out;omega),by omega,zH (HSX.out _ _ (by omega)),HNX,HOX⟩⟩
           case measure=>(simp [lenSl])<;>omega
         ·have hcc':¬ nn+gone=c':=fun h=>hcc h.symm
          have HSX:Hid (SeeC w2 (some ⟨g',o'+(nn+gone)*2,none⟩) (n' - (nn+gone)) (cs'.drop (nn+gone))):=zH (by
           have h1:=HS'.out.cut (c:=c') hnc (k:=nn+gone) (m:=n' - (nn+gone)) (by omega)
           rw [if_neg hcc,Option.map_some,addr_add,List.take_of_length_le (by rw [List.length_drop,HS'.out.1];exact Nat.le_refl _)] at h1
           exact h1)
          by_cases hg0:gone=0
          ·have hgI:¬ (0:Int)<(gone:Int):=by omega
           clear hg0
           go_wp2_with ((with_reducible apply wpList_append_new elL (B:=w2.heap.size) (n:=m) (xs:=ys) (nw:=#[.string t1,.int .i64 q,.int .i8 3,.string t2]));exact rfl;exact rfl;(first|exact rfl|simp);exact HROW.out;exact hw2c;omega;exact rfl;(intro u hu;simp at hu;rcases hu with rfl|rfl|rfl|rfl<;>rfl);intro v' w9 hrow9 hgr9 hpl9 K hK;have HR9:=zH hrow9;clear hrow9)
           go_roundw
           case rel=>
            refine⟨m+1,_,HR9,zH ((HBW.out.alloc hw2c _).grown hgr9 (by simp;omega) (fun k e=>(World.ownsRow.lt HY.out k e).1)),by omega,.inl ⟨rfl,_,_,_,cs'.drop (nn+gone),rfl,by omega,zH (by have:=HC'.out;omega),by omega,zH (HSX.out),HNX,HOX⟩⟩
           case measure=>(simp [lenSl])<;>omega
          ·have hgI:(0:Int)<(gone:Int):=by omega
           clear hg0
           go_wp2_with ((with_reducible apply wpList_append_new elL (B:=w2.heap.size) (n:=m) (xs:=ys) (nw:=#[.string t1,.int .i64 q,.int .i8 2,.string t2]));exact rfl;exact rfl;(first|exact rfl|simp);exact HRS2.out;(simp;omega);omega;exact rfl;(intro u hu;simp at hu;rcases hu with rfl|rfl|rfl|rfl<;>rfl);intro v' w9 hrow9 hgr9 hpl9 K hK;have HR9:=zH hrow9;clear hrow9)
           go_roundw
           case rel=>
            refine⟨m+1,_,HR9,zH (((HBW.out.setCell (p:=⟨Bx,2,none⟩) hw2x _).alloc (by simp;omega) _).grown hgr9 (by simp;omega) (fun k e=>(World.ownsRow.lt HY.out k e).1)),by omega,.inl ⟨rfl,_,_,_,cs'.drop (nn+gone),rfl,by omega,zH (by have:=HC'.out;omega),by omega,zH (HSX.out),HNX,HOX⟩⟩
           case measure=>(simp [lenSl])<;>omega
     ·go_wp2
      go_roundw
      case rel=>exact⟨k+1,ys,by go_num,by rw [HNN.out];omega,HY,HB3⟩
      case measure=>simp [intOf];omega
  ·obtain rfl:k=N:=by omega
   have HT:Hid (rs.take k=rs):=zH (List.take_of_length_le (by rw [HNN.out];exact Nat.le_refl _))
   have HR':=HR
   rw [HT.out] at HR'
   clear HR
   go_wp2
   go_ret
   refine⟨_,xs,rfl,(HB1.out.trans (HB2.out.mono HB1.out.size)).trans (HBE.out.mono (Nat.le_trans HB1.out.size HB2.out.size)),?_⟩
   rw [HRSS.out]
   exact orow_le HR'.out (Nat.le_trans HB1.out.size HB2.out.size)
end Go.Proofs.YtlenbcmgjancmaaGreatDoor
namespace Go.Proofs.YtlenbcmgjancmaaGreatDoor
open Go.RowKit
set_option maxRecDepth 100000 in
theorem lines_zero (s:ByteArray) (x mode:Int) (hx:x<1) (w:World):Calls Tryz.prog 27 #[.string s,.int .i64 x,.int .i8 mode] w (VRet (.slice none 0 0) w):=by
 go_enter Tryz.func27,Tryz.ntmps27
 go_wp2
 go_ret
 exact⟨rfl,rfl⟩
set_option maxRecDepth 100000 in
theorem count_zero (s:ByteArray) (x mode:Int) (hx:x<1) (w:World):Calls Tryz.prog 13 #[.string s,.int .i64 x,.int .i8 mode] w (VRet (.int .i64 0) w):=by
 have HL:=zH (lines_zero s x mode hx w)
 go_enter Tryz.func13,Tryz.ntmps13
 go_wp2_with (go_at_call 27;((with_reducible refine HL.out.mono ?_);rintro e w1 ⟨rfl,rfl⟩))
 go_ret
 exact⟨rfl,rfl⟩
set_option maxRecDepth 100000 in
theorem count_any (s:ByteArray) (w0:Nat) (mode:Int) (hm:mode=0∨mode=1∨mode=2) (h1:1≤w0) (h2:w0≤1000000) (hs:s.size≤1000000) (w:World) :
  Calls Tryz.prog 13 #[.string s,.int .i64 w0,.int .i8 mode] w (VBel (.int .i64 (linesN mode w0 (rowsS (flowS s.data.toList)))) w):=by
 obtain⟨n,hn⟩:∃ n,linesN mode w0 (rowsS (flowS s.data.toList))=n:=⟨_,rfl⟩
 have HL:=zH (lines_any s w0 mode hm h1 h2 hs w)
 rw [hn] at HL ⊢
 clear hn hm
 go_enter Tryz.func13,Tryz.ntmps13
 go_wp2_with (go_at_call 27;((with_reducible refine HL.out.mono ?_);rintro e w1 ⟨v,xs,rfl,hb1,hrow⟩;obtain⟨A,c,rfl,hc1,hc2,hA⟩:=slice_form2 hrow;clear hA hrow))
 go_ret
 exact⟨rfl,hb1⟩
set_option maxRecDepth 100000 in
theorem most_any (s:ByteArray) (hs:s.size≤10000000) (w:World):Calls Tryz.prog 15 #[.string s] w (VBel (.int .i64 (leastS 2 (flowS s.data.toList))) w):=by
 obtain⟨n,hn⟩:∃ n,leastS 2 (flowS s.data.toList)=n:=⟨_,rfl⟩
 have HL:=zH (least_any s 2 hs w)
 rw [hn] at HL ⊢
 clear hn
 go_enter Tryz.func15,Tryz.ntmps15
 go_wp2_with (go_at_call 14;((with_reducible refine HL.out.mono ?_);rintro e w1 ⟨rfl,hb1⟩))
 go_ret
 exact⟨rfl,hb1⟩
end Go.Proofs.YtlenbcmgjancmaaGreatDoor
namespace Go.Proofs.YtlenbcmgjancmaaGreatDoor
open Go.RowKit
set_option maxRecDepth 100000 in
theorem from_any (a b:Int) (w:World):Calls Tryz.prog 92 #[.int .i64 a,.int .i64 b] w (VRet (.bool (decide (0≤a) && decide (a≤b))) w):=by
 by_cases h:0≤a
 ·by_cases h2:a≤b
  ·have e1:decide (0≤a)=true:=by simp [h]
   have e2:decide (a≤b)=true:=by simp [h2]
   go_enter Tryz.func92,Tryz.ntmps92
   go_wp2
   go_ret
   first|exact⟨rfl,rfl⟩|exact⟨by simp [h,h2],rfl⟩
  ·have e1:decide (0≤a)=true:=by simp [h]
   have e2:decide (a≤b)=false:=by simp [h2]
   go_enter Tryz.func92,Tryz.ntmps92
   go_wp2
   go_ret
   first|exact⟨rfl,rfl⟩|exact⟨by simp [h,h2],rfl⟩
 ·have e1:decide (0≤a)=false:=by simp [h]
  go_enter Tryz.func92,Tryz.ntmps92
  go_wp2
  go_ret
  first|exact⟨rfl,rfl⟩|exact⟨by simp [h],rfl⟩
end Go.Proofs.YtlenbcmgjancmaaGreatDoor
namespace Go.Proofs.YtlenbcmgjancmaaGreatDoor
open Go.RowKit
def RightP (k n d mn mx:Int):Prop :=
 0≤mn∧mn≤4096∧(mx=0∨(mn≤mx∧1≤mx∧mx≤4096))∧((k=0∧n=0∧d=0)∨(k=1∧0≤n∧n≤4096∧d=0)∨(k=2∧0≤n∧n≤1000∧1≤d∧d≤1000)∨(k=3∧1≤n∧n≤1000∧d=0))
instance (k n d mn mx:Int):Decidable (RightP k n d mn mx):=by unfold RightP;infer_instance
set_option maxRecDepth 100000 in
set_option maxHeartbeats 4000000 in
theorem right_any (k n d mn mx:Int) (w:World):Calls Tryz.prog 91 #[.agg #[.int .i8 k,.int .i64 n,.int .i64 d,.int .i64 mn,.int .i64 mx]] w (VBel (.bool (decide (RightP k n d mn mx))) w):=by
 generalize hr:decide (RightP k n d mn mx)=r
 have HR:=zH hr
 clear hr
 go_enter Tryz.func91,Tryz.ntmps91
 go_wp2
 all_goals
  go_ret
  refine⟨?_,?_⟩
  ·have:=HR.out
   subst this
   refine congrArg (fun b=>Ending.returned (Value.bool b)) ?_
   simp only [beq_iff_eq,Bool.not_eq_true,beq_eq_false_iff_ne,bne_eq_false_iff_eq,bne_iff_ne,ne_eq] at *
   rw [Bool.eq_iff_iff]
   simp only [decide_eq_true_eq,beq_iff_eq,Bool.false_eq_true,true_iff,false_iff,iff_true,iff_false]
   (try unfold RightP)
   try omega
  ·go_split_ands
   (repeat (first|exact Below.refl _ _|assumption|refine below_drewN ?_ _|refine Below.drew ?_|(refine Below.alloc ?_ ?bs _;(case bs=>first|omega|(simp;done)|(simp;omega)))|(refine Below.setCell ?_ ?bs _;(case bs=>first|omega|(simp;done)|(simp;omega)))))
def LeafP (k:Int):Prop:=k<2∨6<k
instance (k:Int):Decidable (LeafP k):=by unfold LeafP;infer_instance
set_option maxRecDepth 100000 in
theorem leaf_any (k:Int) (w:World):Calls Tryz.prog 32 #[.int .i8 k] w (VRet (.bool (decide (LeafP k))) w):=by
 generalize hr:decide (LeafP k)=r
 have HR:=zH hr
 clear hr
 go_enter Tryz.func32,Tryz.ntmps32
 go_wp2
 all_goals
  go_ret
  refine⟨?_,rfl⟩
  have:=HR.out
  subst this
  refine congrArg (fun b=>Ending.returned (Value.bool b)) ?_
  simp only [beq_iff_eq,Bool.not_eq_true,beq_eq_false_iff_ne,bne_eq_false_iff_eq,bne_iff_ne,ne_eq] at *
  rw [Bool.eq_iff_iff]
  simp only [decide_eq_true_eq,beq_iff_eq,Bool.false_eq_true,true_iff,false_iff,iff_true,iff_false]
  (try unfold LeafP)
  try omega
def TintP (c:Int):Prop:=c=0∨c=1∨(16777216≤c∧c<33554432)∨(256≤c∧c<512)
instance (c:Int):Decidable (TintP c):=by unfold TintP;infer_instance
set_option maxRecDepth 100000 in
theorem tint_any (c:Int) (w:World):Calls Tryz.prog 93 #[.int .i32 c] w (VRet (.bool (decide (TintP c))) w):=by
 generalize hr:decide (TintP c)=r
 have HR:=zH hr
 clear hr
 go_enter Tryz.func93,Tryz.ntmps93
 go_wp2
 all_goals
  go_ret
  refine⟨?_,rfl⟩
  have:=HR.out
  subst this
  refine congrArg (fun b=>Ending.returned (Value.bool b)) ?_
  simp only [beq_iff_eq,Bool.not_eq_true,beq_eq_false_iff_ne,bne_eq_false_iff_eq,bne_iff_ne,ne_eq] at *
  rw [Bool.eq_iff_iff]
  simp only [decide_eq_true_eq,beq_iff_eq,Bool.false_eq_true,true_iff,false_iff,iff_true,iff_false]
  (try unfold TintP)
  try omega
end Go.Proofs.YtlenbcmgjancmaaGreatDoor
namespace Go.Proofs.YtlenbcmgjancmaaGreatDoor
open Go.RowKit
structure NodeAt (w:World) (g o:Nat) (kd:Int) (kids:Value) (gap p0 p1 p2 p3 bd md:Int) (t:ByteArray):Prop where
 kd:w.cell? ⟨g,o,none⟩=some (.int .i8 kd)
 id:w.cell? ⟨g,o+1,none⟩=some (.string ⟨#[]⟩)
 cl:w.cell? ⟨g,o+2,none⟩=some (.string ⟨#[]⟩)
 kids:w.cell? ⟨g,o+3,none⟩=some kids
 w0:w.cell? ⟨g,o+4,none⟩=some (.int .i8 0)
 w1:w.cell? ⟨g,o+5,none⟩=some (.int .i64 0)
 w2:w.cell? ⟨g,o+6,none⟩=some (.int .i64 0)
 w3:w.cell? ⟨g,o+7,none⟩=some (.int .i64 0)
 w4:w.cell? ⟨g,o+8,none⟩=some (.int .i64 0)
 h0:w.cell? ⟨g,o+9,none⟩=some (.int .i8 0)
 h1:w.cell? ⟨g,o+10,none⟩=some (.int .i64 0)
 h2:w.cell? ⟨g,o+11,none⟩=some (.int .i64 0)
 h3:w.cell? ⟨g,o+12,none⟩=some (.int .i64 0)
 h4:w.cell? ⟨g,o+13,none⟩=some (.int .i64 0)
 gap:w.cell? ⟨g,o+14,none⟩=some (.int .i64 gap)
 p0:w.cell? ⟨g,o+15,none⟩=some (.int .i64 p0)
 p1:w.cell? ⟨g,o+16,none⟩=some (.int .i64 p1)
 p2:w.cell? ⟨g,o+17,none⟩=some (.int .i64 p2)
 p3:w.cell? ⟨g,o+18,none⟩=some (.int .i64 p3)
 bd:w.cell? ⟨g,o+19,none⟩=some (.int .i8 bd)
 al:w.cell? ⟨g,o+20,none⟩=some (.int .i8 0)
 cr:w.cell? ⟨g,o+21,none⟩=some (.int .i8 0)
 tx:w.cell? ⟨g,o+22,none⟩=some (.string t)
 md:w.cell? ⟨g,o+23,none⟩=some (.int .i8 md)
 fg:w.cell? ⟨g,o+24,none⟩=some (.int .i32 0)
 bg:w.cell? ⟨g,o+25,none⟩=some (.int .i32 0)
 ad:w.cell? ⟨g,o+26,none⟩=some (.int .u8 0)
 dr:w.cell? ⟨g,o+27,none⟩=some (.int .u8 0)
 cols:w.cell? ⟨g,o+28,none⟩=some (.slice none 0 0)
 x0:w.cell? ⟨g,o+29,none⟩=some (.int .i64 0)
 x1:w.cell? ⟨g,o+30,none⟩=some (.int .i64 0)
 x2:w.cell? ⟨g,o+31,none⟩=some (.int .i64 0)
 x3:w.cell? ⟨g,o+32,none⟩=some (.int .i64 0)
 fl:w.cell? ⟨g,o+33,none⟩=some (.int .u8 0)
theorem NodeAt.below {w w':World} {g o B:Nat} {kd:Int} {kids:Value} {gap p0 p1 p2 p3 bd md:Int} {t:ByteArray} (h:NodeAt w g o kd kids gap p0 p1 p2 p3 bd md t) (hb:Below B w w') (hg:g<B):NodeAt w' g o kd kids gap p0 p1 p2 p3 bd md t:=by
 have e:∀ (q:Nat),w'.cell? ⟨g,q,none⟩=w.cell? ⟨g,q,none⟩:=fun q=>hb.cell (p:=⟨g,q,none⟩) hg
 obtain⟨a1,a2,a3,a4,a5,a6,a7,a8,a9,a10,a11,a12,a13,a14,a15,a16,a17,a18,a19,a20,a21,a22,a23,a24,a25,a26,a27,a28,a29,a30,a31,a32,a33,a34⟩:=h
 constructor<;>(rw [e];assumption)
structure NodeIn (w:World) (g o:Nat) (kd:Int) (kids:Value) (gap p0 p1 p2 p3 bd md:Int) (t:ByteArray):Prop where
 kd:w.cell? ⟨g,o,none⟩=some (.int .i8 kd)
 kids:w.cell? ⟨g,o+3,none⟩=some kids
 w0:w.cell? ⟨g,o+4,none⟩=some (.int .i8 0)
 w1:w.cell? ⟨g,o+5,none⟩=some (.int .i64 0)
 w2:w.cell? ⟨g,o+6,none⟩=some (.int .i64 0)
 w3:w.cell? ⟨g,o+7,none⟩=some (.int .i64 0)
 w4:w.cell? ⟨g,o+8,none⟩=some (.int .i64 0)
 h0:w.cell? ⟨g,o+9,none⟩=some (.int .i8 0)
 h1:w.cell? ⟨g,o+10,none⟩=some (.int .i64 0)
 h2:w.cell? ⟨g,o+11,none⟩=some (.int .i64 0)
 h3:w.cell? ⟨g,o+12,none⟩=some (.int .i64 0)
 h4:w.cell? ⟨g,o+13,none⟩=some (.int .i64 0)
 gap:w.cell? ⟨g,o+14,none⟩=some (.int .i64 gap)
 p0:w.cell? ⟨g,o+15,none⟩=some (.int .i64 p0)
 p1:w.cell? ⟨g,o+16,none⟩=some (.int .i64 p1)
 p2:w.cell? ⟨g,o+17,none⟩=some (.int .i64 p2)
 p3:w.cell? ⟨g,o+18,none⟩=some (.int .i64 p3)
 bd:w.cell? ⟨g,o+19,none⟩=some (.int .i8 bd)
 tx:w.cell? ⟨g,o+22,none⟩=some (.string t)
 md:w.cell? ⟨g,o+23,none⟩=some (.int .i8 md)
theorem NodeIn.of_eq {w w':World} {g o:Nat} {kd:Int} {kids:Value} {gap p0 p1 p2 p3 bd md:Int} {t:ByteArray} (h:NodeIn w g o kd kids gap p0 p1 p2 p3 bd md t) (e:∀ (q:Nat),w'.cell? ⟨g,q,none⟩=w.cell? ⟨g,q,none⟩):NodeIn w' g o kd kids gap p0 p1 p2 p3 bd md t:=by
 obtain⟨a1,a2,a3,a4,a5,a6,a7,a8,a9,a10,a11,a12,a13,a14,a15,a16,a17,a18,a19,a20⟩:=h
 constructor<;>(rw [e];assumption)
theorem NodeIn.below {w w':World} {g o B:Nat} {kd:Int} {kids:Value} {gap p0 p1 p2 p3 bd md:Int} {t:ByteArray} (h:NodeIn w g o kd kids gap p0 p1 p2 p3 bd md t) (hb:Below B w w') (hg:g<B):NodeIn w' g o kd kids gap p0 p1 p2 p3 bd md t :=
 h.of_eq fun q=>hb.cell (p:=⟨g,q,none⟩) hg
theorem NodeIn.lt {w:World} {g o:Nat} {kd:Int} {kids:Value} {gap p0 p1 p2 p3 bd md:Int} {t:ByteArray} (h:NodeIn w g o kd kids gap p0 p1 p2 p3 bd md t):g<w.heap.size:=World.block_lt_of_cell? w ⟨g,o,none⟩ h.kd
theorem NodeIn.grown {w w':World} {g o:Nat} {row:Option Nat} {kd:Int} {kids:Value} {gap p0 p1 p2 p3 bd md:Int} {t:ByteArray} (h:NodeIn w g o kd kids gap p0 p1 p2 p3 bd md t) (hg:w.grownBy w' row) (hne:some g ≠ row):NodeIn w' g o kd kids gap p0 p1 p2 p3 bd md t :=
 h.of_eq fun q=>World.cell?_of_block (a:=⟨g,q,none⟩) (hg.block g h.lt hne)
end Go.Proofs.YtlenbcmgjancmaaGreatDoor
namespace Go.Proofs.YtlenbcmgjancmaaGreatDoor
open Go.RowKit
end Go.Proofs.YtlenbcmgjancmaaGreatDoor
namespace Go.Proofs.YtlenbcmgjancmaaGreatDoor
open Go.RowKit
structure Itm where
 k:Int
 n:Int
 d:Int
 mn:Int
 mx:Int
instance:Inhabited Itm:=⟨⟨0,0,0,0,0⟩⟩
def Itm.val (i:Itm):Value:=.agg #[.int .i8 i.k,.int .i64 i.n,.int .i64 i.d,.int .i64 i.mn,.int .i64 i.mx]
def Itm.ok (i:Itm):Prop:=RightP i.k i.n i.d i.mn i.mx
instance (i:Itm):Decidable i.ok:=by unfold Itm.ok;infer_instance
structure ND where
 kd:Int
 id:ByteArray
 cl:ByteArray
 kids:List Int
 wd:Itm
 ht:Itm
 gap:Int
 p0:Int
 p1:Int
 p2:Int
 p3:Int
 bd:Int
 al:Int
 cr:Int
 tx:ByteArray
 md:Int
 fg:Int
 bg:Int
 ad:Int
 dr:Int
 cols:List Itm
 x0:Int
 x1:Int
 x2:Int
 x3:Int
 fl:Int
structure ItmAt (w:World) (g o:Nat) (i:Itm):Prop where
 k:w.cell? ⟨g,o,none⟩=some (.int .i8 i.k)
 n:w.cell? ⟨g,o+1,none⟩=some (.int .i64 i.n)
 d:w.cell? ⟨g,o+2,none⟩=some (.int .i64 i.d)
 mn:w.cell? ⟨g,o+3,none⟩=some (.int .i64 i.mn)
 mx:w.cell? ⟨g,o+4,none⟩=some (.int .i64 i.mx)
theorem ItmAt.of_eq {w w':World} {g o:Nat} {i:Itm} (h:ItmAt w g o i) (e:∀ (q:Nat),w'.cell? ⟨g,q,none⟩=w.cell? ⟨g,q,none⟩):ItmAt w' g o i:=by
 obtain⟨a1,a2,a3,a4,a5⟩:=h
 constructor<;>(rw [e];assumption)
theorem ItmAt.below {w w':World} {g o B:Nat} {i:Itm} (h:ItmAt w g o i) (hb:Below B w w') (hg:g<B):ItmAt w' g o i:=h.of_eq fun q=>hb.cell (p:=⟨g,q,none⟩) hg
def SlI (w:World) (v:Value) (l:List Int):Prop :=
 ∃ p c,v=.slice p l.length c∧l.length≤17592186044416∧∀ i x,l[i]?=some x→∃ g o,p=some ⟨g,o,none⟩∧g<w.heap.size∧w.cell? ⟨g,o+i,none⟩=some (.int .i64 x)
def SlT (w:World) (v:Value) (l:List Itm):Prop :=
 ∃ p c,v=.slice p l.length c∧l.length≤4398046511104∧∀ i x,l[i]?=some x→∃ g o,p=some ⟨g,o,none⟩∧g<w.heap.size∧ItmAt w g (o+i*5) x
theorem SlI.below {w w':World} {v:Value} {l:List Int} (h:SlI w v l) (hb:Below w.heap.size w w'):SlI w' v l:=by
 obtain⟨p,c,rfl,hl,hx⟩:=h
 refine⟨p,c,rfl,hl,fun i x hi=>?_⟩
 obtain⟨g,o,e,hg,hc⟩:=hx i x hi
 exact⟨g,o,e,Nat.lt_of_lt_of_le hg hb.size,by rw [hb.cell (p:=⟨g,o+i,none⟩) hg];exact hc⟩
theorem SlT.below {w w':World} {v:Value} {l:List Itm} (h:SlT w v l) (hb:Below w.heap.size w w'):SlT w' v l:=by
 obtain⟨p,c,rfl,hl,hx⟩:=h
 refine⟨p,c,rfl,hl,fun i x hi=>?_⟩
 obtain⟨g,o,e,hg,hc⟩:=hx i x hi
 exact⟨g,o,e,Nat.lt_of_lt_of_le hg hb.size,hc.below hb hg⟩
structure NodeV (w:World) (g o:Nat) (x:ND) (kv cv:Value):Prop where
 kd:w.cell? ⟨g,o,none⟩=some (.int .i8 x.kd)
 id:w.cell? ⟨g,o+1,none⟩=some (.string x.id)
 cl:w.cell? ⟨g,o+2,none⟩=some (.string x.cl)
 kids:w.cell? ⟨g,o+3,none⟩=some kv
 w0:w.cell? ⟨g,o+4,none⟩=some (.int .i8 x.wd.k)
 w1:w.cell? ⟨g,o+5,none⟩=some (.int .i64 x.wd.n)
 w2:w.cell? ⟨g,o+6,none⟩=some (.int .i64 x.wd.d)
 w3:w.cell? ⟨g,o+7,none⟩=some (.int .i64 x.wd.mn)
 w4:w.cell? ⟨g,o+8,none⟩=some (.int .i64 x.wd.mx)
 h0:w.cell? ⟨g,o+9,none⟩=some (.int .i8 x.ht.k)
 h1:w.cell? ⟨g,o+10,none⟩=some (.int .i64 x.ht.n)
 h2:w.cell? ⟨g,o+11,none⟩=some (.int .i64 x.ht.d)
 h3:w.cell? ⟨g,o+12,none⟩=some (.int .i64 x.ht.mn)
 h4:w.cell? ⟨g,o+13,none⟩=some (.int .i64 x.ht.mx)
 gap:w.cell? ⟨g,o+14,none⟩=some (.int .i64 x.gap)
 p0:w.cell? ⟨g,o+15,none⟩=some (.int .i64 x.p0)
 p1:w.cell? ⟨g,o+16,none⟩=some (.int .i64 x.p1)
 p2:w.cell? ⟨g,o+17,none⟩=some (.int .i64 x.p2)
 p3:w.cell? ⟨g,o+18,none⟩=some (.int .i64 x.p3)
 bd:w.cell? ⟨g,o+19,none⟩=some (.int .i8 x.bd)
 al:w.cell? ⟨g,o+20,none⟩=some (.int .i8 x.al)
 cr:w.cell? ⟨g,o+21,none⟩=some (.int .i8 x.cr)
 tx:w.cell? ⟨g,o+22,none⟩=some (.string x.tx)
 md:w.cell? ⟨g,o+23,none⟩=some (.int .i8 x.md)
 fg:w.cell? ⟨g,o+24,none⟩=some (.int .i32 x.fg)
 bg:w.cell? ⟨g,o+25,none⟩=some (.int .i32 x.bg)
 ad:w.cell? ⟨g,o+26,none⟩=some (.int .u8 x.ad)
 dr:w.cell? ⟨g,o+27,none⟩=some (.int .u8 x.dr)
 cols:w.cell? ⟨g,o+28,none⟩=some cv
 x0:w.cell? ⟨g,o+29,none⟩=some (.int .i64 x.x0)
 x1:w.cell? ⟨g,o+30,none⟩=some (.int .i64 x.x1)
 x2:w.cell? ⟨g,o+31,none⟩=some (.int .i64 x.x2)
 x3:w.cell? ⟨g,o+32,none⟩=some (.int .i64 x.x3)
 fl:w.cell? ⟨g,o+33,none⟩=some (.int .u8 x.fl)
theorem NodeV.of_eq {w w':World} {g o:Nat} {x:ND} {kv cv:Value} (h:NodeV w g o x kv cv) (e:∀ (q:Nat),w'.cell? ⟨g,q,none⟩=w.cell? ⟨g,q,none⟩):NodeV w' g o x kv cv:=by
 obtain⟨a1,a2,a3,a4,a5,a6,a7,a8,a9,a10,a11,a12,a13,a14,a15,a16,a17,a18,a19,a20,a21,a22,a23,a24,a25,a26,a27,a28,a29,a30,a31,a32,a33,a34⟩:=h
 constructor<;>(rw [e];assumption)
theorem NodeV.below {w w':World} {g o B:Nat} {x:ND} {kv cv:Value} (h:NodeV w g o x kv cv) (hb:Below B w w') (hg:g<B):NodeV w' g o x kv cv :=
 h.of_eq fun q=>hb.cell (p:=⟨g,q,none⟩) hg
theorem NodeV.lt {w:World} {g o:Nat} {x:ND} {kv cv:Value} (h:NodeV w g o x kv cv):g<w.heap.size:=World.block_lt_of_cell? w ⟨g,o,none⟩ h.kd
def ColsP (kd:Int) (n:Int):Prop:=(kd=4∧0<n∧n≤64)∨(kd=8∧n≤64)∨(kd ≠ 4∧kd ≠ 8∧n=0)
instance (kd n:Int):Decidable (ColsP kd n):=by unfold ColsP;infer_instance
def ItemsP (x:ND):Prop:=x.wd.ok∧x.ht.ok∧(∀ i ∈ x.cols,i.ok)∧ColsP x.kd x.cols.length
instance (x:ND):Decidable (ItemsP x):=by unfold ItemsP;infer_instance
theorem forall_getElem {l:List Itm} (h:∀ j i,j<l.length→l[j]?=some i→i.ok):∀ i ∈ l,i.ok:=fun i hi=>by
 obtain⟨j,hj,e⟩:=List.mem_iff_getElem.1 hi
 exact h j i hj (by rw [List.getElem?_eq_getElem hj,e])
set_option maxRecDepth 100000 in
set_option maxHeartbeats 4000000 in
theorem items_gen (w:World) (g o:Nat) (x:ND) (kv cv:Value) (h:NodeV w g o x kv cv) (hT:SlT w cv x.cols) (hg:g<w.heap.size) :
  Calls Tryz.prog 33 #[.pointer (some ⟨g,o,none⟩)] w (VBel (.bool (decide (ItemsP x))) w):=by
 have HN:=zH h
 have HT:=zH hT
 obtain⟨p,c,rfl,hl,_⟩:=hT
 obtain⟨a1,a2,a3,a4,a5,a6,a7,a8,a9,a10,a11,a12,a13,a14,a15,a16,a17,a18,a19,a20,a21,a22,a23,a24,a25,a26,a27,a28,a29,a30,a31,a32,a33,a34⟩:=h
 clear a2 a3 a4 a15 a16 a17 a18 a19 a20 a21 a22 a23 a24 a25 a26 a27 a28 a30 a31 a32 a33 a34
 by_cases h1:x.wd.ok
 ·by_cases h2:x.ht.ok
  ·have e1:decide (RightP x.wd.k x.wd.n x.wd.d x.wd.mn x.wd.mx)=true:=decide_eq_true h1
   have e2:decide (RightP x.ht.k x.ht.n x.ht.d x.ht.mn x.ht.mx)=true:=decide_eq_true h2
   have R1:∀ W,Calls Tryz.prog 91 #[.agg #[.int .i8 x.wd.k,.int .i64 x.wd.n,.int .i64 x.wd.d,.int .i64 x.wd.mn,.int .i64 x.wd.mx]] W (VBel (.bool true) W):=fun W=>e1 ▸ right_any _ _ _ _ _ W
   have R2:∀ W,Calls Tryz.prog 91 #[.agg #[.int .i8 x.ht.k,.int .i64 x.ht.n,.int .i64 x.ht.d,.int .i64 x.ht.mn,.int .i64 x.ht.mx]] W (VBel (.bool true) W):=fun W=>e2 ▸ right_any _ _ _ _ _ W
   have H1:=zH h1
   have H2:=zH h2
   have HR1:=zH R1
   have HR2:=zH R2
   clear h1 h2 e1 e2 R1 R2
   go_enter Tryz.func33,Tryz.ntmps33
   go_wp2_with (go_at_call 91;((with_reducible first|refine(HR1.out _).mono ?_|refine(HR2.out _).mono ?_);rintro e1' w2 ⟨rfl,hb2⟩;obtain⟨hc2,hf2⟩:=bcell hb2;have hz2:=hb2.size;have hg2:g<w2.heap.size:=(by omega)))
   go_loopw [24] (fun i wr=>∃ a:Nat,i=.int .i64 a∧a≤x.cols.length∧Below w.heap.size w wr∧(∀ j i,j<a→x.cols[j]?=some i→i.ok)) (fun i _=>x.cols.length - (intOf i).toNat)
   case atStart=>exact⟨0,rfl,by omega,by first|assumption|exact Below.trans (by assumption) (hb2.mono (by omega)),fun j i hj=>by omega⟩
   case round=>
    obtain⟨a,rfl,hle,hB,hall⟩:=hrel
    have HB:=zH hB
    have HA:=zH hall
    clear hall
    obtain⟨b1,b2',b3,b4,b5,b6,b7,b8,b9,b10,b11,b12,b13,b14,b15,b16,b17,b18,b19,b20,b21,b22,b23,b24,b25,b26,b27,b28,b29,b30,b31,b32,b33,b34⟩:=HN.out.below hB hg
    clear b2' b3 b4 b5 b6 b7 b8 b9 b10 b11 b12 b13 b14 b15 b16 b17 b18 b19 b20 b21 b22 b23 b24 b25 b26 b27 b28 b30 b31 b32 b33 b34
    have hz:=hB.size
    clear hB
    by_cases hlt:a<x.cols.length
    ·obtain⟨p',c',hv,_,hx⟩:=HT.out
     obtain⟨rfl,-,rfl⟩:p=p'∧True∧c=c':=by simpa using hv
     clear hv
     obtain⟨gc,oc,rfl,hgc,hit⟩:=hx a _ (List.getElem?_eq_getElem hlt)
     clear hx
     obtain⟨k1,k2,k3,k4,k5⟩:=hit.below HB.out hgc
     have hgr:gc<wr.heap.size:=Nat.lt_of_lt_of_le hgc hz
     have hltI:(a:Int)<(x.cols.length:Int):=by omega
     have RR:∀ W,Calls Tryz.prog 91 #[.agg #[.int .i8 (x.cols[a]).k,.int .i64 (x.cols[a]).n,.int .i64 (x.cols[a]).d,.int .i64 (x.cols[a]).mn,.int .i64 (x.cols[a]).mx]] W (VBel (.bool (decide ((x.cols[a]).ok))) W):=fun W=>right_any _ _ _ _ _ W
     by_cases ho:(x.cols[a]).ok
     ·simp only [ho,decide_true] at RR
      have HRR:=zH RR
      have HO:=zH ho
      clear ho RR
      go_wp2_with (go_at_call 91;((with_reducible refine(HRR.out _).mono ?_);rintro e1' w3 ⟨rfl,hb3⟩))
      go_roundw
      case rel=>
       refine⟨a+1,by go_num,by omega,HB.out.trans (Below.trans (by(repeat (first|exact Below.refl _ _|assumption|refine below_drewN ?_ _|refine Below.drew ?_|(refine Below.alloc ?_ ?bs _;(case bs=>first|omega|(simp;done)|(simp;omega)))|(refine Below.setCell ?_ ?bs _;(case bs=>first|omega|(simp;done)|(simp;omega)))))) (hb3.mono (by first|omega|(simp;omega)))),fun j i hj hi=>?_⟩
       rcases Nat.lt_or_ge j a with h|h
       ·exact HA.out j i h hi
       ·obtain rfl:j=a:=by omega
        rw [List.getElem?_eq_getElem hlt] at hi
        obtain rfl:=Option.some.inj hi
        exact HO.out
      case measure=>simp [intOf];omega
     ·simp only [ho,decide_false] at RR
      have HRR:=zH RR
      have HO:=zH ho
      clear ho RR
      go_wp2_with (go_at_call 91;((with_reducible refine(HRR.out _).mono ?_);rintro e1' w3 ⟨rfl,hb3⟩))
      go_ret
      refine⟨?_,HB.out.trans (Below.trans (by(repeat (first|exact Below.refl _ _|assumption|refine below_drewN ?_ _|refine Below.drew ?_|(refine Below.alloc ?_ ?bs _;(case bs=>first|omega|(simp;done)|(simp;omega)))|(refine Below.setCell ?_ ?bs _;(case bs=>first|omega|(simp;done)|(simp;omega)))))) (hb3.mono (by first|omega|(simp;omega))))⟩
      rw [decide_eq_false fun (h:ItemsP x)=>HO.out (h.2.2.1 _ (List.getElem_mem hlt))];rfl
    ·have hlt':¬ (a:Int)<(x.cols.length:Int):=by omega
     have ha:a=x.cols.length:=by omega
     subst ha
     have hall:∀ i ∈ x.cols,i.ok:=forall_getElem fun j i hj hi=>HA.out j i hj hi
     have HI:Hid (decide (ItemsP x)=decide (ColsP x.kd x.cols.length)):=zH (by
      apply decide_eq_decide.2
      exact⟨fun h=>h.2.2.2,fun h=>⟨H1.out,H2.out,hall,h⟩⟩)
     clear hall HA
     go_wp2
     all_goals
      go_ret
      refine⟨?_,HB.out.trans (by(repeat (first|exact Below.refl _ _|assumption|refine below_drewN ?_ _|refine Below.drew ?_|(refine Below.alloc ?_ ?bs _;(case bs=>first|omega|(simp;done)|(simp;omega)))|(refine Below.setCell ?_ ?bs _;(case bs=>first|omega|(simp;done)|(simp;omega))))))⟩
      rw [HI.out]
      clear HI
      refine congrArg (fun b=>Ending.returned (Value.bool b)) ?_
      simp only [beq_iff_eq,Bool.not_eq_true,beq_eq_false_iff_ne,bne_eq_false_iff_eq,bne_iff_ne,ne_eq] at *
      rw [Bool.eq_iff_iff]
      simp only [decide_eq_true_eq,beq_iff_eq,Bool.false_eq_true,true_iff,false_iff,iff_true,iff_false]
      (try unfold ColsP)
      try omega
  ·have e1:decide (RightP x.wd.k x.wd.n x.wd.d x.wd.mn x.wd.mx)=true:=decide_eq_true h1
   have e2:decide (RightP x.ht.k x.ht.n x.ht.d x.ht.mn x.ht.mx)=false:=decide_eq_false h2
   have R1:∀ W,Calls Tryz.prog 91 #[.agg #[.int .i8 x.wd.k,.int .i64 x.wd.n,.int .i64 x.wd.d,.int .i64 x.wd.mn,.int .i64 x.wd.mx]] W (VBel (.bool true) W):=fun W=>e1 ▸ right_any _ _ _ _ _ W
   have R2:∀ W,Calls Tryz.prog 91 #[.agg #[.int .i8 x.ht.k,.int .i64 x.ht.n,.int .i64 x.ht.d,.int .i64 x.ht.mn,.int .i64 x.ht.mx]] W (VBel (.bool false) W):=fun W=>e2 ▸ right_any _ _ _ _ _ W
   have HR1:=zH R1
   have HR2:=zH R2
   have HI:=zH (decide_eq_false fun (h:ItemsP x)=>h2 h.2.1)
   clear h1 h2 e1 e2 R1 R2
   go_enter Tryz.func33,Tryz.ntmps33
   go_wp2_with (go_at_call 91;((with_reducible first|refine(HR1.out _).mono ?_|refine(HR2.out _).mono ?_);rintro e1' w2 ⟨rfl,hb2⟩;obtain⟨hc2,hf2⟩:=bcell hb2;have hz2:=hb2.size;have hg2:g<w2.heap.size:=(by omega)))
   go_ret
   exact⟨by rw [HI.out];rfl,Below.trans (by assumption) (hb2.mono (by omega))⟩
 ·have e1:decide (RightP x.wd.k x.wd.n x.wd.d x.wd.mn x.wd.mx)=false:=decide_eq_false h1
  have R1:∀ W,Calls Tryz.prog 91 #[.agg #[.int .i8 x.wd.k,.int .i64 x.wd.n,.int .i64 x.wd.d,.int .i64 x.wd.mn,.int .i64 x.wd.mx]] W (VBel (.bool false) W):=fun W=>e1 ▸ right_any _ _ _ _ _ W
  have HR1:=zH R1
  have HI:=zH (decide_eq_false fun (h:ItemsP x)=>h1 h.1)
  clear h1 e1 R1
  go_enter Tryz.func33,Tryz.ntmps33
  go_wp2_with (go_at_call 91;((with_reducible refine(HR1.out _).mono ?_);rintro e1' w2 ⟨rfl,hb2⟩;obtain⟨hc2,hf2⟩:=bcell hb2;have hz2:=hb2.size;have hg2:g<w2.heap.size:=(by omega)))
  go_ret
  exact⟨by rw [HI.out];rfl,hb2⟩
end Go.Proofs.YtlenbcmgjancmaaGreatDoor
