import Derived.Test.YtlenbcmgjancmaaGreatDoorMn37
import Derived.Test.YtlenbcmgjancmaaGreatDoorMn39
import Derived.Test.YtlenbcmgjancmaaGreatDoorMn38
set_option linter.unusedVariables false
set_option linter.unusedSimpArgs false
namespace Go.Proofs.YtlenbcmgjancmaaGreatDoor
open Go.RowKit Go.Maps
theorem elTx:ElOK 101 9 1 16 (.string ⟨#[]⟩):=⟨Tryz.underlying101,by kernel_rfl,rfl,by decide,by decide⟩
def StL (W:World) (b n:Nat):Prop:=∃ L:List ByteArray,Arr W b (L.map Value.string) 9∧L.length=n∧∀ s ∈ L,s.size≤600000
theorem StL.lt {W:World} {b n:Nat} (h:StL W b n):b<W.heap.size:=h.elim fun _ h=>h.1.lt
theorem StL.froz {W:World} {b n:Nat} (h:StL W b n) (j:Nat):W.frozen? ⟨b,j,none⟩=false:=h.elim fun _ h=>h.1.froz j
theorem StL.cell {W:World} {b n:Nat} (h:StL W b n) {j:Nat} (hj:j<n):∃ s:ByteArray,W.cell? ⟨b,j,none⟩=some (.string s):=by
 obtain⟨L,h1,rfl,_⟩:=h
 exact⟨L[j],h1.cell (by rw [List.getElem?_map,List.getElem?_eq_getElem hj];rfl)⟩
theorem StL.put {W:World} {b n:Nat} (h:StL W b n) (j:Nat) {s:ByteArray} (hs:s.size≤600000):StL (W.setCell ⟨b,j,none⟩ (.string s)) b n:=by
 obtain⟨L,h1,h2,h3⟩:=h
 refine⟨L.set j s,?_,by rw [List.length_set];exact h2,fun x hx=>?_⟩
 ·rw [List.map_set];exact h1.set j (.string s)
 ·rcases List.mem_or_eq_of_mem_set hx with hx|rfl
  ·exact h3 x hx
  ·exact hs
theorem StL.below {W W':World} {b n:Nat} (h:StL W b n) (hb:Below W.heap.size W W'):StL W' b n:=h.elim fun L h=>⟨L,h.1.below hb,h.2⟩
theorem StL.grown {W W':World} {b n:Nat} {row:Option Nat} (h:StL W b n) (hg:W.grownBy W' row) (hne:some b ≠ row):StL W' b n:=h.elim fun L h=>⟨L,h.1.grown hg hne,h.2⟩
theorem StL.made (W:World) (n:Nat):StL (W.alloc (.cells (madeCells #[.string ⟨#[]⟩] n) 9)) W.heap.size n :=
 ⟨List.replicate n ⟨#[]⟩,by rw [List.map_replicate];exact Arr.made W n _ _,List.length_replicate,fun s hs=>by rw [List.eq_of_mem_replicate hs];exact Nat.zero_le _⟩
theorem lens_le {L:List ByteArray} (h:∀ s ∈ L,s.size≤600000):Lib.lens (L.map (·.data.toList))≤600000*L.length:=by
 induction L with
 |nil=>exact Nat.zero_le _
 |cons x L ih=>
  have h1:=h x (by simp)
  have h2:=ih fun s hs=>h s (by simp [hs])
  have h4:x.data.toList.length=x.size:=by simp
  have h5:Lib.lens ((x :: L).map (·.data.toList))=x.data.toList.length+Lib.lens (L.map (·.data.toList)):=by simp [Lib.lens]
  rw [h5,List.length_cons]
  omega
theorem join_out {W:World} {b n:Nat} (h:StL W b n) (hn:n≤64) (sep:ByteArray) (hs:sep.size≤4):Calls Tryz.prog 110 #[.slice (some ⟨b,0,none⟩) n n,.string sep] W (Txt 140737488355328 W):=by
 obtain⟨L,h1,rfl,h3⟩:=h
 cases L with
 |nil=>exact(Tryz.strings_Join_none _ _ sep W).mono fun e w' ⟨h1,h2⟩=>⟨_,h1,by decide,by rw [h2];exact Below.refl _ _⟩
 |cons x L=>
  have hl:=lens_le h3
  have hlen:(Lib.join ((x :: L).map (·.data.toList)) sep.data.toList).length≤140737488355328:=by
   rw [List.map_cons,Lib.join_length]
   have h5:sep.data.toList.length≤4:=by simpa using hs
   have h6:sep.data.toList.length*(L.map (·.data.toList)).length≤4*64:=Nat.mul_le_mul h5 (by rw [List.length_map];simp only [List.length_cons] at hn;omega)
   simp only [List.map_cons,List.length_cons] at hl hn
   omega
  exact(Tryz.strings_Join b 0 (x :: L).length (x :: L) sep W (fun j y hj=>by rw [Nat.zero_add];exact h1.cell (by rw [List.getElem?_map,hj];rfl)) h1.lt (by omega) (Nat.le_refl _) hlen).mono fun e w' ⟨h1,h2⟩=>⟨_,h1,by simpa [ByteArray.size] using hlen,h2⟩
theorem repeat_txt (s:ByteArray) (hs:s.size≤4) (n:Nat) (hn:n≤4096) (w:World):Calls Tryz.prog 80 #[.string s,.int .i64 n] w (Txt 16384 w):=by
 rcases Nat.lt_or_ge n 2 with h2|h2
 ·rcases (show n=0∨n=1 by omega) with rfl|rfl
  ·exact(Tryz.strings_Repeat_zero _ w).mono fun e w' ⟨h1,h2⟩=>⟨_,h1,by decide,by rw [h2];exact Below.refl _ _⟩
  ·exact(Tryz.strings_Repeat_one _ w).mono fun e w' ⟨h1,h2⟩=>⟨_,h1,by omega,by rw [h2];exact Below.refl _ _⟩
 ·rcases Nat.eq_zero_or_pos s.size with h0|h0
  ·exact(Tryz.strings_Repeat_empty s n w h2 (by omega) h0).mono fun e w' ⟨h1,h2⟩=>⟨_,h1,by decide,by rw [h2];exact Below.refl _ _⟩
  ·have hm:s.size*n≤4*4096:=Nat.mul_le_mul hs hn
   refine(Tryz.strings_Repeat_main s n w h2 (by omega) (by omega) h0).mono fun e w' ⟨h1,h2⟩=>⟨_,h1,?_,h2⟩
   have:(Lib.repeatL s.data.toList n).length=n*s.data.toList.length:=Lib.repeatL_length _ _
   have h5:s.data.toList.length=s.size:=by simp
   rw [h5,Nat.mul_comm] at this
   have h7:(⟨(Lib.repeatL s.data.toList n).toArray⟩:ByteArray).size=s.size*n:=by rw [← this];exact List.size_toArray
   rw [h7]
   omega
def OutN (k:Nat) (w:World) (e:Ending) (w':World):Prop:=∃ p c,e=.returned (.slice p k c)∧Below w.heap.size w w'
def linesK (rows:Nat) (line:Int) (head:Bool):Nat:=if rows ≠ 0∧head=true∧line ≠ 0 then rows+1 else rows
end Go.Proofs.YtlenbcmgjancmaaGreatDoor
namespace Go.Proofs.YtlenbcmgjancmaaGreatDoor
open Go.RowKit Go.Maps
theorem clone_ints {A:Option Addr} {n c0 b:Nat} {ws:List Int} {w:World} (hu:n=0∧A=none∨A=some ⟨b,0,none⟩∧b<w.heap.size∧ArrI w b ws) (hn:ws.length=n) (hn4:n≤64) :
  Calls Tryz.prog 107 #[.slice A n c0] w (fun e w'=>∃ B c,e=.returned (.slice B n c)∧Below w.heap.size w w'∧w'.ownsRow w.heap.size 3 1 (.slice B n c) n (ivl ws)):=by
 rcases hu with ⟨rfl,rfl⟩|⟨rfl,hb,ha⟩
 ·have:ws=[]:=List.length_eq_zero_iff.1 hn
  subst this
  exact(Tryz.slices_Clone_int_nil 0 c0 w).mono fun e w' ⟨h1,h2⟩=>⟨none,0,h1,by rw [h2];exact Below.refl _ _,World.ownsRow_nil _ _ _ _⟩
 ·refine(Tryz.slices_Clone_int b 0 n c0 ws w (by omega) (by omega) fun j hj=>?_).mono fun e w' ⟨v,h1,h2,_,h3⟩=>?_
  ·rw [Nat.zero_add]
   exact ha.at (by rw [List.getD,List.getElem?_eq_getElem hj];rfl)
  ·rw [List.take_of_length_le (by omega)] at h2
   rcases h2.2 with ⟨rfl,h0⟩|⟨g,cap,cur,rfl,_⟩
   ·exact⟨none,0,by rw [h1,h0],h3,by rw [h0];rw [h0] at h2;exact h2⟩
   ·exact⟨_,cap,h1,h3,h2⟩
structure LnI (W3:World) (lb n:Nat) (ov:Value) (k:Nat) (W:World):Prop where
 g:W3.grownBy W (some lb)
 s:StL W lb n
 r:∃ vs,W.ownsRow W3.heap.size 9 1 ov k vs
section
variable {W3 W W':World} {lb n k:Nat} {ov:Value}
theorem LnI.below (h:LnI W3 lb n ov k W) (hb:Below W.heap.size W W'):LnI W3 lb n ov k W' :=
 ⟨grown_trans h.g (grown_below hb),h.s.below hb,h.r.elim fun vs h=>⟨vs,orow_belowSize h hb⟩⟩
theorem LnI.put (h:LnI W3 lb n ov k W) (hl:lb<W3.heap.size) (j:Nat) {s:ByteArray} (hs:s.size≤600000):LnI W3 lb n ov k (W.setCell ⟨lb,j,none⟩ (.string s)) :=
 ⟨grown_trans h.g (grown_set W lb j _),h.s.put j hs,h.r.elim fun vs h=>⟨vs,ownsRow_setCell_below h hl _⟩⟩
theorem LnI.cell (h:LnI W3 lb n ov k W) {g o:Nat} {v:Value} (hc:W3.cell? ⟨g,o,none⟩=some v) (hne:g ≠ lb):W.cell? ⟨g,o,none⟩=some v :=
 h.g.cell hc (by simpa using hne)
theorem LnI.old (h:LnI W3 lb n ov k W) {w:World} (hb:Below w.heap.size w W3) (hl:w.heap.size≤lb):Below w.heap.size w W :=
 hb.grown h.g hb.size fun k e=>by cases e;exact hl
theorem LnI.app {vs:List Value} {u ov':Value} {cs:Array Value} {e:TypeId} (h:LnI W3 lb n ov k W) (hl:lb<W3.heap.size) (hr:W.ownsRow W3.heap.size 9 1 ov k vs) (hw:W'.ownsRow W3.heap.size 9 1 ov' (k+1) (vs ++ [u])) (hg:(W.alloc (.cells cs e)).grownBy W' ov.ownBlock):LnI W3 lb n ov' (k+1) W':=by
 have hlt:∀ q,ov.ownBlock=some q→W3.heap.size≤q:=fun q e=>(World.ownsRow.lt hr q e).1
 have ha:W3.grownBy (W.alloc (.cells cs e)) (some lb):=grown_trans h.g (World.grownBy_alloc W _ _)
 refine⟨⟨hg.os.trans ha.os,hg.tape.trans ha.tape,hg.output.trans ha.output,Nat.le_trans ha.size hg.size,fun i hi hn=>(hg.block i (Nat.lt_of_lt_of_le hi ha.size) fun e=>?_).trans (ha.block i hi hn)⟩,?_,⟨_,hw⟩⟩
 ·have:=hlt i e.symm
  omega
 ·exact(h.s.grown (World.grownBy_alloc W _ none) (by simp)).grown hg fun e=>by have:=hlt lb e.symm;omega
end
set_option maxRecDepth 100000 in
set_option maxHeartbeats 8000000 in
theorem lines_len (rows:List (List ByteArray)) (ws:List Int) (line:Int) (head:Bool) (w:World) (v:Value) (pu:Option Addr) (b0 wn:Nat) (hv:SlRS w v rows) (hu:wn=0∧pu=none∨pu=some ⟨b0,0,none⟩∧b0<w.heap.size∧ArrI w b0 ws) (hwl:ws.length=wn) (hw4:wn≤64)
  (hrs:∀ r ∈ rows,∀ s ∈ r,s.size≤65536) (hrl:rows.length≤65537) (hl:0≤line∧line≤4) :
  Calls Tryz.prog 73 #[v,.slice pu wn wn,.int .i8 line,.bool head] w (OutN (linesK rows.length line head) w):=by
 obtain⟨pv,cv,rfl,_,hxv⟩:=hv
 have HXV:=zH hxv
 have HRS:=zH hrs
 obtain⟨rn,hrn⟩:∃ rn,rows.length=rn:=⟨_,rfl⟩
 have HRN:=zH hrn
 rw [hrn] at hrl ⊢
 have l1:decide (line<0)=false:=decide_eq_false (by omega)
 have l2:decide (4<line)=false:=decide_eq_false (by omega)
 have m1:min (wn:Int) 64=(wn:Int):=by omega
 have hT:Hid ((w.alloc (.cells #[.int .i8 line] 36)).cell? ⟨w.heap.size,0,none⟩=some (.int .i8 line)):=zH ((show Arr (w.alloc (.cells #[.int .i8 line] 36)) w.heap.size [.int .i8 line] 36 from heap_alloc_new w _).cell (j:=0) rfl)
 have hB1:Hid (Below w.heap.size w (w.alloc (.cells #[.int .i8 line] 36))∧w.heap.size<(w.alloc (.cells #[.int .i8 line] 36)).heap.size):=zH ⟨by(repeat (first|exact Below.refl _ _|assumption|refine below_drewN ?_ _|refine Below.drew ?_|(refine Below.alloc ?_ ?bs _;(case bs=>first|omega|(simp;done)|(simp;omega)))|(refine Below.setCell ?_ ?bs _;(case bs=>first|omega|(simp;done)|(simp;omega))))),by simp⟩
 have HCL:=zH (fun (o:Obj)=>clone_ints (w:=w.alloc o) (c0:=wn) (hu.imp_right fun ⟨h1,h2,h3⟩=>⟨h1,by simp;omega,Arr.alloc h3 o⟩) hwl hw4)
 have HWL:=zH hwl
 clear hxv hrs hrn hu hwl
 go_enter Tryz.func73,Tryz.ntmps73
 go_wp2_with (go_at_call 107;((with_reducible refine(HCL.out _).mono ?_);rintro e1' w2 ⟨B,c,rfl,hb2,hrow2⟩;have HB2:=zH hb2;have HR2:=zH hrow2;clear hb2 hrow2))
 generalize w.alloc (.cells #[.int .i8 line] 36)=w1 at HB2 HR2 hT hB1
 obtain⟨hb1,hz1⟩:=hB1.out
 have HB1:=zH hb1
 clear HCL hb1 hB1
 go_loopw [34] (fun i wr=>∃ (k:Nat) (zs:List Int),i=.int .i64 k∧k≤wn∧zs.length=wn∧Hid (∀ (j:Nat) x,j<k→zs[j]?=some x→0≤x∧x≤4096)∧Hid (wr.ownsRow w1.heap.size 3 1 (.slice B wn c) wn (ivl zs))∧Hid (Below w1.heap.size w1 wr)) (fun i _=>wn - (intOf i).toNat)
 case atStart=>exact⟨0,ws,rfl,by omega,HWL.out,zH fun j x h=>absurd h (Nat.not_lt_zero _),HR2,HB2⟩
 case round=>
  obtain⟨k,zs,rfl,hk,hzl,HZ,HR,HB⟩:=hrel
  have HZL:=zH hzl
  obtain⟨A',c',e',hc1,hc2,hA⟩:=slice_form2 HR.out
  obtain⟨rfl,rfl⟩:B=A'∧c=c':=by simpa using e'
  have HA:=zH hA
  clear hA e' hzl
  by_cases hlt:k<wn
  ·have hltI:(k:Int)<(wn:Int):=by omega
   obtain⟨g,rfl,hgB,hg,hcl⟩:=HA.out (by omega)
   obtain⟨x,hx⟩:∃ x,zs[k]?=some x:=⟨_,List.getElem?_eq_getElem (by rw [HZL.out];exact hlt)⟩
   have c0:wr.cell? ⟨g,k,none⟩=some (.int .i64 x):=hcl k _ (by simp [hx])
   have f0:=HR.out.frozenAt k
   have HX:=zH hx
   clear hcl hx
   go_wp2
   go_roundw
   case rel=>
    refine⟨k+1,zs.set k (min (max x 0) 4096),by first|rfl|go_num,by omega,by rw [List.length_set];exact HZL.out,zH fun j y hj hy=>?_,?_,zH (HB.out.setCell (p:=⟨g,k,none⟩) hgB _)⟩
    ·by_cases e:k=j
     ·subst e
      rw [List.getElem?_set_self (by rw [HZL.out];exact hlt)] at hy
      obtain rfl:=Option.some.inj hy
      omega
     ·rw [List.getElem?_set_ne e] at hy
      exact HZ.out j y (by omega) hy
    ·have:=(HR.out.stored k (.int .i64 (min (max x 0) 4096))).1
     rw [ivl,List.map_set]
     exact zH this
   case measure=>simp [intOf]<;>omega
  ·have hltI:decide ((k:Int)<(wn:Int))=false:=decide_eq_false (by omega)
   obtain rfl:k=wn:=by omega
   have hmk:=mk_strs k (by omega) wr
   have HS0:=zH (StL.made wr k)
   have hzr:=HB.out.size
   go_wp2
   clear hmk
   have HB3:Hid (Below w1.heap.size w1 (wr.alloc (.cells (madeCells #[.string ⟨#[]⟩] k) 9))):=zH (HB.out.alloc HB.out.size _)
   have HW:Hid (∀ j,j<k→∃ (g x:Nat),B=some ⟨g,0,none⟩∧g<wr.heap.size∧(wr.alloc (.cells (madeCells #[.string ⟨#[]⟩] k) 9)).cell? ⟨g,j,none⟩=some (.int .i64 x)∧x≤4096):=zH fun j hj=>by
    obtain⟨g,e,_,hg,hcl⟩:=HA.out (by omega)
    obtain⟨x,hx⟩:∃ x,zs[j]?=some x:=⟨_,List.getElem?_eq_getElem (by rw [HZL.out];exact hj)⟩
    obtain⟨h0,h4⟩:=HZ.out j x hj hx
    obtain⟨y,rfl⟩:∃ y:Nat,x=(y:Int):=⟨x.toNat,by omega⟩
    refine⟨g,y,e,hg,?_,by omega⟩
    rw [World.cell?_alloc_lt _ _ ⟨g,j,none⟩ hg]
    exact hcl j _ (by simp [hx])
   have HLT:Hid (wr.heap.size<(wr.alloc (.cells (madeCells #[.string ⟨#[]⟩] k) 9)).heap.size):=zH (by simp)
   have hT3:=(HB3.out.cell (p:=⟨w.heap.size,0,none⟩) hz1).trans hT.out
   have HT3:=zH hT3
   generalize wr.alloc (.cells (madeCells #[.string ⟨#[]⟩] k) 9)=W3 at HS0 HB3 HW HLT hT3 HT3 ⊢
   have HB03:Hid (Below w.heap.size w W3):=zH (HB1.out.trans (HB3.out.mono HB1.out.size))
   have hlb:w.heap.size<wr.heap.size:=by omega
   clear HB HR HA HZ hT3
   generalize wr.heap.size=lb at HS0 HW HLT hlb hzr ⊢
   have HL0:Hid (LnI W3 lb k (.slice none 0 0) 0 W3):=zH ⟨⟨rfl,rfl,rfl,Nat.le_refl _,fun _ _ _=>rfl⟩,HS0.out,⟨[],World.ownsRow_nil _ _ _ _⟩⟩
   have hlt3:=HLT.out
   go_loopw [11,52] (fun ov0 i wq=>∃ (a kk:Nat) (ov:Value),ov=ov0∧i=.int .i64 a∧a≤rn∧(kk=a∧(a=0∨¬ (head=true∧line ≠ 0))∨kk=a+1∧0<a∧head=true∧line ≠ 0)∧Hid (LnI W3 lb k ov kk wq)) (fun _ i _=>rn - (intOf i).toNat)
   case atStart=>exact⟨0,0,_,rfl,rfl,by omega,.inl ⟨rfl,.inl rfl⟩,HL0⟩
   case round=>
    obtain⟨a,kk,ov,rfl,rfl,ha,hkk,HI⟩:=hrel
    by_cases hlt2:a<rn
    ·have hlt2I:(a:Int)<(rn:Int):=by omega
     obtain⟨r,hr⟩:∃ r,rows[a]?=some r:=⟨_,List.getElem?_eq_getElem (by rw [HRN.out];exact hlt2)⟩
     obtain⟨g,o,u,rfl,hg,hcu,hux⟩:=HXV.out a r hr
     have hbw:=HI.out.old HB03.out (by omega)
     have c1:=(hbw.cell (p:=⟨g,o+a,none⟩) hg).trans hcu
     have hpt:=HI.out.cell HT3.out (by omega)
     have lg:g<wr.heap.size:=Nat.lt_of_lt_of_le hg hbw.size
     have HUX:Hid (∀ W,Below w.heap.size w W→SlX W u r):=zH fun W hb=>hux.below hb
     have HRZ:=zH (HRS.out r (List.mem_of_getElem? hr))
     have hux2:=hux
     obtain⟨pu3,cu3,rfl,_,_⟩:=hux2
     clear hr hcu hbw hux
     go_wp2
     go_loopw [59] (fun i wi=>∃ j:Nat,i=.int .i64 j∧j≤k∧Hid (LnI W3 lb k ov kk wi)) (fun i _=>k - (intOf i).toNat)
     case atStart=>exact⟨0,rfl,by omega,HI⟩
     case round=>
      obtain⟨j,rfl,hj,HJ⟩:=hrel
      by_cases hlt3j:j<k
      ·as_aux_lemma=>
       have hlt3I:(j:Int)<(k:Int):=by omega
       obtain⟨gw,x,rfl,hgw,hcw,hx4⟩:=HW.out j hlt3j
       have c2:=HJ.out.cell hcw (by omega)
       have lgw:gw<wr.heap.size:=by have:=HJ.out.g.size;omega
       have hbi:=HJ.out.old HB03.out (by omega)
       have HFI:=zH (fun W hb=>field_any _ r j W (HUX.out W hb))
       have HBI:=zH hbi
       have hfz:=fieldS_size HRZ.out j
       generalize fieldS r j=fs at HFI hfz
       have HTR:=zH (fun W=>trim_any fs (by omega) x hx4 W)
       have HAL:=zH (fun t (ht:t.size≤600000) W=>align_any t (by omega) x hx4 W)
       have hlw:=HJ.out.g.size
       clear hcw hbi hfz
       go_wp2_with (first|(go_at_call 103;((with_reducible refine(HFI.out _ HBI.out).mono ?_);rintro e1' w6 ⟨rfl,hw6⟩;obtain rfl:=hw6.symm))|(go_at_call 109;((with_reducible refine(HTR.out _).mono ?_);rintro e1' w7 ⟨t7,rfl,ht7,hb7⟩;have HJ7:=zH (HJ.out.below hb7);clear hb7))|(go_at_call 108;((with_reducible refine(HAL.out t7 ht7 _).mono ?_);rintro e1' w8 ⟨t8,rfl,ht8,hb8⟩;have HJ8:=zH (HJ7.out.below hb8);clear hb8;obtain⟨ol,hol⟩:=HJ8.out.s.cell hlt3j;have fol:=HJ8.out.s.froz j;have ll8:=HJ8.out.s.lt)))
       go_roundw
       case rel=>exact⟨j+1,by first|rfl|go_num,by omega,zH (HJ8.out.put HLT.out j (by omega))⟩
       case measure=>simp [intOf]<;>omega
      ·have hlt3I:decide ((j:Int)<(k:Int))=false:=decide_eq_false (by omega)
       obtain rfl:j=k:=by omega
       have hpt:=HJ.out.cell HT3.out (by omega)
       have HSG:=zH (sign_any 1 0 (.inr rfl) (.inl rfl) w.heap.size line hl wr hpt)
       obtain⟨vs,hvs⟩:=HJ.out.r
       have HVS:=zH hvs
       have hkn:kk<1000000000:=by omega
       clear hvs hpt
       go_upto_region 21 with (first|(go_at_call 105;((with_reducible refine HSG.out.mono ?_);rintro e1' w6 ⟨t6,rfl,ht6,hb6⟩;have HJ6:=zH (HJ.out.below hb6);have HVS6:=zH (orow_belowSize HVS.out hb6);clear hb6))|(go_at_call 110;((with_reducible refine(join_out HJ6.out.s hw4 t6 ht6).mono ?_);rintro e1' w7 ⟨t7,rfl,ht7,hb7⟩;have HJ7:=zH (HJ6.out.below hb7);have HVS7:=zH (orow_belowSize HVS6.out hb7);have hz7:=HJ7.out.g.size;clear hb7))|((with_reducible apply wpList_append_new elTx (B:=W3.heap.size) (n:=kk) (xs:=vs) (nw:=#[.string t7]));go_loud (exact rfl);go_loud (exact rfl);go_loud (first|exact rfl|simp);go_loud (exact HVS7.out);go_loud (omega);go_loud (omega);go_loud (exact rfl);go_loud (intro u hu;simp at hu;subst hu;rfl);intro v9 w9 hrow9 hgr9 hpl9 K hK;have HJ9:=zH (HJ7.out.app HLT.out HVS7.out hrow9 hgr9);clear hrow9 hgr9 hpl9))
       have hpt:=HJ9.out.cell HT3.out (by omega)
       clear HJ HJ6 HJ7 HVS HVS6 HVS7 HSG
       go_cut [90] (fun v W=>∃ t:Bool,v=.bool t∧(t=true↔a=0∧head=true∧line ≠ 0)∧LnI W3 lb j v9 (kk+1) W)
       case first=>
        by_cases ha0:a=0
        ·subst ha0
         cases head
         ·go_wp2
          go_meet
          exact⟨false,rfl,by simp,HJ9.out⟩
         ·by_cases hl0:line=0
          ·subst hl0
           go_wp2
           go_meet
           exact⟨false,rfl,by simp,HJ9.out⟩
          ·have hlb:(line == 0)=false:=by simpa using hl0
           have hln:(line != 0)=true:=by simp [hl0]
           go_wp2
           go_meet
           exact⟨true,rfl,by simp [hl0],HJ9.out⟩
        ·have hab:((a:Int) == 0)=false:=by simp;omega
         go_wp2
         go_meet
         exact⟨false,rfl,by simp [ha0],HJ9.out⟩
       case rest=>
       obtain⟨t,rfl,ht,hJ⟩:=hcut
       have HJ:=zH hJ
       clear HJ9 hJ hpt
       cases t
       ·have hno:¬ (a=0∧head=true∧line ≠ 0):=fun h=>by cases ht.2 h
        have hnk:kk+1=a+1∧(a+1=0∨¬ (head=true∧line ≠ 0))∨kk+1=a+1+1∧0<a+1∧head=true∧line ≠ 0:=by
         rcases hkk with ⟨rfl,h⟩|⟨rfl,h0,h1,h2⟩
         ·exact .inl ⟨rfl,.inr fun h3=>h.elim (fun e=>hno ⟨e,h3⟩) fun e=>e h3⟩
         ·exact .inr ⟨rfl,by omega,h1,h2⟩
        go_wp2
        go_roundw
        case rel=>exact⟨a+1,kk+1,_,rfl,by first|rfl|go_num,by omega,hnk,HJ⟩
        case measure=>simp [intOf]<;>omega
       ·obtain⟨ha0,hhd,hln⟩:=ht.1 rfl
        have hk0:kk=0:=by
         rcases hkk with ⟨h,_⟩|⟨_,h0,_⟩
         ·omega
         ·omega
        have HA0:=zH ha0
        have HK0:=zH hk0
        have hkn2:kk+1<1000000000:=by omega
        have HHD:=zH hhd
        have HLA:=zH hlt2
        have hab6:a<1000000:=by omega
        have HLN:=zH hln
        clear hkk hhd hln ht ha hlt2 hlt2I hkn ha0 hk0
        go_wp2
        go_loopw [93] (fun i wi=>∃ q:Nat,i=.int .i64 q∧q≤j∧Hid (LnI W3 lb j v9 (kk+1) wi)) (fun i _=>j - (intOf i).toNat)
        case atStart=>exact⟨0,rfl,by omega,HJ⟩
        case round=>
         obtain⟨q,rfl,hq,HQ⟩:=hrel
         have hlw:=HQ.out.g.size
         have hpt:=HQ.out.cell HT3.out (by omega)
         by_cases hlt4:q<j
         ·as_aux_lemma=>
          have hlt4I:(q:Int)<(j:Int):=by omega
          obtain⟨gw,x,rfl,hgw,hcw,hx4⟩:=HW.out q hlt4
          have c2:=HQ.out.cell hcw (by omega)
          have lgw:gw<wr.heap.size:=by omega
          have HSG:=zH (sign_any 0 1 (.inl rfl) (.inr rfl) w.heap.size line hl wr hpt)
          clear hcw hpt
          go_wp2_with (first|(go_at_call 105;((with_reducible refine HSG.out.mono ?_);rintro e1' w6 ⟨t6,rfl,ht6,hb6⟩;have HJ6:=zH (HQ.out.below hb6);clear hb6))|(go_at_call 80;((with_reducible refine(repeat_txt t6 ht6 x hx4 _).mono ?_);rintro e1' w8 ⟨t8,rfl,ht8,hb8⟩;have HJ8:=zH (HJ6.out.below hb8);clear hb8;obtain⟨ol,hol⟩:=HJ8.out.s.cell hlt4;have fol:=HJ8.out.s.froz q;have ll8:=HJ8.out.s.lt)))
          go_roundw
          case rel=>exact⟨q+1,by first|rfl|go_num,by omega,zH (HJ8.out.put HLT.out q (by omega))⟩
          case measure=>simp [intOf]<;>omega
         ·have hlt4I:decide ((q:Int)<(j:Int))=false:=decide_eq_false (by omega)
          obtain rfl:q=j:=by omega
          have HSG:=zH (sign_any 1 1 (.inr rfl) (.inr rfl) w.heap.size line hl wr hpt)
          obtain⟨vs,hvs⟩:=HQ.out.r
          have HVS:=zH hvs
          clear hvs hpt
          go_wp2_with (first|(go_at_call 105;((with_reducible refine HSG.out.mono ?_);rintro e1' w6 ⟨t6,rfl,ht6,hb6⟩;have HJ6:=zH (HQ.out.below hb6);have HVS6:=zH (orow_belowSize HVS.out hb6);clear hb6))|(go_at_call 110;((with_reducible refine(join_out HJ6.out.s hw4 t6 ht6).mono ?_);rintro e1' w7 ⟨t7,rfl,ht7,hb7⟩;have HJ7:=zH (HJ6.out.below hb7);have HVS7:=zH (orow_belowSize HVS6.out hb7);have hz7:=HJ7.out.g.size;clear hb7))|((with_reducible apply wpList_append_new elTx (B:=W3.heap.size) (n:=kk+1) (xs:=vs) (nw:=#[.string t7]));go_loud (exact rfl);go_loud (exact rfl);go_loud (first|exact rfl|simp);go_loud (exact HVS7.out);go_loud (omega);go_loud (omega);go_loud (exact rfl);go_loud (intro u hu;simp at hu;subst hu;rfl);intro v10 w9 hrow9 hgr9 hpl9 K hK;have HJ9:=zH (HJ7.out.app HLT.out HVS7.out hrow9 hgr9);clear hrow9 hgr9 hpl9))
          go_roundw
          case rel=>exact⟨a+1,kk+1+1,_,rfl,by first|rfl|go_num,HLA.out,.inr ⟨by have:=HA0.out;have:=HK0.out;omega,by omega,HHD.out,HLN.out⟩,HJ9⟩
          case measure=>have hla:=HLA.out;simp [intOf]<;>omega
    ·have hlt2I:decide ((a:Int)<(rn:Int))=false:=decide_eq_false (by omega)
     obtain rfl:a=rn:=by omega
     have HBF:=zH (HI.out.old HB03.out (by omega))
     obtain⟨vs,hvs⟩:=HI.out.r
     have hk2:kk=linesK a line head:=by
      unfold linesK
      rcases hkk with ⟨rfl,h⟩|⟨rfl,h0,h1,h2⟩
      ·rw [if_neg fun h3=>h.elim (fun e=>h3.1 e) fun e=>e h3.2]
      ·rw [if_pos ⟨by omega,h1,h2⟩]
     have hfm:∃ p c,ov=.slice p kk c:=by
      rcases hvs.2 with ⟨h,h0⟩|⟨g,cap,cur,h,_⟩
      ·exact⟨none,0,by rw [h,h0]⟩
      ·exact⟨_,cap,h⟩
     obtain⟨p,c9,rfl⟩:=hfm
     clear hvs
     go_wp2
     go_ret
     exact⟨p,c9,by rw [hk2];rfl,HBF.out⟩
end Go.Proofs.YtlenbcmgjancmaaGreatDoor
namespace Go.Proofs.YtlenbcmgjancmaaGreatDoor
open Go.RowKit Go.Maps
theorem colW_range {cols:List Itm} (h:∀ i ∈ cols,i.ok) (k:Nat):0≤colW cols k∧colW cols k≤4096:=by
 unfold colW colI
 cases e:cols[k]? with
 |none=>decide
 |some c=>
  have hc:=h c (List.mem_of_getElem? e)
  simp only [Option.getD_some]
  refine intoS_hi hc.fitm ?_ (by omega)
  split
  ·rename_i hk
   unfold Itm.ok RightP at hc
   omega
  ·omega
theorem colsT_near {rows:List (List ByteArray)} {cols:List Itm} (h:∀ i ∈ cols,i.ok):(colsT rows cols).length≤64∧∀ x ∈ colsT rows cols,0≤x∧x≤4096:=by
 unfold colsT
 have:=widthsT_near rows cols 4096
 refine⟨by rw [List.length_map,List.length_range];exact this.1,fun x hx=>?_⟩
 obtain⟨k,_,rfl⟩:=List.mem_map.1 hx
 exact colW_range h k
def headB (x:ND):Bool:=bits .and .u8 x.fl 4 != 0
noncomputable def tabF:TabF:=⟨fun x=>sumS (colsT (rowsT x.tx) x.cols) 1,fun x=>sumS (widthsT (rowsT x.tx) (x.cols.map autoI) 4096) 1,fun x _=>linesK (rowsT x.tx).length x.bd (headB x)⟩
set_option maxRecDepth 100000 in
set_option maxHeartbeats 4000000 in
theorem table_least (p:MP) (w:World) (M:MG p w) (n:Nat) (x:ND) (hn:p.ns[n]?=some x) (ht:x.tx.size≤65536) (hc:x.cols.length≤64) (hok:∀ i ∈ x.cols,i.ok) (nv:Int) :
  Calls Tryz.prog 67 #[.pointer (some ⟨p.pm,0,none⟩),.pointer (some ⟨p.g,n*34,none⟩),.int .i64 nv] w (GPost (sumS (colsT (rowsT x.tx) x.cols) 1) p w):=by
 obtain⟨kv,cv,hnd,hkv,hcv⟩:=M.node hn
 have HCO:=zH (columns_any w p.g (n*34) x kv cv hnd hcv (M.lg hn) ht hc)
 have hnr:=colsT_near (rows:=rowsT x.tx) hok
 have HM:=zH (MS.start M)
 generalize colsT (rowsT x.tx) x.cols=L at HCO hnr ⊢
 have HNR:=zH hnr
 clear hnd hkv hcv M hn ht hc hok hnr
 go_enter Tryz.func67,Tryz.ntmps67
 go_wp2_with (first|(go_at_call 68;((with_reducible refine HCO.out.mono ?_);rintro e1' w4 ⟨v4,rfl,hb4,hs4⟩;have HM4:=zH (HM.out.below hb4);have HSM:=zH (sum_near _ L 1 w4 hs4 (by omega) (by have:=HNR.out.1;omega) (fun x hx=>by have:=HNR.out.2 x hx;omega));clear hb4 hs4))|(go_at_call 44;((with_reducible refine HSM.out.mono ?_);rintro e1' w7 ⟨rfl,hw7⟩;obtain rfl:=hw7.symm)))
 go_ret
 exact⟨rfl,HM4.out.gr,HM4.out.mg⟩
abbrev TlS (w:World) (p:MP) (n:Nat) (bd fl:Int) (cv:Value) (W:World):Prop :=
 W.cell? ⟨p.g,n*34+28,none⟩=some cv∧W.cell? ⟨p.g,n*34+19,none⟩=some (.int .i8 bd)∧W.cell? ⟨p.g,n*34+33,none⟩=some (.int .u8 fl)∧MS p w W
theorem TlS.drew {w:World} {p:MP} {n:Nat} {bd fl:Int} {cv:Value} {W:World} (h:TlS w p n bd fl cv W):TlS w p n bd fl cv W.drew:=⟨h.1,h.2.1,h.2.2.1,h.2.2.2.drew⟩
set_option maxRecDepth 100000 in
set_option maxHeartbeats 4000000 in
theorem table_tall (p:MP) (w:World) (M:MG p w) (n:Nat) (x:ND) (hn:p.ns[n]?=some x) (ht:x.tx.size≤65536) (hc:x.cols.length≤64) (hbd:0≤x.bd∧x.bd≤4) (nv iw:Int) (hiw:0≤iw∧iw≤4096) :
  Calls Tryz.prog 72 #[.pointer (some ⟨p.pm,0,none⟩),.pointer (some ⟨p.g,n*34,none⟩),.int .i64 nv,.int .i64 iw] w (GPost (linesK (rowsT x.tx).length x.bd (headB x)) p w):=by
 obtain⟨kv,cv,hnd,hkv,hcv⟩:=M.node hn
 have s1:=hnd.tx
 have s2:=hnd.cols
 have s3:=hnd.bd
 have s4:=hnd.fl
 have s0:MS p w w:=MS.start M
 have lg:=M.lg hn
 have HS1:=zH s2
 have HS2:=zH s3
 have HS3:=zH s4
 have HM0:=zH s0
 have HCV:=zH (fun W (hW:MS p w W)=>hcv.keeps (hW.m0.keeps hW.gr) hW.size)
 have hro:=rowsT_ok ht
 have hnr:=widthsT_near (rowsT x.tx) x.cols iw
 obtain⟨hd,hhd⟩:∃ hd,headB x=hd:=⟨_,rfl⟩
 have hfl:(bits .and .u8 x.fl 4 != 0)=hd:=hhd
 rw [hhd]
 obtain⟨t,htx⟩:∃ t,x.tx=t:=⟨_,rfl⟩
 obtain⟨bd,hbx⟩:∃ bd,x.bd=bd:=⟨_,rfl⟩
 obtain⟨fl,hfx⟩:∃ fl,x.fl=fl:=⟨_,rfl⟩
 have HRW:=zH (tabRows_any x.tx ht w)
 rw [htx] at s1 HRW hro hnr ⊢
 rw [hbx] at s3 HS2 hbd ⊢
 rw [hfx] at s4 HS3 hfl
 generalize x.cols=IL at HCV hnr hc
 generalize rowsT t=RL at HRW hro hnr ⊢
 have HWC:=zH (fun W v u h1 h2=>widths_any RL IL iw W v u h1 h2 hro.1 hro.2 hc hiw)
 generalize widthsT RL IL iw=L at HWC hnr
 obtain⟨wn,hwn⟩:∃ wn,L.length=wn:=⟨_,rfl⟩
 rw [hwn] at hnr
 have hnr1:=hnr.1
 have HLC:=zH (fun W v pu b0 h1 h2=>lines_len RL L bd hd W v pu b0 wn h1 h2 hwn hnr1 hro.1 hro.2 hbd)
 have HWN:=zH hwn
 clear hnd hkv M hn htx hcv ht hc hro hnr hhd hbx hfx hwn
 go_enter Tryz.func72,Tryz.ntmps72
 go_upto_region 2 with (go_at_call 71;((with_reducible refine HRW.out.mono ?_);rintro e1' w4 ⟨v4,rfl,hb4,hs4⟩;have HM4:Hid (MS p w w4):=zH (HM0.out.below hb4);have r1:=HM4.out.cell HS1.out;have r2:=HM4.out.cell HS2.out;have r3:=HM4.out.cell HS3.out;have r4:=HM4.out;have HS4:=zH (hs4.below (Below.drew (Below.refl _ _)));have HD4:Hid (MS p w w4.drew):=zH HM4.out.drew;have HTC:=zH (HWC.out w4.drew v4 cv HS4.out (HCV.out _ HD4.out));clear hb4 hs4))
 clear s1 s2 s3 s4 s0
 go_region_held3 (fun W=>W.cell? ⟨p.g,n*34+28,none⟩=some cv∧W.cell? ⟨p.g,n*34+19,none⟩=some (.int .i8 bd)∧W.cell? ⟨p.g,n*34+33,none⟩=some (.int .u8 fl)∧MS p w W)
  ((first|(refine TlS.drew ?_;(refine⟨?_,?_,?_,?_⟩<;>assumption))|(refine⟨?_,?_,?_,?_⟩<;>assumption)))
  (first|(go_at_call 70;((with_reducible refine HTC.out.mono ?_);rintro e1' w6 h6;obtain⟨v6,rfl,h6⟩:=h6.ret;obtain⟨hb6,pv,b,rfl,hp6⟩:=h6.form;rw [HWN.out];rw [HWN.out] at hp6;have HM6:=zH (HD4.out.below hb6);have u1:=HM6.out.cell HS1.out;have u2:=HM6.out.cell HS2.out;have u3:=HM6.out.cell HS3.out;have u4:=HM6.out;have HLL:=zH (HLC.out w6 v4 pv b (HS4.out.below hb6) (hp6.imp_right fun ⟨h1,_,h3⟩=>⟨h1,Arr.lt h3,h3⟩));clear h6 hb6 hp6))|(go_at_call 73;((with_reducible refine HLL.out.mono ?_);rintro e1' w7 ⟨p7,c7,rfl,hb7⟩;have HM7:=zH (HM6.out.below hb7);have t1:=HM7.out.cell HS1.out;have t2:=HM7.out.cell HS2.out;have t3:=HM7.out.cell HS3.out;have t4:=HM7.out;clear hb7)))
 all_goals
  go_wp2
  go_ret
  exact⟨rfl,HM7.out.gr,HM7.out.mg⟩
theorem linesK_tame {rows:Nat} (h:rows≤65537) (line:Int) (head:Bool):(linesK rows line head:Int)≤65538:=by
 unfold linesK
 split<;>omega
theorem tab_all (p:MP) (h:TreeOk p.ns):TabC tabF p:=by
 refine⟨fun n x hn _=>?_,fun n x hn _=>?_,fun n x hn _ iw hiw=>?_⟩
 ·have ok:=h.node n x hn
  have hcl:x.cols.length≤64:=by have:=ok.items.2.2.2;unfold ColsP at this;omega
  have hnr:=colsT_near (rows:=rowsT x.tx) ok.items.2.2.1
  exact⟨sumS_tame (by omega) (by omega) fun v hv=>by have:=hnr.2 v hv;omega,fun W hW=>table_least p W hW n x hn ok.tx hcl ok.items.2.2.1 n⟩
 ·have ok:=h.node n x hn
  have hcl:x.cols.length≤64:=by have:=ok.items.2.2.2;unfold ColsP at this;omega
  have hnr:=widthsT_near (rowsT x.tx) (x.cols.map autoI) 4096
  exact⟨sumS_tame (by omega) (by omega) hnr.2,fun W hW=>table_most widths_any p W hW n x hn ok.tx hcl n⟩
 ·have ok:=h.node n x hn
  have hcl:x.cols.length≤64:=by have:=ok.items.2.2.2;unfold ColsP at this;omega
  have hbd:0≤x.bd∧x.bd≤4:=by have:=ok.fields;unfold FieldsP at this;omega
  refine⟨?_,fun W hW=>table_tall p W hW n x hn ok.tx hcl hbd n iw hiw⟩
  have:=linesK_tame (rowsT_ok ok.tx).2 x.bd (headB x)
  show Tame (linesK (rowsT x.tx).length x.bd (headB x))
  unfold Tame
  omega
end Go.Proofs.YtlenbcmgjancmaaGreatDoor
