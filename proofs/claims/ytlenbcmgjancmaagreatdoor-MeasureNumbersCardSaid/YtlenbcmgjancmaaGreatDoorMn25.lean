import Derived.Test.YtlenbcmgjancmaaGreatDoorMn24
import Derived.Test.YtlenbcmgjancmaaGreatDoorMn20
import Derived.Deep.RegionWith
import Derived.Deep.RegionHeld3
import Derived.Deep.DeepCutAuto
import Derived.BigQuiet
import Derived.Deep.QuietTactic
import Derived.IntWalk
import Derived.Test.YtlenbcmgjancmaaGreatDoorMn19
import Derived.OwnWalk
set_option linter.unusedVariables false
set_option linter.unusedSimpArgs false
namespace Go.Proofs.YtlenbcmgjancmaaGreatDoor
open Go.RowKit
def boolN (v:Value):Nat:=match v with
 | .bool true=>1
 |_=>0
set_option maxRecDepth 100000 in
set_option maxHeartbeats 8000000 in
theorem down_any (w:World) (bb:Nat) (cols M:Int) (tk:List Spn) (h:Brd w bb cols M tk) (s:Spn) (h0:0≤s.c∧s.c≤128) (h1:1≤s.cs∧s.cs≤cols) (h3:1≤s.rs∧s.rs≤4096) :
  Calls Tryz.prog 160 #[.pointer (some ⟨bb,0,none⟩),s.val] w (VBel ((downF tk fuelG { s with r:=0 }).val) w):=by
 obtain⟨v,hv1,p,c,rfl,hl,hx⟩:=h.tv
 have HX:=zH hx
 have HB:=zH h
 have hbl:=h.lt
 have hM:=h.hM
 have hn:=h.n
 have hc:=h.hc
 have HK:Hid (∀ t ∈ tk,t.r+t.rs≤M):=zH fun t ht=>(HB.out.ok t ht).m
 clear h hx
 obtain⟨sc,sr0,scs,srs⟩:=s
 dsimp only at h0 h1 h3
 obtain⟨R,hR⟩:∃ R,downF tk fuelG { (⟨sc,sr0,scs,srs⟩:Spn) with r:=0 }=R:=⟨_,rfl⟩
 rw [hR]
 have HR:=zH hR
 have HF:Hid ((fuelG:Int)=200000000):=zH rfl
 clear hR
 unfold Spn.val
 go_enter Tryz.func160,Tryz.ntmps160
 go_wp2
 go_loopw [5] (fun v5 wr=>∃ (x:Int) (f:Nat) (m:Bool),v5=.bool m∧0≤x∧x≤M∧Below w.heap.size w wr∧OneS wr w.heap.size ⟨sc,x,scs,srs⟩∧OneS wr (w.heap.size+1) ⟨0,0,0,0⟩∧(m=true→M<x+f∧downF tk f ⟨sc,x,scs,srs⟩=R)∧(m=false→R=⟨sc,x,scs,srs⟩)) (fun v5 wr=>2*(M+1 - cellI wr w.heap.size 1).toNat+boolN v5)
 case atStart=>
  refine⟨0,fuelG,true,rfl,by omega,by omega,by(repeat (first|exact Below.refl _ _|assumption|refine below_drewN ?_ _|refine Below.drew ?_|(refine Below.alloc ?_ ?bs _;(case bs=>first|omega|(simp;done)|(simp;omega)))|(refine Below.setCell ?_ ?bs _;(case bs=>first|omega|(simp;done)|(simp;omega))))),?_,?_,fun _=>⟨by rw [HF.out];omega,HR.out⟩,fun h=>by cases h⟩
  ·exact((OneS.made w sc 0 scs srs).alloc _)
  ·have:=OneS.two w sc 0 scs srs
   exact this
 case round=>
  obtain⟨x,f,m,rfl,hx0,hx1,hb,ho,hz,hh1,hh2⟩:=hrel
  have HO:=zH ho
  have HZ:=zH hz
  have HG:=zH hb
  have HH1:=zH hh1
  have HH2:=zH hh2
  have l1:=ho.lt
  have l2:=hz.lt
  have hcell:cellI wr w.heap.size 1=x:=cellI_eq (ho.cell (j:=1) rfl)
  have a0:wr.cell? ⟨bb,1,none⟩=some (.slice p tk.length c):=by rw [hb.cell (p:=⟨bb,1,none⟩) hbl];exact hv1
  have l3:bb<wr.heap.size:=Nat.lt_of_lt_of_le hbl hb.size
  clear ho hz hb hh1 hh2 HR HF
  cases m with
  |false=>as_aux_lemma=>
   obtain⟨a1,a2,a3,a4⟩:=HO.out.at
   dsimp only at a1 a2 a3 a4
   have y1:=HZ.out.froz 0
   have y2:=HZ.out.froz 1
   have y3:=HZ.out.froz 2
   have y4:=HZ.out.froz 3
   obtain⟨z1,z2,z3,z4⟩:=HZ.out.at
   dsimp only at z1 z2 z3 z4
   have hr:=HH2.out rfl
   subst hr
   clear HH1 HH2
   go_wp2
   (try simp only [Exit.inBlock,Exit.then])
   refine bodyPost_ret (res_one rfl rfl (OneS.put _ HZ.out ⟨sc,x,scs,srs⟩)) rfl ?_
   exact⟨rfl,by have hb:=HG.out;(repeat (first|exact Below.refl _ _|assumption|refine below_drewN ?_ _|refine Below.drew ?_|(refine Below.alloc ?_ ?bs _;(case bs=>first|omega|(simp;done)|(simp;omega)))|(refine Below.setCell ?_ ?bs _;(case bs=>first|omega|(simp;done)|(simp;omega)))))⟩
  |true=>
   obtain⟨hf,hD⟩:=HH1.out rfl
   obtain⟨⟨sE,bE⟩,hP⟩:∃ P,pass tk ⟨sc,x,scs,srs⟩ false=P:=⟨_,rfl⟩
   have hpl:=pass_le tk ⟨sc,x,scs,srs⟩ false HK.out
   have hdr:=down_round HK.out (f:=f) (s:=⟨sc,x,scs,srs⟩) hf hP
   rw [hP] at hpl
   rw [hD] at hdr
   have HDR:=zH hdr
   have HPL:=zH hpl
   have HP:=zH hP
   clear hdr hpl hP hD HH1 HH2
   go_wp2
   go_loopw [5,15] (fun v5 i w3=>∃ (k:Nat) (y:Int) (m:Bool),i=.int .i64 k∧k≤tk.length∧v5=.bool m∧x≤y∧y≤M∧Below w.heap.size w w3∧OneS w3 w.heap.size ⟨sc,y,scs,srs⟩∧OneS w3 (w.heap.size+1) ⟨0,0,0,0⟩∧pass (tk.drop k) ⟨sc,y,scs,srs⟩ m=(sE,bE)) (fun _ i _=>tk.length - (intOf i).toNat)
   case atStart=>exact⟨0,x,false,rfl,by omega,rfl,by omega,hx1,HG.out,HO.out,HZ.out,HP.out⟩
   case round=>
    obtain⟨k,sr,m,rfl,hk,rfl,hy0,hy1,hb,ho,hz,hh⟩:=hrel
    have HO2:=zH ho
    have HZ2:=zH hz
    have HG2:=zH hb
    have HH:=zH hh
    have l1:=ho.lt
    have l2:=hz.lt
    obtain⟨a1,a2,a3,a4⟩:=ho.at
    dsimp only at a1 a2 a3 a4
    clear ho hz hb hh HP
    by_cases hlt:k<tk.length
    ·as_aux_lemma=>
      have hltI:(k:Int)<(tk.length:Int):=by omega
      obtain⟨t,ht⟩:∃ t,tk[k]?=some t:=⟨_,List.getElem?_eq_getElem hlt⟩
      obtain⟨g,o,rfl,hg,⟨b1,b2,b3,b4⟩⟩:=HX.out k t ht
      obtain⟨t1,t2,t3,t4,t5,t6,t7⟩:=HB.out.ok t (List.mem_of_getElem? ht)
      have d1:wr.cell? ⟨g,o+k*4,none⟩=some (.int .i64 t.c):=by rw [HG2.out.cell (p:=⟨g,o+k*4,none⟩) hg];exact b1
      have d2:wr.cell? ⟨g,o+k*4+1,none⟩=some (.int .i64 t.r):=by rw [HG2.out.cell (p:=⟨g,o+k*4+1,none⟩) hg];exact b2
      have d3:wr.cell? ⟨g,o+k*4+2,none⟩=some (.int .i64 t.cs):=by rw [HG2.out.cell (p:=⟨g,o+k*4+2,none⟩) hg];exact b3
      have d4:wr.cell? ⟨g,o+k*4+3,none⟩=some (.int .i64 t.rs):=by rw [HG2.out.cell (p:=⟨g,o+k*4+3,none⟩) hg];exact b4
      have hgw:g<wr.heap.size:=Nat.lt_of_lt_of_le hg HG2.out.size
      have hd:=pass_drop (s:=⟨sc,sr,scs,srs⟩) (m:=m) ht
      rw [HH.out] at hd
      have HD:=zH hd
      clear hd ht b1 b2 b3 b4 hv1
      obtain⟨tc,tr,tcs,trs⟩:=t
      dsimp only at d1 d2 d3 d4 t1 t2 t3 t4 t5 t6 t7
      obtain⟨b0,hb0⟩:∃ b0,ovl ⟨sc,sr,scs,srs⟩ ⟨tc,tr,tcs,trs⟩=b0:=⟨_,rfl⟩
      have HB0:=zH hb0
      rw [hb0] at HD
      clear hb0
      go_upto_region 8 with (fail)
      go_cut [56] (fun v W'=>v=.bool b0∧W'=wr.alloc (.cells #[.int .i64 tc,.int .i64 tr,.int .i64 tcs,.int .i64 trs] 135))
      case first=>as_aux_lemma=>
       have hb1:=HB0.out
       by_cases u1:tc<sc+scs
       ·by_cases u2:sc<tc+tcs
        ·by_cases u3:tr<sr+srs
         ·by_cases u4:sr<tr+trs
          ·go_wp2_with fail
           go_meet
           exact⟨by rw [← hb1];simp [ovl,u1,u2,u3,u4]<;>(intros;omega),rfl⟩
          ·have u4':decide (sr<tr+trs)=false:=decide_eq_false u4
           go_wp2_with fail
           go_meet
           exact⟨by rw [← hb1];simp [ovl,u1,u2,u3,u4]<;>(intros;omega),rfl⟩
         ·have u3':decide (tr<sr+srs)=false:=decide_eq_false u3
          go_wp2_with fail
          go_meet
          exact⟨by rw [← hb1];simp [ovl,u1,u2,u3]<;>(intros;omega),rfl⟩
        ·have u2':decide (sc<tc+tcs)=false:=decide_eq_false u2
         go_wp2_with fail
         go_meet
         exact⟨by rw [← hb1];simp [ovl,u1,u2]<;>(intros;omega),rfl⟩
       ·have u1':decide (tc<sc+scs)=false:=decide_eq_false u1
        go_wp2_with fail
        go_meet
        exact⟨by rw [← hb1];simp [ovl,u1]<;>(intros;omega),rfl⟩
      case rest=>
      obtain⟨rfl,rfl⟩:=hcut
      have y5:=HO2.out.froz 1
      cases b0 with
      |true=>
       have hov:=ovl_true.1 HB0.out
       dsimp only at hov
       have HD1:Hid (pass (tk.drop (k+1)) ⟨sc,tr+trs,scs,srs⟩ true=(sE,bE)):=zH (by rw [HD.out];rfl)
       have HO3:Hid (OneS _ w.heap.size ⟨sc,tr+trs,scs,srs⟩):=zH ((Arr.set HO2.out 1 (.int .i64 (tr+trs))).alloc (.cells #[.int .i64 tc,.int .i64 tr,.int .i64 tcs,.int .i64 trs] 135))
       have HZ3:=zH ((Arr.other HZ2.out (b':=w.heap.size) (by omega) 1 (.int .i64 (tr+trs))).alloc (.cells #[.int .i64 tc,.int .i64 tr,.int .i64 tcs,.int .i64 trs] 135))
       clear HD HH
       go_wp2
       go_roundw
       case rel=>exact⟨k+1,tr+trs,true,by first|rfl|go_num,by omega,rfl,by omega,by omega,by have hb:=HG2.out;(repeat (first|exact Below.refl _ _|assumption|refine below_drewN ?_ _|refine Below.drew ?_|(refine Below.alloc ?_ ?bs _;(case bs=>first|omega|(simp;done)|(simp;omega)))|(refine Below.setCell ?_ ?bs _;(case bs=>first|omega|(simp;done)|(simp;omega))))),HO3.out,HZ3.out,HD1.out⟩
       case measure=>simp [intOf]<;>omega
      |false=>
       have HD1:Hid (pass (tk.drop (k+1)) ⟨sc,sr,scs,srs⟩ m=(sE,bE)):=zH (by rw [HD.out];rfl)
       clear HD HH
       go_wp2
       go_roundw
       case rel=>exact⟨k+1,sr,m,by first|rfl|go_num,by omega,rfl,hy0,hy1,by have hb:=HG2.out;(repeat (first|exact Below.refl _ _|assumption|refine below_drewN ?_ _|refine Below.drew ?_|(refine Below.alloc ?_ ?bs _;(case bs=>first|omega|(simp;done)|(simp;omega)))|(refine Below.setCell ?_ ?bs _;(case bs=>first|omega|(simp;done)|(simp;omega))))),HO2.out.alloc _,HZ2.out.alloc _,HD1.out⟩
       case measure=>simp [intOf]<;>omega
    ·have hltI:decide ((k:Int)<(tk.length:Int))=false:=decide_eq_false (by omega)
     obtain rfl:k=tk.length:=by omega
     have he:(⟨sc,sr,scs,srs⟩:Spn)=sE∧m=bE:=by
      have:=HH.out
      rw [List.drop_length] at this
      exact Prod.mk.inj this
     obtain⟨rfl,rfl⟩:=he
     have hcell2:cellI wr w.heap.size 1=sr:=cellI_eq (HO2.out.cell (j:=1) rfl)
     have hdr:=HDR.out
     clear HH
     cases m with
     |true=>
      rw [if_pos rfl] at hdr
      obtain⟨g,rfl,hg1,hg2,hg3⟩:=hdr
      dsimp only at hg2 hg3
      have HG1:=zH hg1
      clear hg1 HDR
      go_wp2
      go_roundw
      case rel=>exact⟨sr,g,true,rfl,by omega,hy1,HG2.out,HO2.out,HZ2.out,fun _=>⟨hg2,HG1.out.symm⟩,fun h=>by cases h⟩
      case measure=>
       rw [hcell,hcell2]
       simp only [boolN]
       omega
     |false=>
      rw [if_neg (by simp)] at hdr
      have HDR2:=zH hdr
      clear hdr HDR
      go_wp2
      go_roundw
      case rel=>exact⟨sr,0,false,rfl,by omega,hy1,HG2.out,HO2.out,HZ2.out,fun h=>by(cases h),fun _=>HDR2.out⟩
      case measure=>
       rw [hcell,hcell2]
       simp only [boolN]
       omega
end Go.Proofs.YtlenbcmgjancmaaGreatDoor
namespace Go.Proofs.YtlenbcmgjancmaaGreatDoor
open Go.RowKit
abbrev bvl (l:List Bool):List Value:=l.map Value.bool
abbrev ArrB (W:World) (b:Nat) (l:List Bool):Prop:=Arr W b (bvl l) 4
theorem ArrB.at {W:World} {b:Nat} {l:List Bool} (h:ArrB W b l) {j:Nat} {x:Bool} (hj:l[j]?=some x):W.cell? ⟨b,j,none⟩=some (.bool x) :=
 h.cell (by simp [hj])
theorem ArrB.put {W:World} {b:Nat} {l:List Bool} (h:ArrB W b l) (j:Nat) (x:Bool):ArrB (W.setCell ⟨b,j,none⟩ (.bool x)) b (l.set j x):=by
 have:=h.set j (.bool x)
 simpa [ArrB,bvl,List.map_set] using this
theorem ArrB.to {W:World} {b:Nat} {l l':List Bool} (h:ArrB W b l) (e:l=l'):ArrB W b l':=e ▸ h
theorem ArrB.made (W:World) (n:Nat):ArrB (W.alloc (.cells (madeCells #[.bool false] n) 4)) W.heap.size (List.replicate n false):=by
 have:=Arr.made W n (.bool false) 4
 simpa [ArrB,bvl] using this
theorem mk_bools2 (N:Nat) (hN:N≤4096) (w:World):(Instr.makeSlice 81 (.int .i64 N) (.int .i64 N)).run Tryz.prog w=.ok (.slice (some ⟨w.heap.size,0,none⟩) N N) (w.alloc (.cells (madeCells #[.bool false] N) 4)):=by
 obtain⟨i0,hi,hz0,hz1,hz2⟩:=info_parts (P:=Tryz.prog) (show (Tryz.prog.info? 4).map (fun i=>(i.zero,i.size,i.bytes))=some (some (.bool false),1,1) by kernel_rfl)
 have:=run_make (P:=Tryz.prog) w 81 4 i0 (.bool false) Tryz.underlying81 hi hz0 .i64 .i64 N N (by omega) (Int.le_refl _) (by rw [hz2];omega) (by omega)
 rw [hz1] at this
 simpa [Value.cells] using this
theorem OneS.get {W:World} {b:Nat} {s:Spn} (h:OneS W b s):W.cell? ⟨b,0,none⟩=some (.int .i64 s.c)∧W.cell? ⟨b,1,none⟩=some (.int .i64 s.r)∧W.cell? ⟨b,2,none⟩=some (.int .i64 s.cs)∧W.cell? ⟨b,3,none⟩=some (.int .i64 s.rs) :=
 ⟨h.cell (j:=0) rfl,h.cell (j:=1) rfl,h.cell (j:=2) rfl,h.cell (j:=3) rfl⟩
def StripP (l:List Bool) (E:Int) (w:World) (e:Ending) (w':World):Prop :=
 ∃ b:Nat,e=.returned (.tuple #[.slice (some ⟨b,0,none⟩) l.length l.length,.int .i64 E])∧w.heap.size≤b∧ArrB w' b l∧Below w.heap.size w w'
set_option maxRecDepth 100000 in
set_option maxHeartbeats 8000000 in
theorem strip_any (w:World) (bb:Nat) (N:Nat) (M:Int) (tk:List Spn) (h:Brd w bb N M tk) (row rows:Int) (hr:0≤row∧row≤70000000) (hrs:1≤rows∧rows≤4096) :
  Calls Tryz.prog 177 #[.pointer (some ⟨bb,0,none⟩),.int .i64 row,.int .i64 rows] w (StripP (stripT N row rows tk (List.replicate N false)) (stripE row rows tk 0) w):=by
 obtain⟨v,hv1,p,c,rfl,hl,hx⟩:=h.tv
 have HX:=zH hx
 have HB:=zH h
 have hbl:=h.lt
 have hM:=h.hM
 have hn:=h.n
 have hc:=h.hc
 have hcl:=h.cl
 clear h hx
 obtain⟨T,hT⟩:∃ T,stripT N row rows tk (List.replicate N false)=T:=⟨_,rfl⟩
 obtain⟨E,hE⟩:∃ E,stripE row rows tk 0=E:=⟨_,rfl⟩
 have hTl:T.length=N:=by rw [← hT,stripT_len];simp
 rw [hT,hE]
 have HT:=zH hT
 have HE:=zH hE
 have HTL:=zH hTl
 clear hT hE hTl
 have hmk:=mk_bools2 N (by omega)
 have HMK:=zH (ArrB.made w N)
 go_enter Tryz.func177,Tryz.ntmps177
 go_wp2
 go_loopw [7,22] (fun v7 i wr=>∃ (k:Nat) (e:Int) (l:List Bool),i=.int .i64 k∧k≤tk.length∧v7=.int .i64 e∧0≤e∧e≤M∧l.length=N∧Below w.heap.size w wr∧ArrB wr w.heap.size l∧stripT N row rows (tk.drop k) l=T∧stripE row rows (tk.drop k) e=E) (fun _ i _=>tk.length - (intOf i).toNat)
 case atStart=>exact⟨0,0,_,rfl,by omega,rfl,by omega,by omega,by simp,by(repeat (first|exact Below.refl _ _|assumption|refine below_drewN ?_ _|refine Below.drew ?_|(refine Below.alloc ?_ ?bs _;(case bs=>first|omega|(simp;done)|(simp;omega)))|(refine Below.setCell ?_ ?bs _;(case bs=>first|omega|(simp;done)|(simp;omega))))),HMK.out,HT.out,HE.out⟩
 case round=>
  obtain⟨k,e,l,rfl,hk,rfl,he0,he1,hll,hb,ha,hT,hE⟩:=hrel
  have HA:=zH ha
  have HG:=zH hb
  have HLL:=zH hll
  have HT1:=zH hT
  have HE1:=zH hE
  have l1:=ha.lt
  have a0:wr.cell? ⟨bb,0,none⟩=some (.int .i64 N):=by rw [hb.cell (p:=⟨bb,0,none⟩) hbl];exact hcl
  have l3:bb<wr.heap.size:=Nat.lt_of_lt_of_le hbl hb.size
  clear ha hb hT hE HT HE hll hmk HMK
  by_cases hlt:k<tk.length
  ·have hltI:(k:Int)<(tk.length:Int):=by omega
   obtain⟨t,ht⟩:∃ t,tk[k]?=some t:=⟨_,List.getElem?_eq_getElem hlt⟩
   obtain⟨g,o,rfl,hg,⟨b1,b2,b3,b4⟩⟩:=HX.out k t ht
   obtain⟨t1,t2,t3,t4,t5,t6,t7⟩:=HB.out.ok t (List.mem_of_getElem? ht)
   have d1:wr.cell? ⟨g,o+k*4,none⟩=some (.int .i64 t.c):=by rw [HG.out.cell (p:=⟨g,o+k*4,none⟩) hg];exact b1
   have d2:wr.cell? ⟨g,o+k*4+1,none⟩=some (.int .i64 t.r):=by rw [HG.out.cell (p:=⟨g,o+k*4+1,none⟩) hg];exact b2
   have d3:wr.cell? ⟨g,o+k*4+2,none⟩=some (.int .i64 t.cs):=by rw [HG.out.cell (p:=⟨g,o+k*4+2,none⟩) hg];exact b3
   have d4:wr.cell? ⟨g,o+k*4+3,none⟩=some (.int .i64 t.rs):=by rw [HG.out.cell (p:=⟨g,o+k*4+3,none⟩) hg];exact b4
   have hgw:g<wr.heap.size:=Nat.lt_of_lt_of_le hg HG.out.size
   have hd1:=stripT_drop (cols:=N) (row:=row) (rows:=rows) (l:=l) ht
   have hd2:=stripE_drop (row:=row) (rows:=rows) (e:=e) ht
   rw [HT1.out] at hd1
   rw [HE1.out] at hd2
   clear ht b1 b2 b3 b4 hv1 HT1 HE1
   obtain⟨tc,tr,tcs,trs⟩:=t
   dsimp only at d1 d2 d3 d4 t1 t2 t3 t4 t5 t6 t7 hd1 hd2
   by_cases hin:inRows row rows ⟨tc,tr,tcs,trs⟩
   ·rw [if_pos hin] at hd1 hd2
    have u1:decide (tr ≥ row+rows)=false:=decide_eq_false (by have:=hin.1;dsimp only at this;omega)
    have u2:decide (row ≥ tr+trs)=false:=decide_eq_false (by have:=hin.2;dsimp only at this;omega)
    have u1':decide (row+rows≤tr)=false:=decide_eq_false (by have:=hin.1;dsimp only at this;omega)
    have u2':decide (tr+trs≤row)=false:=decide_eq_false (by have:=hin.2;dsimp only at this;omega)
    have HD1:=zH hd1
    have HD2:=zH hd2
    clear hd1 hd2 hin
    go_upto_region 7 with (fail)
    go_cut [52] (fun v W'=>∃ t:Bool,v=.bool t∧(t=true↔(e=0∨tr+trs<e))∧W'=wr.alloc (.cells #[.int .i64 tc,.int .i64 tr,.int .i64 tcs,.int .i64 trs] 135))
    case first=>as_aux_lemma=>
     by_cases z1:e=0
     ·subst z1
      go_wp2_with fail
      go_meet
      exact⟨true,by simp,by simp,rfl⟩
     ·have z2:(e == 0)=false:=by rw [beq_eq_false_iff_ne];exact z1
      by_cases z3:tr+trs<e
      ·go_wp2_with fail
       go_meet
       exact⟨true,by simp [z1,z3],by simp [z3],rfl⟩
      ·have z4:decide (tr+trs<e)=false:=decide_eq_false z3
       go_wp2_with fail
       go_meet
       exact⟨false,by simp [z1,z3]<;>omega,by simp [z1];omega,rfl⟩
    case rest=>
    obtain⟨tt,rfl,htt,rfl⟩:=hcut
    obtain⟨e',he'⟩:∃ e',(if e=0∨tr+trs<e then tr+trs else e)=e':=⟨_,rfl⟩
    have HTT:Hid ((tt=true→e'=tr+trs)∧(tt=false→e'=e)):=zH ⟨fun h=>by rw [← he',if_pos (htt.1 h)],fun h=>by rw [← he',if_neg (fun h2=>by rw [htt.2 h2] at h;cases h)]⟩
    have HE':=zH he'
    have he'r:0≤e'∧e'≤M:=by rw [← he'];split<;>omega
    clear htt he'
    go_upto_if 52 with (fail)
    go_cut [7] (fun v W'=>v=.int .i64 e'∧W'=wr.alloc (.cells #[.int .i64 tc,.int .i64 tr,.int .i64 tcs,.int .i64 trs] 135))
    case first=>as_aux_lemma=>
     cases tt with
     |true=>
      have HQ:=zH (HTT.out.1 rfl)
      clear HTT
      go_wp2_with fail
      go_meet
      exact⟨by rw [HQ.out],rfl⟩
     |false=>
      have HQ:=zH (HTT.out.2 rfl)
      clear HTT
      go_wp2_with fail
      go_meet
      exact⟨by rw [HQ.out],rfl⟩
    case rest=>
    obtain⟨rfl,rfl⟩:=hcut
    obtain⟨q,hq⟩:∃ q,wr.heap.size=q:=⟨_,rfl⟩
    obtain⟨L1,hL1⟩:∃ L1,markF (min (tc+tcs) N - tc).toNat tc.toNat l=L1:=⟨_,rfl⟩
    have hmin:min (tc+tcs) (N:Int)=tc+tcs:=by omega
    rw [hL1] at HD1
    have hl1l:L1.length=N:=by rw [← hL1,markF_len];exact HLL.out
    rw [hmin] at hL1
    have HL1:=zH hL1
    have HL1L:=zH hl1l
    clear hL1 hl1l HTT
    have HS1:Hid (OneS (wr.alloc (.cells #[.int .i64 tc,.int .i64 tr,.int .i64 tcs,.int .i64 trs] 135)) q ⟨tc,tr,tcs,trs⟩):=zH (by rw [← hq];exact OneS.made wr tc tr tcs trs)
    have HA1:Hid (ArrB (wr.alloc (.cells #[.int .i64 tc,.int .i64 tr,.int .i64 tcs,.int .i64 trs] 135)) w.heap.size l):=zH (HA.out.alloc _)
    have HG1:Hid (Below w.heap.size w (wr.alloc (.cells #[.int .i64 tc,.int .i64 tr,.int .i64 tcs,.int .i64 trs] 135))):=zH (by have hb:=HG.out;(repeat (first|exact Below.refl _ _|assumption|refine below_drewN ?_ _|refine Below.drew ?_|(refine Below.alloc ?_ ?bs _;(case bs=>first|omega|(simp;done)|(simp;omega)))|(refine Below.setCell ?_ ?bs _;(case bs=>first|omega|(simp;done)|(simp;omega))))))
    have hne4:w.heap.size ≠ q:=by omega
    have HQQ:=zH hq
    clear hq
    go_wp2
    rw [HQQ.out]
    go_loopw [11] (fun i w3=>∃ (x:Nat) (m:List Bool),i=.int .i64 x∧(x:Int)≤tc+tcs∧m.length=N∧Below w.heap.size w w3∧ArrB w3 w.heap.size m∧OneS w3 q ⟨tc,tr,tcs,trs⟩∧markF (tc+tcs - x).toNat x m=L1) (fun i _=>(tc+tcs - intOf i).toNat)
    case atStart=>exact⟨tc.toNat,l,by rw [Int.toNat_of_nonneg t1],by omega,HLL.out,HG1.out,HA1.out,HS1.out,by rw [← HL1.out,Int.toNat_of_nonneg t1]⟩
    case round=>
     obtain⟨x,m,rfl,hx1,hml,hb,ha,ho,hF⟩:=hrel
     have HA3:=zH ha
     have HG3:=zH hb
     have HO3:=zH ho
     have HF3:=zH hF
     have HML:=zH hml
     have m1:=ha.lt
     have m2:=ho.lt
     have m3:bb<wr.heap.size:=Nat.lt_of_lt_of_le hbl hb.size
     have m4:wr.cell? ⟨bb,0,none⟩=some (.int .i64 N):=by rw [hb.cell (p:=⟨bb,0,none⟩) hbl];exact hcl
     obtain⟨i1,i2,i3,i4⟩:=ho.get
     dsimp only at i1 i2 i3 i4
     clear ha hb ho hF hml HS1 HA1 HG1 HL1
     by_cases hlt2:(x:Int)<tc+tcs
     ·as_aux_lemma=>
       have hxN:x<N:=by omega
       have hxI:(x:Int)<(N:Int):=by omega
       obtain⟨z,hz⟩:∃ z,m[x]?=some z:=⟨_,List.getElem?_eq_getElem (by rw [HML.out];exact hxN)⟩
       have c1:=HA3.out.at hz
       have f1:=HA3.out.froz x
       have HN3:=zH (HA3.out.put x true)
       have HF4:Hid (markF (tc+tcs - ((x+1:Nat):Int)).toNat (x+1) (m.set x true)=L1):=zH (by
        rw [← HF3.out,show (tc+tcs - (x:Int)).toNat=(tc+tcs - ((x+1:Nat):Int)).toNat+1 by omega]
        rfl)
       clear hz HF3
       go_wp2
       go_region
       all_goals
        go_wp2
        go_roundw
        case rel=>exact⟨x+1,_,by first|rfl|go_num,by omega,by rw [List.length_set];exact HML.out,by have hb:=HG3.out;(repeat (first|exact Below.refl _ _|assumption|refine below_drewN ?_ _|refine Below.drew ?_|(refine Below.alloc ?_ ?bs _;(case bs=>first|omega|(simp;done)|(simp;omega)))|(refine Below.setCell ?_ ?bs _;(case bs=>first|omega|(simp;done)|(simp;omega))))),by first|exact HN3.out|exact HN3.out.drew _,by first|exact HO3.out.other (by omega) _ _|exact Arr.other (W:=_) HO3.out (by omega) _ _,HF4.out⟩
        case measure=>simp [intOf]<;>omega
     ·have hxI:decide ((x:Int)<tc+tcs)=false:=decide_eq_false hlt2
      have hmL:m=L1:=by
       have h:=HF3.out
       rw [show (tc+tcs - (x:Int)).toNat=0 by omega] at h
       exact h
      subst hmL
      have HD1':=zH HD1.out.symm
      have HD2':=zH HD2.out.symm
      clear HF3 HD1 HD2
      rw [HE'.out] at HD2'
      go_wp2
      go_region
      all_goals
       go_wp2
       go_roundw
       case rel=>exact⟨k+1,e',m,by first|rfl|go_num,by omega,rfl,he'r.1,he'r.2,HML.out,by have hb:=HG3.out;(repeat (first|exact Below.refl _ _|assumption|refine below_drewN ?_ _|refine Below.drew ?_|(refine Below.alloc ?_ ?bs _;(case bs=>first|omega|(simp;done)|(simp;omega)))|(refine Below.setCell ?_ ?bs _;(case bs=>first|omega|(simp;done)|(simp;omega))))),by first|exact HA3.out|exact HA3.out.drew _,HD1'.out,HD2'.out⟩
       case measure=>simp [intOf]<;>omega
   ·rw [if_neg hin] at hd1 hd2
    have HD1:=zH hd1.symm
    have HD2:=zH hd2.symm
    clear hd1 hd2
    by_cases u1:row+rows≤tr
    ·as_aux_lemma=>
      go_wp2
      go_roundw
      case rel=>exact⟨k+1,e,l,by first|rfl|go_num,by omega,rfl,he0,he1,HLL.out,by have hb:=HG.out;(repeat (first|exact Below.refl _ _|assumption|refine below_drewN ?_ _|refine Below.drew ?_|(refine Below.alloc ?_ ?bs _;(case bs=>first|omega|(simp;done)|(simp;omega)))|(refine Below.setCell ?_ ?bs _;(case bs=>first|omega|(simp;done)|(simp;omega))))),HA.out.alloc _,HD1.out,HD2.out⟩
      case measure=>simp [intOf]<;>omega
    ·as_aux_lemma=>
      have u1':decide (row+rows≤tr)=false:=decide_eq_false u1
      have u2:tr+trs≤row:=by
       have h:¬ (tr<row+rows∧row<tr+trs):=hin
       omega
      clear hin
      go_wp2
      go_roundw
      case rel=>exact⟨k+1,e,l,by first|rfl|go_num,by omega,rfl,he0,he1,HLL.out,by have hb:=HG.out;(repeat (first|exact Below.refl _ _|assumption|refine below_drewN ?_ _|refine Below.drew ?_|(refine Below.alloc ?_ ?bs _;(case bs=>first|omega|(simp;done)|(simp;omega)))|(refine Below.setCell ?_ ?bs _;(case bs=>first|omega|(simp;done)|(simp;omega))))),HA.out.alloc _,HD1.out,HD2.out⟩
      case measure=>simp [intOf]<;>omega
  ·have hltI:decide ((k:Int)<(tk.length:Int))=false:=decide_eq_false (by omega)
   obtain rfl:k=tk.length:=by omega
   have hT2:=HT1.out
   have hE2:=HE1.out
   rw [List.drop_length] at hT2 hE2
   have hT3:l=T:=hT2
   have hE3:e=E:=hE2
   subst hT3
   subst hE3
   clear HT1 HE1 hT2 hE2
   go_wp2
   go_ret2
   exact⟨w.heap.size,by rw [HLL.out];rfl,Nat.le_refl _,HA.out,HG.out⟩
end Go.Proofs.YtlenbcmgjancmaaGreatDoor
namespace Go.Proofs.YtlenbcmgjancmaaGreatDoor
open Go.RowKit
theorem seek_out {cols n:Int} {l:List Bool} {f c:Nat} (h:cols<(c:Int)+n):seekF cols n l f c=none:=by
 cases f with
 |zero=>rfl
 |succ f=>unfold seekF;rw [if_neg (by omega)]
theorem seek_free {cols n:Int} {l:List Bool} {f c:Nat} (h:(c:Int)+n≤cols) (hf:f ≠ 0) (h1:freeAt l c n.toNat=true):seekF cols n l f c=some c:=by
 obtain⟨f,rfl⟩:=Nat.exists_eq_succ_of_ne_zero hf
 unfold seekF;rw [if_pos h,if_pos h1]
theorem seek_on {cols n:Int} {l:List Bool} {f c:Nat} (h:(c:Int)+n≤cols) (h1:freeAt l c n.toNat=false):seekF cols n l (f+1) c=seekF cols n l f (c+1):=by
 rw [seekF,if_pos h,if_neg (by rw [h1];simp)]
set_option maxRecDepth 100000 in
set_option maxHeartbeats 8000000 in
theorem behind_any (w:World) (bb:Nat) (N:Nat) (M:Int) (tk:List Spn) (h:Brd w bb N M tk) (s:Spn) (h1:1≤s.cs∧s.cs≤N) (h3:1≤s.rs∧s.rs≤4096) (row0 col0:Int) (hr0:0≤row0∧row0≤M) (hc0:0≤col0∧col0≤N) :
  Calls Tryz.prog 161 #[.pointer (some ⟨bb,0,none⟩),s.val,.int .i64 row0,.int .i64 col0] w (VBel ((behindF N tk s fuelG row0 col0.toNat).val) w):=by
 have HB:=zH h
 have hbl:=h.lt
 have hM:=h.hM
 have hn:=h.n
 have hc:=h.hc
 have hcl:=h.cl
 clear h
 obtain⟨c0,rfl⟩:∃ c0:Nat,col0=c0:=⟨col0.toNat,by omega⟩
 rw [Int.toNat_natCast]
 obtain⟨sc,sr,scs,srs⟩:=s
 dsimp only at h1 h3
 obtain⟨R,hR⟩:∃ R,behindF N tk ⟨sc,sr,scs,srs⟩ fuelG row0 c0=R:=⟨_,rfl⟩
 rw [hR]
 have HR:=zH hR
 have HF:Hid ((fuelG:Int)=200000000):=zH rfl
 clear hR
 unfold Spn.val
 go_enter Tryz.func161,Tryz.ntmps161
 go_wp2
 go_step3
 go_wp2
 go_step3
 go_wp2
 go_loopw [2,3] (fun v2 v3 wr=>∃ (row:Int) (col f:Nat),v2=.int .i64 row∧v3=.int .i64 col∧0≤row∧row≤M+1∧(0<col→row≤M)∧col≤N∧bmeas M row col<f∧Below w.heap.size w wr∧OneS wr w.heap.size ⟨sc,sr,scs,srs⟩∧OneS wr (w.heap.size+1) ⟨0,0,0,0⟩∧behindF N tk ⟨sc,sr,scs,srs⟩ f row col=R) (fun v2 v3 _=>(bmeas M (intOf v2) (intOf v3).toNat).toNat)
 case atStart=>
  refine⟨row0,c0,fuelG,rfl,rfl,hr0.1,by omega,fun _=>hr0.2,by omega,?_,by(repeat (first|exact Below.refl _ _|assumption|refine below_drewN ?_ _|refine Below.drew ?_|(refine Below.alloc ?_ ?bs _;(case bs=>first|omega|(simp;done)|(simp;omega)))|(refine Below.setCell ?_ ?bs _;(case bs=>first|omega|(simp;done)|(simp;omega))))),(OneS.made w sc sr scs srs).alloc _,OneS.two w sc sr scs srs,HR.out⟩
  rw [HF.out];unfold bmeas;split<;>omega
 case round=>
  obtain⟨row,col,f,rfl,rfl,hr1,hr2,hcr,hcN,hf,hb,ho,hz,hh⟩:=hrel
  have HO:=zH ho
  have HZ:=zH hz
  have HG:=zH hb
  have l1:=ho.lt
  have l2:=hz.lt
  obtain⟨a1,a2,a3,a4⟩:=ho.get
  dsimp only at a1 a2 a3 a4
  have l3:bb<wr.heap.size:=Nat.lt_of_lt_of_le hbl hb.size
  obtain⟨T,hT⟩:∃ T,stripT N row srs tk (List.replicate N false)=T:=⟨_,rfl⟩
  obtain⟨E,hE⟩:∃ E,stripE row srs tk 0=E:=⟨_,rfl⟩
  obtain⟨SK,hSK⟩:∃ SK,seekF N scs T (N+1) col=SK:=⟨_,rfl⟩
  have hst:=strip_any wr bb N M tk (HB.out.below hb) row srs ⟨hr1,by omega⟩ h3
  have hbr:=behind_round HB.out.ok (s:=⟨sc,sr,scs,srs⟩) h1.2 hr1 hr2 hcr hf
  simp only [Int.toNat_natCast] at hbr
  rw [hT,hE] at hst
  rw [hT,hSK,hE,hh] at hbr
  have hTl:T.length=N:=by rw [← hT,stripT_len];simp
  have HST:=zH hst
  have HBR:=zH hbr
  have HTL:=zH hTl
  have HSK:=zH hSK
  clear ho hz hb hh HR HF hst hbr hT hE hTl hSK
  go_wp2
  go_step3
  go_wp2_with (go_at_call 177;((with_reducible refine HST.out.mono ?_);rintro e1' w2 ⟨tb,rfl,htb,hta,hb2⟩;rw [HTL.out];have HTA:=zH hta;have HG2:Hid (Below w.heap.size w w2):=zH (Below.trans HG.out (hb2.mono HG.out.size));have HO2:Hid (OneS w2 w.heap.size _):=zH (Arr.below HO.out hb2);have HZ2:Hid (OneS w2 (w.heap.size+1) _):=zH (Arr.below HZ.out hb2);obtain⟨i1,i2,i3,i4⟩:=HO2.out.get;dsimp only at i1 i2 i3 i4;have i5:=HO2.out.lt;have i6:=HZ2.out.lt;have htl:=hta.lt;clear hb2 hta))
  go_step3
  go_wp2
  go_loopw [11] (fun v11 w3=>∃ (c f':Nat),v11=.int .i64 c∧c≤N+1∧(N:Int)<c+f'∧Below w.heap.size w w3∧OneS w3 w.heap.size ⟨sc,sr,scs,srs⟩∧OneS w3 (w.heap.size+1) ⟨0,0,0,0⟩∧ArrB w3 tb T∧seekF N scs T f' c=SK) (fun v11 _=>N+1 - (intOf v11).toNat)
  case atStart=>exact⟨col,N+1,rfl,by omega,by omega,HG2.out,HO2.out,HZ2.out,HTA.out,HSK.out⟩
  case round=>
   obtain⟨c,f',rfl,hcN1,hf',hb,ho,hz,hta,hh⟩:=hrel
   have HO3:=zH ho
   have HZ3:=zH hz
   have HG3:=zH hb
   have HT3:=zH hta
   have HH:=zH hh
   have k1:=ho.lt
   have k2:=hz.lt
   have k3:=hta.lt
   obtain⟨j1,j2,j3,j4⟩:=ho.get
   dsimp only at j1 j2 j3 j4
   have m3:bb<wr.heap.size:=Nat.lt_of_lt_of_le hbl hb.size
   have m4:wr.cell? ⟨bb,0,none⟩=some (.int .i64 N):=by rw [hb.cell (p:=⟨bb,0,none⟩) hbl];exact hcl
   clear ho hz hb hta hh HO2 HZ2 HG2 HTA HSK HST
   by_cases hin:(c:Int)+scs≤N
   ·have hinD:decide ((c:Int)+scs≤N)=true:=decide_eq_true hin
    obtain⟨f',rfl⟩:∃ g,f'=g+1:=⟨f' - 1,by omega⟩
    go_wp2
    go_quiet (fail)
    go_wp2
    go_loopw [35] (fun v35 w4=>∃ i:Nat,v35=.int .i64 i∧(i:Int)≤scs∧(∀ j,j<i→gd T (c+j)=false)∧w4=wr.drewN nq) (fun v35 _=>(scs - intOf v35).toNat)
    case atStart=>exact⟨0,rfl,by omega,fun j hj=>by omega,rfl⟩
    case round=>
     obtain⟨i,rfl,hi,hfr,hw⟩:=hrel
     obtain rfl:=hw.symm
     have HFR:=zH hfr
     clear hfr
     by_cases hlt:(i:Int)<scs
     ·have hix:(c:Int)+i<N:=by omega
      obtain⟨z,hz⟩:∃ z,T[c+i]?=some z:=⟨_,List.getElem?_eq_getElem (by rw [HTL.out];omega)⟩
      have hgz:gd T (c+i)=z:=by simp [gd,hz]
      have c1:wr.cell? ⟨tb,c+i,none⟩=some (.bool z):=HT3.out.at hz
      cases z with
      |true=>
       have HS1:Hid (seekF N scs T f' (c+1)=SK):=zH (by rw [← HH.out];exact(seek_on hin (free_false (i:=i) (by omega) hgz)).symm)
       clear HH HFR hz hgz
       go_wp2
       go_roundw
       case rel=>exact⟨c+1,f',by first|rfl|go_num,by omega,by push_cast at hf' ⊢;omega,below_drewN HG3.out _,HO3.out,HZ3.out,HT3.out,HS1.out⟩
       case measure=>simp [intOf]<;>omega
      |false=>
       have HFR2:Hid (∀ j,j<i+1→gd T (c+j)=false):=zH fun j hj=>by
        rcases Nat.lt_succ_iff_lt_or_eq.1 hj with h|rfl
        ·exact HFR.out j h
        ·exact hgz
       clear HH HFR hz hgz
       go_wp2
       go_roundw
       case rel=>exact⟨i+1,by first|rfl|go_num,by omega,HFR2.out,by first|rfl|trivial⟩
       case measure=>simp [intOf]<;>omega
     ·have hltD:decide ((i:Int)<scs)=false:=decide_eq_false hlt
      obtain rfl:scs=(i:Int):=by omega
      have hsk:SK=some c:=by rw [← HH.out];exact seek_free hin (by omega) (free_true fun j hj=>HFR.out j (by omega))
      subst hsk
      have hbr:=HBR.out
      dsimp only at hbr
      have hR:=hbr.1
      subst hR
      have y1:=HZ3.out.froz 0
      have y2:=HZ3.out.froz 1
      have y3:=HZ3.out.froz 2
      have y4:=HZ3.out.froz 3
      have y5:=HO3.out.froz 0
      have y6:=HO3.out.froz 1
      obtain⟨z1,z2,z3,z4⟩:=HZ3.out.get
      dsimp only at z1 z2 z3 z4
      have HE:Hid (OneS _ _ ⟨c,row,i,srs⟩):=zH (OneS.put _ (Arr.other (Arr.other (W:=wr.drewN nq) HZ3.out (b':=w.heap.size) (by omega) 1 (.int .i64 row)) (b':=w.heap.size) (by omega) 0 (.int .i64 c)) ⟨c,row,i,srs⟩)
      clear HBR HH HFR hbr
      go_wp2
      (try rw [Exit.noGoto_ret])
      (try simp only [Exit.inBlock,Exit.then])
      refine bodyPost_ret (res_one rfl rfl HE.out) rfl ?_
      exact⟨rfl,by have hb2:=HG3.out;(repeat (first|with_reducible exact Below.refl _ _|with_reducible assumption|with_reducible refine below_drewN ?_ _|with_reducible refine Below.drew ?_|(with_reducible refine Below.alloc ?_ ?bs _;(case bs=>first|omega|(simp;omega)))|(with_reducible refine Below.setCell ?_ ?bs _;(case bs=>dsimp only;omega))))⟩
   ·have hinD:decide ((c:Int)+scs≤N)=false:=decide_eq_false hin
    have hsk:SK=none:=by rw [← HH.out];exact seek_out (by omega)
    subst hsk
    have hbr:=HBR.out
    dsimp only at hbr
    obtain⟨g,row',rfl,hR,hr3,hr4,hr5,hr6,hr7⟩:=hbr
    have HR:=zH hR.symm
    clear HBR HH hR
    by_cases hcol:0<col
    ·as_aux_lemma=>
      have hcolI:(0:Int)<(col:Int):=by omega
      rw [if_pos hcol] at hr7
      subst hr7
      go_wp2
      go_quiet (fail)
      go_wp2
      go_roundw
      case rel=>exact⟨_,_,_,_,_,_,_,_,_,_,_,_,_,_,_,_,_,_,_,_,_,_,_,_,_,_,_,_,_,_,_,_,_,_,_,_,_,_,_,_,_,_,_,_,_,_,_,⟨row+1,0,g,rfl,rfl,by omega,hr4,fun h=>by omega,by omega,hr5,below_drewN HG3.out _,HO3.out,HZ3.out,HR.out⟩,rfl⟩
      case measure=>
       have h6:0≤bmeas M (row+1) 0:=by simp only [bmeas,if_true];omega
       exact(Int.toNat_lt_toNat (show 0<bmeas M row col by omega)).2 hr6
    ·as_aux_lemma=>
      obtain rfl:col=0:=by omega
      rw [if_neg hcol] at hr7
      have h6:0≤bmeas M row' 0:=by simp only [bmeas,if_true];omega
      clear hcol hcr
      subst hr7
      go_wp2
      go_quiet (fail)
      go_wp2
      go_roundw
      case rel=>exact⟨_,_,_,_,_,_,_,_,_,_,_,_,_,_,_,_,_,_,_,_,_,_,_,_,_,_,_,_,_,_,_,_,_,_,_,_,_,_,_,_,_,_,_,_,_,_,_,⟨row',0,g,rfl,rfl,by omega,hr4,fun h=>by omega,by omega,hr5,below_drewN HG3.out _,HO3.out,HZ3.out,HR.out⟩,rfl⟩
      case measure=>exact(Int.toNat_lt_toNat (show 0<bmeas M row 0 by omega)).2 hr6
end Go.Proofs.YtlenbcmgjancmaaGreatDoor
namespace Go.Proofs.YtlenbcmgjancmaaGreatDoor
open Go.RowKit
def Ned.val (n:Ned):Value:=.agg #[.int .i64 n.a,.int .i64 n.s,.int .i64 n.z]
def Ned.cells (n:Ned):List Value:=[.int .i64 n.a,.int .i64 n.s,.int .i64 n.z]
theorem Ned.cells_len (n:Ned):n.cells.length=3:=rfl
abbrev cmpN:Value:=.func (.func 135) #[] #[]
structure NedAt (w:World) (g o:Nat) (n:Ned):Prop where
 a:w.cell? ⟨g,o,none⟩=some (.int .i64 n.a)
 s:w.cell? ⟨g,o+1,none⟩=some (.int .i64 n.s)
 z:w.cell? ⟨g,o+2,none⟩=some (.int .i64 n.z)
theorem NedAt.of_eq {w w':World} {g o:Nat} {n:Ned} (h:NedAt w g o n) (e:∀ (q:Nat),w'.cell? ⟨g,q,none⟩=w.cell? ⟨g,q,none⟩):NedAt w' g o n:=by
 obtain⟨a1,a2,a3⟩:=h
 constructor<;>(rw [e];assumption)
theorem NedAt.below {w w':World} {g o B:Nat} {n:Ned} (h:NedAt w g o n) (hb:Below B w w') (hg:g<B):NedAt w' g o n:=h.of_eq fun q=>hb.cell (p:=⟨g,q,none⟩) hg
abbrev ArrN (W:World) (b:Nat) (l:List Ned) (tl:List Value):Prop:=Arr W b (flatC Ned.cells l ++ tl) 137
section
variable {W W':World} {b:Nat} {l:List Ned} {tl:List Value}
theorem ArrN.at (h:ArrN W b l tl) {i:Nat} {x:Ned} (hi:l[i]?=some x):NedAt W b (i*3) x:=by
 have hlt:=(List.getElem?_eq_some_iff.1 hi).1
 have hl:=flatC_len Ned.cells_len l
 have g:∀ j,j<3→(flatC Ned.cells l ++ tl)[i*3+j]?=x.cells[j]?:=fun j hj=>by
  rw [List.getElem?_append_left (by omega)]
  exact flatC_get Ned.cells_len l i j x hi hj
 exact⟨h.cell (j:=i*3) (by have:=g 0 (by omega);simpa [Ned.cells] using this),h.cell (j:=i*3+1) (by rw [g 1 (by omega)];rfl),h.cell (j:=i*3+2) (by rw [g 2 (by omega)];rfl)⟩
theorem ArrN.put (h:ArrN W b l tl) {i:Nat} (hi:i<l.length) (x:Ned) :
  ArrN (((W.setCell ⟨b,i*3,none⟩ (.int .i64 x.a)).setCell ⟨b,i*3+1,none⟩ (.int .i64 x.s)).setCell ⟨b,i*3+2,none⟩ (.int .i64 x.z)) b (l.set i x) tl:=by
 have:=((h.set (i*3) (.int .i64 x.a)).set (i*3+1) (.int .i64 x.s)).set (i*3+2) (.int .i64 x.z)
 have hl:=flatC_len Ned.cells_len l
 rw [List.set_append_left _ _ (by omega),List.set_append_left _ _ (by simp;omega),List.set_append_left _ _ (by simp;omega)] at this
 unfold ArrN
 rw [flatC_set Ned.cells_len x l i hi]
 exact this
theorem ArrN.to (h:ArrN W b l tl) {l':List Ned} (e:l=l'):ArrN W b l' tl:=e ▸ h
end
structure SrN (W0:World) (d:Nat) (tl:List Value) (N:Nat) (l:List Ned) (W:World):Prop where
 dat:ArrN W d l tl
 g:W0.grownBy W (some d)
 ln:l.length=N
 nb:N≤1048576
 ok:∀ x ∈ l,0≤x.s∧x.s≤4096
section
variable {W0 W W':World} {d N:Nat} {tl:List Value} {l:List Ned}
theorem SrN.below (h:SrN W0 d tl N l W) (hb:Below W.heap.size W W'):SrN W0 d tl N l W' :=
 ⟨h.dat.below hb,grown_trans h.g (grown_below hb),h.ln,h.nb,h.ok⟩
theorem SrN.drew (h:SrN W0 d tl N l W):SrN W0 d tl N l W.drew:=h.below (Below.drew (Below.refl _ _))
theorem SrN.drewN (h:SrN W0 d tl N l W) (m:Nat):SrN W0 d tl N l (W.drewN m):=h.below (below_drewN (Below.refl _ _) m)
theorem SrN.to (h:SrN W0 d tl N l W) {l':List Ned} (e:l=l'):SrN W0 d tl N l' W:=e ▸ h
theorem SrN.at (h:SrN W0 d tl N l W) {i:Nat} (hi:i<N):NedAt W d (i*3) (gd l i) :=
 h.dat.at (by have:=h.ln;simp [gd,List.getElem?_eq_getElem (show i<l.length by omega)])
theorem SrN.set3 (h:SrN W0 d tl N l W) {i:Nat} (hi:i<N) (x:Ned) (hx:0≤x.s∧x.s≤4096):SrN W0 d tl N (l.set i x) (((W.setCell ⟨d,i*3,none⟩ (.int .i64 x.a)).setCell ⟨d,i*3+1,none⟩ (.int .i64 x.s)).setCell ⟨d,i*3+2,none⟩ (.int .i64 x.z)) :=
 ⟨h.dat.put (by rw [h.ln];exact hi) x,grown_trans h.g (grown_trans (grown_trans (grown_set W d _ _) (grown_set _ d _ _)) (grown_set _ d _ _)),by rw [List.length_set,h.ln],h.nb,fun y hy=>by
  rcases List.mem_or_eq_of_mem_set hy with hy|rfl
  ·exact h.ok y hy
  ·exact hx⟩
theorem SrN.gok (h:SrN W0 d tl N l W) {i:Nat} (hi:i<N):0≤(gd l i).s∧(gd l i).s≤4096:=h.ok _ (gd_mem (by rw [h.ln];exact hi))
theorem SrN.swap (h:SrN W0 d tl N l W) {i j:Nat} (hi:i<N) (hj:j<N) (u v:Ned) (hu:gd l i=u) (hv:gd l j=v) :
  SrN W0 d tl N (swp l i j) ((((((W.setCell ⟨d,i*3,none⟩ (.int .i64 v.a)).setCell ⟨d,i*3+1,none⟩ (.int .i64 v.s)).setCell ⟨d,i*3+2,none⟩ (.int .i64 v.z)).setCell ⟨d,j*3,none⟩ (.int .i64 u.a)).setCell ⟨d,j*3+1,none⟩ (.int .i64 u.s)).setCell ⟨d,j*3+2,none⟩ (.int .i64 u.z)):=by
 subst hu hv
 exact(h.set3 hi _ (h.gok hj)).set3 hj _ (h.gok hi)
theorem SrN.mid (h:SrN W0 d tl N l W) {i j:Nat} (hi:i<N) (hj:j<N) (x:Ned):∃ y,NedAt (((W.setCell ⟨d,i*3,none⟩ (.int .i64 x.a)).setCell ⟨d,i*3+1,none⟩ (.int .i64 x.s)).setCell ⟨d,i*3+2,none⟩ (.int .i64 x.z)) d (j*3) y:=by
 have h1:=h.dat.put (by rw [h.ln];exact hi) x
 have h2:j<(l.set i x).length:=by rw [List.length_set,h.ln];exact hj
 exact⟨_,h1.at (List.getElem?_eq_getElem h2)⟩
theorem SrN.froz (h:SrN W0 d tl N l W) (j:Nat):W.frozen? ⟨d,j,none⟩=false:=h.dat.froz j
theorem SrN.mfroz (h:SrN W0 d tl N l W) {i:Nat} (x:Ned) (j:Nat):(((W.setCell ⟨d,i*3,none⟩ (.int .i64 x.a)).setCell ⟨d,i*3+1,none⟩ (.int .i64 x.s)).setCell ⟨d,i*3+2,none⟩ (.int .i64 x.z)).frozen? ⟨d,j,none⟩=false :=
 Arr.froz (((h.dat.set _ _).set _ _).set _ _) j
theorem SrN.lt (h:SrN W0 d tl N l W):d<W.heap.size:=h.dat.lt
end
set_option maxRecDepth 100000 in
set_option maxHeartbeats 4000000 in
theorem cmpN_any (x y:Ned) (hx:0≤x.s∧x.s≤4096) (hy:0≤y.s∧y.s≤4096) (w:World):Calls Tryz.prog 135 #[x.val,y.val] w (VBel (.int .i64 (x.s - y.s)) w):=by
 obtain⟨xa,xs,xz⟩:=x
 obtain⟨ya,ys,yz⟩:=y
 dsimp only at hx hy ⊢
 unfold Ned.val
 go_enter Tryz.func135,Tryz.ntmps135
 go_wp2
 go_ret
 exact⟨rfl,by(repeat (first|exact Below.refl _ _|assumption|refine below_drewN ?_ _|refine Below.drew ?_|(refine Below.alloc ?_ ?bs _;(case bs=>first|omega|(simp;done)|(simp;omega)))|(refine Below.setCell ?_ ?bs _;(case bs=>first|omega|(simp;done)|(simp;omega)))))⟩
set_option maxRecDepth 100000 in
set_option maxHeartbeats 4000000 in
theorem swrN_any {W0 W:World} {d N:Nat} {tl:List Value} {l:List Ned} (h:SrN W0 d tl N l W) {A B C:Int} (a b n c:Nat) (eA:A=a) (eB:B=b) (eC:C=n) (ha:a+n≤N) (hb:b+n≤N) :
  Calls Tryz.prog 193 #[.slice (some ⟨d,0,none⟩) N c,.int .i64 A,.int .i64 B,.int .i64 C,cmpN] W (fun e W'=>e=.returned (.tuple #[])∧SrN W0 d tl N (swr a b n 0 l) W'):=by
 subst eA eB eC
 have H:=zH h
 have hrn:N≤1048576:=h.nb
 clear h
 go_enter Tryz.func193,Tryz.ntmps193
 go_wp2
 go_loopw [10] (fun i wr=>∃ (k:Nat) (m:List Ned),i=.int .i64 k∧k≤n∧SrN W0 d tl N m wr∧swr a b (n - k) k m=swr a b n 0 l) (fun i _=>n - (intOf i).toNat)
 case atStart=>exact⟨0,l,rfl,by omega,H.out,rfl⟩
 case round=>
  obtain⟨k,m,rfl,hk,hS,hR⟩:=hrel
  have HS:=zH hS
  have HR:=zH hR
  clear hS hR
  by_cases hlt:k<n
  ·have hltI:(k:Int)<(n:Int):=by omega
   have hI1:(a:Int)+(k:Int)<(N:Int):=by omega
   have hI2:(b:Int)+(k:Int)<(N:Int):=by omega
   have l1:=HS.out.lt
   obtain⟨u,hu⟩:∃ u,gd m (a+k)=u:=⟨_,rfl⟩
   obtain⟨v,hv⟩:∃ v,gd m (b+k)=v:=⟨_,rfl⟩
   have c1:=HS.out.at (i:=a+k) (by omega)
   have c2:=HS.out.at (i:=b+k) (by omega)
   have HW:=zH (HS.out.swap (i:=a+k) (j:=b+k) (by omega) (by omega) u v hu hv)
   obtain⟨y,c3⟩:=HS.out.mid (i:=a+k) (j:=b+k) (by omega) (by omega) v
   have g1:=HS.out.mfroz (i:=a+k) v ((b+k)*3)
   have g2:=HS.out.mfroz (i:=a+k) v ((b+k)*3+1)
   have g3:=HS.out.mfroz (i:=a+k) v ((b+k)*3+2)
   have f1:=HS.out.froz ((a+k)*3)
   have f2:=HS.out.froz ((a+k)*3+1)
   have f3:=HS.out.froz ((a+k)*3+2)
   rw [hu] at c1
   rw [hv] at c2
   have HL:Hid (swr a b (n - (k+1)) (k+1) (swp m (a+k) (b+k))=swr a b n 0 l):=zH (by rw [← HR.out,show n - k=(n - (k+1))+1 by omega];rfl)
   clear hu hv HR
   obtain⟨u1,u2,u3⟩:=u
   obtain⟨v1,v2,v3⟩:=v
   obtain⟨c1,c1b,c1c⟩:=c1
   obtain⟨c2,c2b,c2c⟩:=c2
   obtain⟨c3,c3b,c3c⟩:=c3
   dsimp only at c1 c1b c1c c2 c2b c2c c3 c3b c3c g1 g2 g3 HW
   go_wp2
   go_region
   go_wp2
   go_roundw
   case rel=>exact⟨k+1,swp m (a+k) (b+k),by first|rfl|go_num,by omega,by first|exact HW.out|exact HW.out.drew,HL.out⟩
   case measure=>simp [intOf];omega
  ·have hlt':¬ (k:Int)<(n:Int):=by omega
   obtain rfl:k=n:=by omega
   go_wp2
   go_end0
   refine⟨rfl,HS.out.to ?_⟩
   rw [← HR.out,Nat.sub_self];rfl
end Go.Proofs.YtlenbcmgjancmaaGreatDoor
namespace Go.Proofs.YtlenbcmgjancmaaGreatDoor
open Go.RowKit
set_option maxRecDepth 100000 in
set_option maxHeartbeats 4000000 in
theorem rotN_any {W0 W:World} {d N:Nat} {tl:List Value} {l:List Ned} (h:SrN W0 d tl N l W) {A M B:Int} (a m b c:Nat) (eA:A=a) (eM:M=m) (eB:B=b) (ha:a<m) (hm:m<b) (hb:b≤N) :
  Calls Tryz.prog 185 #[.slice (some ⟨d,0,none⟩) N c,.int .i64 A,.int .i64 M,.int .i64 B,cmpN] W (fun e W'=>e=.returned (.tuple #[])∧SrN W0 d tl N (rotS a m b l) W'):=by
 subst eA eM eB
 have H:=zH h
 have hrn:N≤1048576:=h.nb
 clear h
 go_enter Tryz.func185,Tryz.ntmps185
 go_wp2
 go_loopw [10,11] (fun i j wr=>∃ (x y f:Nat) (k:List Ned),i=.int .i64 x∧j=.int .i64 y∧1≤x∧1≤y∧x≤m∧m+y≤N∧x+y≤f∧SrN W0 d tl N k wr∧rotF m f x y k=rotS a m b l) (fun i j _=>(intOf i).toNat+(intOf j).toNat)
 case atStart=>exact⟨m - a,b - m,b - a+1,l,by first|rfl|go_num,by first|rfl|go_num,by omega,by omega,by omega,by omega,by omega,H.out,rfl⟩
 case round=>
  obtain⟨x,y,f,k,rfl,rfl,hx1,hy1,hxm,hyN,hf,hS,hR⟩:=hrel
  obtain⟨f,rfl⟩:∃ f',f=f'+1:=⟨f - 1,by omega⟩
  have HS:=zH hS
  clear hS
  simp only [rotF] at hR
  by_cases he:x=y
  ·subst he
   rw [if_pos rfl] at hR
   have HR:=zH hR
   clear hR
   go_wp2_with (go_at_call 193;(with_reducible refine(swrN_any HS.out (m - x) m x c (by omega) (by omega) (by omega) (by omega) (by omega)).mono ?_);rintro e1' w1 ⟨rfl,hS1⟩)
   go_end0
   exact⟨rfl,hS1.to HR.out⟩
  ·rw [if_neg he] at hR
   by_cases hlt:y<x
   ·rw [if_pos hlt] at hR
    have HR:=zH hR
    clear hR
    go_wp2_with (go_at_call 193;(with_reducible refine(swrN_any HS.out (m - x) m y c (by omega) (by omega) (by omega) (by omega) (by omega)).mono ?_);rintro e1' w1 ⟨rfl,hS1⟩;have HS1:=zH hS1;clear hS1)
    go_roundw
    case rel=>exact⟨x - y,y,f,_,by first|rfl|go_num,rfl,by omega,by omega,by omega,by omega,by omega,HS1.out,HR.out⟩
    case measure=>simp [intOf]<;>omega
   ·rw [if_neg hlt] at hR
    have HR:=zH hR
    clear hR
    go_wp2_with (go_at_call 193;(with_reducible refine(swrN_any HS.out (m - x) (m+y - x) x c (by omega) (by omega) (by omega) (by omega) (by omega)).mono ?_);rintro e1' w1 ⟨rfl,hS1⟩;have HS1:=zH hS1;clear hS1)
    go_roundw
    case rel=>exact⟨x,y - x,f,_,rfl,by first|rfl|go_num,by omega,by omega,by omega,by omega,by omega,HS1.out,HR.out⟩
    case measure=>simp [intOf]<;>omega
set_option maxRecDepth 100000 in
set_option maxHeartbeats 4000000 in
theorem insN_any {W0 W:World} {d N:Nat} {tl:List Value} {l:List Ned} (h:SrN W0 d tl N l W) {A B:Int} (a b c:Nat) (eA:A=a) (eB:B=b) (ha:a≤b) (hb:b≤N) :
  Calls Tryz.prog 178 #[.slice (some ⟨d,0,none⟩) N c,.int .i64 A,.int .i64 B,cmpN] W (fun e W'=>e=.returned (.tuple #[])∧SrN W0 d tl N (insS ltN a b l) W'):=by
 subst eA eB
 have H:=zH h
 have hrn:N≤1048576:=h.nb
 clear h
 go_enter Tryz.func178,Tryz.ntmps178
 go_wp2
 go_loopw [8] (fun i wr=>∃ (x:Nat) (k:List Ned),i=.int .i64 x∧1≤x∧a<x∧x≤b+1∧SrN W0 d tl N k wr∧insF ltN a (b - x) x k=insS ltN a b l) (fun i _=>b+1 - (intOf i).toNat)
 case atStart=>exact⟨a+1,l,by first|rfl|go_num,by omega,by omega,by omega,H.out,rfl⟩
 case round=>
  obtain⟨x,k,rfl,hx1,hax,hxb,hS,hR⟩:=hrel
  have HS:=zH hS
  have HR:=zH hR
  clear hS hR
  by_cases hlt:x<b
  ·have hltI:(x:Int)<(b:Int):=by omega
   have HR1:Hid (insF ltN a (b - (x+1)) (x+1) (sink ltN a x k)=insS ltN a b l):=zH (by rw [← HR.out,show b - x=(b - (x+1))+1 by omega];rfl)
   go_wp2
   go_loopw [9] (fun j wr=>∃ (y:Nat) (m:List Ned),j=.int .i64 y∧a≤y∧y≤x∧SrN W0 d tl N m wr∧sink ltN a y m=sink ltN a x k) (fun j _=>(intOf j).toNat)
   case atStart=>exact⟨x,k,rfl,by omega,by omega,HS.out,rfl⟩
   case round=>
    obtain⟨y,m,rfl,hay,hyx,hT,hQ⟩:=hrel
    have HT:=zH hT
    have HQ:=zH hQ
    clear hT hQ
    by_cases hlt2:a<y
    ·have hltJ:(a:Int)<(y:Int):=by omega
     obtain⟨q,rfl⟩:∃ q,y=q+1:=⟨y - 1,by omega⟩
     have hltK:(a:Int)<(q:Int)+1:=by omega
     have hI1:((q+1:Nat):Int)<(N:Int):=by omega
     have hI3:(q:Int)+1<(N:Int):=by omega
     have hI4:(q:Int)<(N:Int):=by omega
     have hI2:((q+1:Nat):Int) - 1<(N:Int):=by omega
     have hI0:(0:Int)≤(q:Int)+1:=by omega
     have hI9:(0:Int)≤(q:Int):=by omega
     have hwA:IntKind.i64.wrap (((q+1:Nat):Int) - 1)=(q:Int):=(IntWalk.i64_in _ (by omega)).trans (by omega)
     have hwB:IntKind.i64.wrap ((q:Int)+1 - 1)=(q:Int):=(IntWalk.i64_in _ (by omega)).trans (by omega)
     have hwC:IntKind.i64.wrap (q:Int)=(q:Int):=IntWalk.i64_in _ (by omega)
     have l1:=HT.out.lt
     have hq:sink ltN a (q+1) m=if a<q+1∧decide ((gd m (q+1)).s - (gd m q).s<0)=true then sink ltN a q (swp m (q+1) q) else m:=rfl
     rw [HQ.out] at hq
     obtain⟨u,hu⟩:∃ u,gd m (q+1)=u:=⟨_,rfl⟩
     obtain⟨v,hv⟩:∃ v,gd m q=v:=⟨_,rfl⟩
     have c1:=HT.out.at (i:=(q+1)) (by omega)
     have c2:=HT.out.at (i:=q) (by omega)
     have r1:=HT.out.gok (i:=(q+1)) (by omega)
     have r2:=HT.out.gok (i:=q) (by omega)
     rw [hu] at c1 r1
     rw [hv] at c2 r2
     obtain⟨D,hDe⟩:∃ D,u.s - v.s=D:=⟨_,rfl⟩
     have HC:Hid (∀ W,Calls Tryz.prog 135 #[.agg #[.int .i64 u.a,.int .i64 u.s,.int .i64 u.z],.agg #[.int .i64 v.a,.int .i64 v.s,.int .i64 v.z]] W (VBel (.int .i64 D) W)):=zH fun W=>by rw [← hDe];exact cmpN_any u v r1 r2 W
     rw [hu,hv,hDe] at hq
     clear hu hv hDe r1 r2
     obtain⟨u1,u2,u3⟩:=u
     obtain⟨v1,v2,v3⟩:=v
     obtain⟨c1,c1b,c1c⟩:=c1
     obtain⟨c2,c2b,c2c⟩:=c2
     dsimp only at c1 c1b c1c c2 c2b c2c HC
     by_cases hD:D<0
     ·rw [if_pos ⟨hlt2,by simpa using hD⟩] at hq
      have HQ1:=zH hq
      clear hq HQ HS HR
      go_upto_region 4 with (fail)
      go_cut [34] (fun v W'=>v=.bool true∧SrN W0 d tl N m W')
      case first=>as_aux_lemma=>
       go_region_held3 (fun W=>W.cell? ⟨d,(q+1)*3,none⟩=some (.int .i64 u1)∧W.cell? ⟨d,(q+1)*3+1,none⟩=some (.int .i64 u2)∧W.cell? ⟨d,(q+1)*3+2,none⟩=some (.int .i64 u3)∧W.cell? ⟨d,q*3,none⟩=some (.int .i64 v1)∧W.cell? ⟨d,q*3+1,none⟩=some (.int .i64 v2)∧W.cell? ⟨d,q*3+2,none⟩=some (.int .i64 v3)∧SrN W0 d tl N m W)
        ((first|exact⟨c1,c1b,c1c,c2,c2b,c2c,HT.out⟩|exact⟨c1,c1b,c1c,c2,c2b,c2c,HT.out.drew⟩|exact⟨k1,k2,k3,k4,k5,k6,k7⟩))
        (first|(go_at_call 135;((with_reducible refine(HC.out _).mono ?_);rintro e1' w2 ⟨rfl,hb2⟩;have k7:=SrN.below HT.out.drew hb2;have k1:=(hb2.cell (p:=⟨d,(q+1)*3,none⟩) HT.out.lt).trans c1;have k2:=(hb2.cell (p:=⟨d,(q+1)*3+1,none⟩) HT.out.lt).trans c1b;have k3:=(hb2.cell (p:=⟨d,(q+1)*3+2,none⟩) HT.out.lt).trans c1c;have k4:=(hb2.cell (p:=⟨d,q*3,none⟩) HT.out.lt).trans c2;have k5:=(hb2.cell (p:=⟨d,q*3+1,none⟩) HT.out.lt).trans c2b;have k6:=(hb2.cell (p:=⟨d,q*3+2,none⟩) HT.out.lt).trans c2c)))
       all_goals
        go_wp2
        go_meet
        exact⟨rfl,by first|exact k7|exact k7.drew⟩
      case rest=>
      obtain⟨rfl,hS1⟩:=hcut
      have HS1:=zH hS1
      clear hS1 HC c1 c1b c1c c2 c2b c2c l1 HT u1 u2 u3 v1 v2 v3
      have l1:=HS1.out.lt
      obtain⟨u,hu⟩:∃ u,gd m (q+1)=u:=⟨_,rfl⟩
      obtain⟨v,hv⟩:∃ v,gd m q=v:=⟨_,rfl⟩
      have c1:=HS1.out.at (i:=(q+1)) (by omega)
      have c2:=HS1.out.at (i:=q) (by omega)
      have HW:=zH (HS1.out.swap (i:=(q+1)) (j:=q) (by omega) (by omega) u v hu hv)
      obtain⟨y,c3⟩:=HS1.out.mid (i:=(q+1)) (j:=q) (by omega) (by omega) v
      have g1:=HS1.out.mfroz (i:=(q+1)) v (q*3)
      have g2:=HS1.out.mfroz (i:=(q+1)) v (q*3+1)
      have g3:=HS1.out.mfroz (i:=(q+1)) v (q*3+2)
      have f1:=HS1.out.froz ((q+1)*3)
      have f2:=HS1.out.froz ((q+1)*3+1)
      have f3:=HS1.out.froz ((q+1)*3+2)
      rw [hu] at c1
      rw [hv] at c2
      clear hu hv
      obtain⟨u1,u2,u3⟩:=u
      obtain⟨v1,v2,v3⟩:=v
      obtain⟨c1,c1b,c1c⟩:=c1
      obtain⟨c2,c2b,c2c⟩:=c2
      obtain⟨c3,c3b,c3c⟩:=c3
      dsimp only at c1 c1b c1c c2 c2b c2c c3 c3b c3c g1 g2 g3 HW
      go_wp2
      go_region
      go_wp2
      go_roundw
      case rel=>exact⟨q,swp m (q+1) q,by first|rfl|go_num,by omega,by omega,by first|exact HW.out|exact HW.out.drewN _|exact HW.out.drew|exact(HW.out.drewN _).drew,HQ1.out.symm⟩
      case measure=>simp [intOf]<;>omega
     ·rw [if_neg fun h=>hD (by simpa using h.2)] at hq
      have hDd:decide (D<0)=false:=decide_eq_false hD
      have HQ1:=zH hq
      clear hq HQ HS HR hD
      go_upto_region 4 with (fail)
      go_cut [34] (fun v W'=>v=.bool false∧SrN W0 d tl N m W')
      case first=>as_aux_lemma=>
       go_region_held3 (fun W=>W.cell? ⟨d,(q+1)*3,none⟩=some (.int .i64 u1)∧W.cell? ⟨d,(q+1)*3+1,none⟩=some (.int .i64 u2)∧W.cell? ⟨d,(q+1)*3+2,none⟩=some (.int .i64 u3)∧W.cell? ⟨d,q*3,none⟩=some (.int .i64 v1)∧W.cell? ⟨d,q*3+1,none⟩=some (.int .i64 v2)∧W.cell? ⟨d,q*3+2,none⟩=some (.int .i64 v3)∧SrN W0 d tl N m W)
        ((first|exact⟨c1,c1b,c1c,c2,c2b,c2c,HT.out⟩|exact⟨c1,c1b,c1c,c2,c2b,c2c,HT.out.drew⟩|exact⟨k1,k2,k3,k4,k5,k6,k7⟩))
        (first|(go_at_call 135;((with_reducible refine(HC.out _).mono ?_);rintro e1' w2 ⟨rfl,hb2⟩;have k7:=SrN.below HT.out.drew hb2;have k1:=(hb2.cell (p:=⟨d,(q+1)*3,none⟩) HT.out.lt).trans c1;have k2:=(hb2.cell (p:=⟨d,(q+1)*3+1,none⟩) HT.out.lt).trans c1b;have k3:=(hb2.cell (p:=⟨d,(q+1)*3+2,none⟩) HT.out.lt).trans c1c;have k4:=(hb2.cell (p:=⟨d,q*3,none⟩) HT.out.lt).trans c2;have k5:=(hb2.cell (p:=⟨d,q*3+1,none⟩) HT.out.lt).trans c2b;have k6:=(hb2.cell (p:=⟨d,q*3+2,none⟩) HT.out.lt).trans c2c)))
       all_goals
        go_wp2
        go_meet
        exact⟨rfl,by first|exact k7|exact k7.drew⟩
      case rest=>
      obtain⟨rfl,hS1⟩:=hcut
      have HS1:=zH hS1
      clear hS1 HC c1 c1b c1c c2 c2b c2c l1 HT
      go_wp2
      go_roundw
      case rel=>exact⟨x+1,m,by first|rfl|go_num,by omega,by omega,by omega,HS1.out,by rw [← HR1.out,HQ1.out]⟩
      case measure=>simp [intOf]<;>omega
    ·have hltJ:¬ (a:Int)<(y:Int):=by omega
     obtain rfl:y=a:=by omega
     have HQ1:Hid (m=sink ltN y x k):=zH (by rw [← HQ.out];cases y<;>simp [sink])
     go_wp2
     go_quiet (fail)
     go_wp2
     go_roundw
     case rel=>exact⟨x+1,m,by first|rfl|go_num,by omega,by omega,by omega,by first|exact HT.out|exact HT.out.drewN _,by rw [← HR1.out,HQ1.out]⟩
     case measure=>simp [intOf]<;>omega
  ·have hlt':¬ (x:Int)<(b:Int):=by omega
   have HE:Hid (k=insS ltN a b l):=zH (by rw [← HR.out,show b - x=0 by omega];rfl)
   go_wp2
   go_end0
   exact⟨rfl,HS.out.to HE.out⟩
end Go.Proofs.YtlenbcmgjancmaaGreatDoor
namespace Go.Proofs.YtlenbcmgjancmaaGreatDoor
open Go.RowKit
theorem begins_next {gap:Int}:∀ (l:List Int) (a:Int) (k:Nat) (x n:Int),(beginsF gap a l)[k]?=some x→l[k]?=some n→(beginsF gap a l)[k+1]?=some (x+within3S n 0 4096+gap)
 | [],_,k,_,_,_,h=>by simp at h
 |m :: l,a,0,x,n,h1,h2=>by
  simp [beginsF] at h1 h2
  subst h1 h2
  cases l<;>simp [beginsF]
 |m :: l,a,k+1,x,n,h1,h2=>by
  simp only [beginsF,List.getElem?_cons_succ] at h1 ⊢
  exact begins_next l _ k x n h1 (by simpa using h2)
theorem begins_first (gap a:Int) (l:List Int):(beginsF gap a l)[0]?=some a:=by cases l<;>simp [beginsF]
theorem begins_range {gap:Int} (hg:0≤gap∧gap≤4096):∀ (l:List Int) (a:Int),∀ x ∈ beginsF gap a l,a≤x∧x≤a+8192*l.length
 | [],a,x,h=>by simp [beginsF] at h;subst h;simp
 |n :: l,a,x,h=>by
  simp only [beginsF,List.mem_cons] at h
  rw [List.length_cons]
  rcases h with rfl|h
  ·push_cast;omega
  ·have:=begins_range hg l _ x h
   have h2:0≤within3S n 0 4096∧within3S n 0 4096≤4096:=by unfold within3S;omega
   push_cast;omega
set_option maxRecDepth 100000 in
set_option maxHeartbeats 4000000 in
theorem begins_any {W:World} {v:Value} {l:List Int} (hv:SlI W v l) (gap:Int) (hg:0≤gap∧gap≤4096) (hn:l.length≤4096) :
  Calls Tryz.prog 137 #[v,.int .i64 gap] W (NewI (beginsF gap 0 l) W):=by
 obtain⟨p,c,rfl,_,hx⟩:=hv
 have HX:=zH hx
 obtain⟨n,hnn⟩:∃ n,l.length=n:=⟨_,rfl⟩
 have HN:=zH hnn
 obtain⟨R,hR⟩:∃ R,beginsF gap 0 l=R:=⟨_,rfl⟩
 have hRl:R.length=n+1:=by rw [← hR,beginsF_len,hnn]
 have HRN:Hid (∀ (k:Nat) (x y:Int),R[k]?=some x→l[k]?=some y→R[k+1]?=some (x+within3S y 0 4096+gap)):=zH (by rw [← hR];exact begins_next l 0)
 have HR0:Hid (R[0]?=some 0):=zH (by rw [← hR];exact begins_first gap 0 l)
 have HRR:Hid (∀ x ∈ R,0≤x∧x≤33554432):=zH fun x hx=>by
  rw [← hR] at hx
  have:=begins_range hg l 0 x hx
  omega
 rw [hR]
 rw [hnn] at hn ⊢
 have HRL:=zH hRl
 have hmk:=mk_ints (n+1) (by omega)
 have HP1:Hid (part R 1=List.replicate (n+1) 0):=zH (by
  have h:=HR0.out
  cases hRc:R with
  |nil=>rw [hRc] at h;simp at h
  |cons a t=>rw [hRc] at h;simp at h;subst h;unfold part;have:=HRL.out;rw [hRc] at this;simp at this ⊢;rw [this,← List.replicate_succ])
 push_cast at hmk
 clear hx hnn hR hRl
 have HMK:=zH (ArrI.made W (n+1))
 go_enter Tryz.func137,Tryz.ntmps137
 go_wp2
 go_loopw [14] (fun i wr=>∃ k:Nat,i=.int .i64 k∧k≤n∧ArrI wr W.heap.size (part R (k+1))∧Below W.heap.size W wr) (fun i _=>n - (intOf i).toNat)
 case atStart=>exact⟨0,rfl,by omega,by rw [HP1.out];exact HMK.out,by(repeat (first|exact Below.refl _ _|assumption|refine below_drewN ?_ _|refine Below.drew ?_|(refine Below.alloc ?_ ?bs _;(case bs=>first|omega|(simp;done)|(simp;omega)))|(refine Below.setCell ?_ ?bs _;(case bs=>first|omega|(simp;done)|(simp;omega)))))⟩
 case round=>
  obtain⟨k,rfl,hk,hA,hB⟩:=hrel
  have HA:=zH hA
  have HB:=zH hB
  have l1:=hA.lt
  have l2:=hB.size
  clear hA hB hmk HMK
  by_cases hlt:k<n
  ·have hltI:(k:Int)<(n:Int):=by omega
   obtain⟨y,hy⟩:∃ y,l[k]?=some y:=⟨_,List.getElem?_eq_getElem (by rw [HN.out];exact hlt)⟩
   obtain⟨g,o,rfl,hg9,c1⟩:=HX.out k y hy
   have c1':wr.cell? ⟨g,o+k,none⟩=some (.int .i64 y):=by rw [HB.out.cell (p:=⟨g,o+k,none⟩) hg9];exact c1
   have hgr:g<wr.heap.size:=Nat.lt_of_lt_of_le hg9 l2
   obtain⟨x,hx⟩:∃ x,R[k]?=some x:=⟨_,List.getElem?_eq_getElem (by rw [HRL.out];omega)⟩
   have hxr:=HRR.out x (List.mem_of_getElem? hx)
   have hnx:=HRN.out k x y hx hy
   have c2:wr.cell? ⟨W.heap.size,k,none⟩=some (.int .i64 x):=HA.out.at (by
    unfold part
    rw [List.getElem?_append_left (by rw [List.length_take,HRL.out];omega),List.getElem?_take_of_lt (by omega)];exact hx)
   have c3:wr.cell? ⟨W.heap.size,k+1,none⟩=some (.int .i64 0):=HA.out.at (part_get (by rw [HRL.out];omega))
   have f3:=HA.out.froz (k+1)
   obtain⟨z,hz⟩:∃ z,within3S y 0 4096=z:=⟨_,rfl⟩
   have hzr:0≤z∧z≤4096:=by rw [← hz];unfold within3S;omega
   rw [hz] at hnx
   have HW:=zH (fun W=>within3_any y 0 4096 W)
   rw [hz] at HW
   have HP:Hid (ArrI _ W.heap.size (part R (k+1+1))):=zH ((HA.out.put (k+1) (x+z+gap)).to (part_set hnx))
   have hkI:(k:Int)+1<(n:Int)+1:=by omega
   have hkI0:(k:Int)<(n:Int)+1:=by omega
   have hw1:IntKind.i64.wrap ((k:Int)+1)=(k:Int)+1:=IntWalk.i64_in _ (by omega)
   have hw2:IntKind.i64.wrap (x+z)=x+z:=IntWalk.i64_in _ (by omega)
   have hw3:IntKind.i64.wrap (x+z+gap)=x+z+gap:=IntWalk.i64_in _ (by omega)
   clear hx hy hz hnx c1
   go_wp2
   go_region_with (go_at_call 132;((with_reducible refine(HW.out _).mono ?_);rintro e1' w2 ⟨rfl,hw2⟩;obtain rfl:=hw2.symm))
   all_goals
    go_wp2
    go_roundw
    case rel=>exact⟨k+1,by first|rfl|go_num,by omega,by first|exact HP.out|exact HP.out.drew _,by have hb2:=HB.out;(repeat (first|exact Below.refl _ _|assumption|refine below_drewN ?_ _|refine Below.drew ?_|(refine Below.alloc ?_ ?bs _;(case bs=>first|omega|(simp;done)|(simp;omega)))|(refine Below.setCell ?_ ?bs _;(case bs=>first|omega|(simp;done)|(simp;omega)))))⟩
    case measure=>simp [intOf]<;>omega
  ·have hltI:decide ((k:Int)<(n:Int))=false:=decide_eq_false (by omega)
   obtain rfl:k=n:=by omega
   go_wp2
   go_ret
   exact⟨W.heap.size,by rw [HRL.out];rfl,Nat.le_refl _,HA.out.to (part_full2 HRL.out.symm),HB.out⟩
theorem gd_some {l:List Int} {i:Nat} (h:i<l.length):l[i]?=some (gd l i):=by simp [gd,List.getElem?_eq_getElem h]
def strV:Option (Int × Int)→Value
 |none=>.tuple #[.int .i64 0,.int .i64 0,.bool false]
 |some a=>.tuple #[.int .i64 a.1,.int .i64 a.2,.bool true]
set_option maxRecDepth 100000 in
set_option maxHeartbeats 4000000 in
theorem stretch_any {W:World} {v:Value} {l:List Int} (hv:SlI W v l) (n:Nat) (hn:l.length=n+1) (hn4:n≤4096) (gap fr many:Int) (hg:0≤gap∧gap≤4096) (hf:0≤fr∧fr≤70000000) (hm:1≤many∧many≤4096) (hb:∀ x ∈ l,0≤x∧x≤33554432) :
  Calls Tryz.prog 138 #[v,.int .i64 gap,.int .i64 fr,.int .i64 many] W (fun e W'=>e=.returned (strV (stretchS l gap fr many))∧∃ m,W'=W.drewN m):=by
 obtain⟨p,c,rfl,_,hx⟩:=hv
 have HX:=zH hx
 clear hx
 have hmx:max many 1=many:=by omega
 have hst:stretchS l gap fr many=if (n:Int)≤fr then none else some (gd l fr.toNat,gd l (fr+min many ((n:Int) - fr)).toNat - gap - gd l fr.toNat):=by
  unfold stretchS
  simp only [hn,hmx]
  rw [if_neg (by omega:¬ fr<0),if_neg (by omega:¬ fr<0)]
  push_cast
  rw [Int.add_sub_cancel]
  by_cases h:(n:Int)≤fr
  ·rw [if_pos (.inl h),if_pos h]
  ·rw [if_neg (by omega),if_neg h]
 rw [hst]
 have e1:decide (fr<0)=false:=decide_eq_false (by omega)
 have HN:=zH hn
 rw [hn]
 clear hst hn
 by_cases h:(n:Int)≤fr
 ·rw [if_pos h]
  go_enter Tryz.func138,Tryz.ntmps138
  go_wp2
  go_ret3
  exact⟨rfl,0,rfl⟩
 ·rw [if_neg h]
  have hD:decide ((n:Int)≤fr)=false:=decide_eq_false h
  have e2:decide (many<1)=false:=decide_eq_false (by omega)
  obtain⟨a,rfl⟩:∃ a:Nat,fr=a:=⟨fr.toNat,by omega⟩
  obtain⟨m,hmm⟩:∃ m:Nat,min many ((n:Int) - (a:Int))=m:=⟨(min many ((n:Int) - (a:Int))).toNat,by omega⟩
  have hmn:1≤m∧a+m≤n:=by omega
  rw [hmm]
  rw [show ((a:Int)+(m:Int)).toNat=a+m by omega,Int.toNat_natCast]
  obtain⟨x,hx⟩:∃ x,gd l a=x:=⟨_,rfl⟩
  obtain⟨y,hy⟩:∃ y,gd l (a+m)=y:=⟨_,rfl⟩
  have gx:=gd_some (l:=l) (i:=a) (by rw [HN.out];omega)
  have gy:=gd_some (l:=l) (i:=a+m) (by rw [HN.out];omega)
  rw [hx] at gx ⊢
  rw [hy] at gy ⊢
  have hxr:=hb x (List.mem_of_getElem? gx)
  have hyr:=hb y (List.mem_of_getElem? gy)
  obtain⟨g,o,rfl,hg9,c1⟩:=HX.out a x gx
  obtain⟨g',o',e9,hg9',c2⟩:=HX.out (a+m) y gy
  obtain⟨rfl,rfl⟩:g=g'∧o=o':=by simpa using e9
  have i1:(a:Int)<(n:Int)+1:=by omega
  have i2:(a:Int)+(m:Int)<(n:Int)+1:=by omega
  clear gx gy hx hy hb e9
  go_enter Tryz.func138,Tryz.ntmps138
  go_upto_region 9 with (fail)
  go_quiet (fail)
  go_wp2
  go_ret3
  exact⟨rfl,_,rfl⟩
end Go.Proofs.YtlenbcmgjancmaaGreatDoor
