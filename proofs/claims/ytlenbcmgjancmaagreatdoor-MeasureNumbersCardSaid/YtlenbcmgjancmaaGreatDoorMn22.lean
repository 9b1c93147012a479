import Derived.Test.YtlenbcmgjancmaaGreatDoorMn18
import Derived.Test.YtlenbcmgjancmaaGreatDoorMn04
import Derived.Deep.DeepCutAuto
import Derived.Deep.RegionHeld3
import Derived.Deep.QuietTactic
import Derived.StillTailTactics
import Derived.WalkArith
import Derived.Test.YtlenbcmgjancmaaGreatDoorMn21
import Derived.Maps.Range
import Derived.Test.YtlenbcmgjancmaaGreatDoorMn19
set_option linter.unusedVariables false
set_option linter.unusedSimpArgs false
namespace Go.Proofs.YtlenbcmgjancmaaGreatDoor
open Go.RowKit Go.Maps
theorem zeroI (w:World):(zeroValue 3).run Tryz.prog w=.ok (.int .i64 0) w:=by kernel_rfl
abbrev OSt (wA:World) (kb:Nat) (n y x:Int) (pm g bk bm nn cc K1:Nat) (f:Int→Int→Int→Int) (W:World):Prop :=
 W.cell? ⟨pm,0,none⟩=some (.slice (some ⟨g,0,none⟩) nn cc)∧W.cell? ⟨kb,0,none⟩=some (.int .i64 n)∧W.cell? ⟨kb,1,none⟩=some (.int .i64 y)∧W.cell? ⟨kb,2,none⟩=some (.int .i64 x)∧
  W.cell? ⟨pm,2,none⟩=some (.map (some bm))∧wA.grownBy W (some bm)∧MInv W pm g bk bm nn cc K1 f
theorem OSt.start {wA:World} {kb:Nat} {n y x:Int} {pm g bk bm nn cc K K1:Nat} {f:Int→Int→Int→Int} (M:MInv wA pm g bk bm nn cc K f) (hK:K≤K1) (b0:wA.cell? ⟨kb,0,none⟩=some (.int .i64 n)) (b1:wA.cell? ⟨kb,1,none⟩=some (.int .i64 y)) (b2:wA.cell? ⟨kb,2,none⟩=some (.int .i64 x)):OSt wA kb n y x pm g bk bm nn cc K1 f wA :=
 ⟨M.c0,b0,b1,b2,M.c2,World.grownBy.refl _ _,M.mono hK⟩
theorem OSt.drew {wA:World} {kb:Nat} {n y x:Int} {pm g bk bm nn cc K1:Nat} {f:Int→Int→Int→Int} {W:World} (h:OSt wA kb n y x pm g bk bm nn cc K1 f W):OSt wA kb n y x pm g bk bm nn cc K1 f W.drew :=
 ⟨h.1,h.2.1,h.2.2.1,h.2.2.2.1,h.2.2.2.2.1,World.grownBy.trans h.2.2.2.2.2.1 (grownBy_drew _ _),h.2.2.2.2.2.2.kept (grownBy_drew _ none) (by simp) (by simp) (by simp)⟩
theorem OSt.call {wA:World} {kb:Nat} {n y x:Int} {pm g bk bm nn cc K1:Nat} {f:Int→Int→Int→Int} {W W':World} (h:OSt wA kb n y x pm g bk bm nn cc K1 f W) (hk:kb ≠ bm) (hg:W.grownBy W' (some bm)) (hM:MInv W' pm g bk bm nn cc K1 f):OSt wA kb n y x pm g bk bm nn cc K1 f W' :=
 ⟨hM.c0,hg.cell h.2.1 (by simpa using hk),hg.cell h.2.2.1 (by simpa using hk),hg.cell h.2.2.2.1 (by simpa using hk),hM.c2,World.grownBy.trans h.2.2.2.2.2.1 hg,hM⟩
end Go.Proofs.YtlenbcmgjancmaaGreatDoor
namespace Go.Proofs.YtlenbcmgjancmaaGreatDoor
open Go.RowKit Go.Maps
def TreeAt (w:World) (p:Option Addr) (ns:List ND):Prop :=
 ∀ (i:Nat) x,ns[i]?=some x→∃ g o,p=some ⟨g,o,none⟩∧g<w.heap.size∧∃ kv cv,NodeV w g (o+i*34) x kv cv∧SlI w kv x.kids∧SlT w cv x.cols
theorem mk_bools (N:Nat) (hN:N≤4096) (w:World):(Instr.makeSlice 81 (.int .i64 N) (.int .i64 N)).run Tryz.prog w=.ok (.slice (some ⟨w.heap.size,0,none⟩) N N) (w.alloc (.cells (madeCells #[.bool false] N) 4)):=by
 obtain⟨i0,hi,hz0,hz1,hz2⟩:=info_parts (P:=Tryz.prog) (show (Tryz.prog.info? 4).map (fun i=>(i.zero,i.size,i.bytes))=some (some (.bool false),1,1) by kernel_rfl)
 have:=run_makeSlice (P:=Tryz.prog) (w:=w) 81 4 i0 (.bool false) Tryz.underlying81 hi hz0 .i64 .i64 N N (by omega) (Int.le_refl _) (by rw [hz1];simp;omega) (by rw [hz2];omega) (by omega)
 rw [hz1] at this
 simpa [Value.cells] using this
theorem mk_ints6 (N:Nat) (hN:N≤4398046511104) (w:World):(Instr.makeSlice 38 (.int .i64 N) (.int .i64 N)).run Tryz.prog w=.ok (.slice (some ⟨w.heap.size,0,none⟩) N N) (w.alloc (.cells (madeCells #[.int .i64 0] N) 3)):=by
 obtain⟨i0,hi,hz0,hz1,hz2⟩:=info_parts (P:=Tryz.prog) (show (Tryz.prog.info? 3).map (fun i=>(i.zero,i.size,i.bytes))=some (some (.int .i64 0),1,8) by kernel_rfl)
 have:=run_make (P:=Tryz.prog) w 38 3 i0 (.int .i64 0) Tryz.underlying38 hi hz0 .i64 .i64 N N (by omega) (Int.le_refl _) (by rw [hz2];omega) (by omega)
 rw [hz1] at this
 simpa [Value.cells] using this
theorem cs0_made (w:World) (N:Nat) (hN:N≤4096) (nv:Value) :
  CkM w N w.heap.size (w.heap.size+1) (w.heap.size+1+1) (w.heap.size+1+1+1) nv 0 (cs0 N) ((((w.alloc (.cells #[nv] 24)).alloc (.cells (madeCells #[.bool false] N) 4)).alloc (.cells (madeCells #[.int .i64 0] N) 3)).alloc (.map #[] 0)):=by
 refine⟨by go_simp,by omega,by omega,by omega,by omega,by omega,by omega,by omega,by omega,by omega,by omega,by simp [cs0],by simp [cs0],?_,?_,?_,⟨.map [],?_,seen_empty⟩,by(repeat (first|exact Below.refl _ _|assumption|refine below_drewN ?_ _|refine Below.drew ?_|(refine Below.alloc ?_ ?bs _;(case bs=>first|omega|(simp;done)|(simp;omega)))|(refine Below.setCell ?_ ?bs _;(case bs=>first|omega|(simp;done)|(simp;omega)))))⟩
 ·intro i d hd
  simp [cs0,List.getElem?_replicate] at hd
  omega
 ·have:=World.ownsRow_lit (base:=w.heap.size) (e:=4) (size:=1) (w.alloc (.cells #[nv] 24)) (madeCells #[.bool false] N) N (by simp) (by unfold maxLen;omega) (by simp [size_madeCells])
  rw [toList_madeCells_one] at this
  simpa [bvs,cs0,List.map_replicate] using (this.alloc _).alloc _
 ·have:=World.ownsRow_lit (base:=w.heap.size) (e:=3) (size:=1) ((w.alloc (.cells #[nv] 24)).alloc (.cells (madeCells #[.bool false] N) 4)) (madeCells #[.int .i64 0] N) N (by simp;omega) (by unfold maxLen;omega) (by simp [size_madeCells])
  rw [toList_madeCells_one] at this
  simpa [ivs,cs0,List.map_replicate] using this.alloc _
 ·have:=World.ownsMap_made (H:=Unit) ((((w.alloc (.cells #[nv] 24)).alloc (.cells (madeCells #[.bool false] N) 4)).alloc (.cells (madeCells #[.int .i64 0] N) 3))) Tryz.prog 9 (plainElem Tryz.prog 3)
  simpa [Value.cells] using this
theorem lt_maxLen {n:Nat} (h:n≤4096):n<maxLen:=Nat.lt_of_le_of_lt h (by decide)
def ChkC (w:World) (N:Nat) (nv:Value) (s1 s4 s5 s6:Value) (W:World):Prop :=
 ∃ b1 b4 b5 bm:Nat,s1=.pointer (some ⟨b1,0,none⟩)∧s4=.slice (some ⟨b4,0,none⟩) N N∧s5=.slice (some ⟨b5,0,none⟩) N N∧s6=.map (some bm)∧CkM w N b1 b4 b5 bm nv 0 (cs0 N) W
open Classical in
theorem nodeC_kids {N n:Nat} {x:ND} {s:CS} (h1:¬ (x.kd<1∨11<x.kd)) (h2:¬ IdBad x s.ids) (h3:¬ ClBad x):nodeC N n x s=match kidsC N n x.kids s.tk s.dp with
  |none=>.error 102
  |some (tk,dp)=>
   if KBad x.kd x.kids.length then .error 102 else if ¬ ItemsP x then .error 104 else if ¬ FieldsP x then .error 106 else if 65536<x.tx.size then .error 3
   else .ok ⟨tk,dp,if x.id.size=0 then s.ids else x.id.data.toList :: s.ids⟩:=by
 unfold nodeC
 rw [if_neg h1,if_neg h2,if_neg h3]
 cases kidsC N n x.kids s.tk s.dp with
 |none=>rfl
 |some p=>by_cases a:KBad x.kd x.kids.length<;>by_cases b:ItemsP x<;>by_cases c:FieldsP x<;>by_cases d:65536<x.tx.size<;>simp [a,b,c,d]
theorem kidsC_drop {N n m:Nat} {l:List Int} {k:Int} {tk:List Bool} {dp:List Int} (h:l[m]?=some k):kidsC N n (l.drop m) tk dp=if k≤(n:Int)∨(N:Int)≤k∨tk[k.toNat]?=some true then none else kidsC N n (l.drop (m+1)) (tk.set k.toNat true) (dp.set k.toNat ((dp[n]?).getD 0+1)):=by
 obtain⟨h1,rfl⟩:=List.getElem?_eq_some_iff.1 h
 rw [List.drop_eq_getElem_cons h1]
 rfl
set_option maxRecDepth 100000 in
set_option maxHeartbeats 4000000 in
theorem check_gen (w:World) (p:Option Addr) (c:Nat) (ns:List ND) (hT:TreeAt w p ns) (hl:ns.length≤4398046511104) (hid:∀ x ∈ ns,x.id.size≤maxLen) (h8:∀ x ∈ ns,X8 x) :
  Calls Tryz.prog 19 #[.agg #[.slice p ns.length c]] w (VBel (.tuple #[.int .i64 (checkS ns).1,.int .i64 (checkS ns).2]) w):=by
 by_cases h0:ns.length=0
 ·have HR:Hid (checkS ns=(100,0)):=zH (by unfold checkS;rw [if_pos (.inl h0)])
  rw [h0]
  go_enter Tryz.func19,Tryz.ntmps19
  go_wp2
  go_ret2
  exact⟨by rw [HR.out];rfl,by(repeat (first|exact Below.refl _ _|assumption|refine below_drewN ?_ _|refine Below.drew ?_|(refine Below.alloc ?_ ?bs _;(case bs=>first|omega|(simp;done)|(simp;omega)))|(refine Below.setCell ?_ ?bs _;(case bs=>first|omega|(simp;done)|(simp;omega)))))⟩
 by_cases h1:4096<ns.length
 ·have HR:Hid (checkS ns=(100,0)):=zH (by unfold checkS;rw [if_pos (.inr h1)])
  have e0:((ns.length:Int) == 0)=false:=by rw [beq_eq_false_iff_ne];omega
  have e1:(4096:Int)<(ns.length:Int):=by omega
  clear h0 h1 hT h8
  go_enter Tryz.func19,Tryz.ntmps19
  go_wp2
  go_ret2
  exact⟨by rw [HR.out];rfl,by(repeat (first|exact Below.refl _ _|assumption|refine below_drewN ?_ _|refine Below.drew ?_|(refine Below.alloc ?_ ?bs _;(case bs=>first|omega|(simp;done)|(simp;omega)))|(refine Below.setCell ?_ ?bs _;(case bs=>first|omega|(simp;done)|(simp;omega)))))⟩
 have HB:Hid (¬ (ns.length=0∨4096<ns.length)):=zH (by omega)
 have HT:=zH hT
 have HI:=zH hid
 have HX8:=zH h8
 obtain⟨N,hN⟩:∃ N,ns.length=N:=⟨_,rfl⟩
 have HN:=zH hN
 rw [hN] at h0 h1 ⊢
 clear hT hid hN hl h8
 have e0:((N:Int) == 0)=false:=by simp;omega
 have e1:¬ (4096:Int)<(N:Int):=by omega
 have hmk:=mk_bools N (by omega)
 have hmk2:=mk_ints6 N (by omega)
 have hmm:=@run_makeMap Tryz.prog
 go_enter Tryz.func19,Tryz.ntmps19
 go_upto_region 5 with (fail)
 go_cut [1,4,5,6] (ChkC w N (.slice p N c))
 case first=>
  go_wp2_with fail
  go_meet
  refine⟨_,_,_,_,rfl,rfl,rfl,rfl,?_⟩
  exact cs0_made w N (by omega) _
 case rest=>
 obtain⟨b1,b4,b5,bm,rfl,rfl,rfl,rfl,hM⟩:=hcut
 have HM0:=zH hM
 have c1:=hM.c1
 clear hM hmk hmk2 hmm
 go_wp2
 go_loopw [35] (fun i wr=>∃ (n:Nat) (s:CS),i=.int .i64 n∧n≤N∧CkM w N b1 b4 b5 bm (.slice p N c) n s wr∧nodesC N 0 ns (cs0 N)=nodesC N n (ns.drop n) s) (fun i _=>N - (intOf i).toNat)
 case atStart=>exact⟨0,cs0 N,rfl,by omega,HM0.out,rfl⟩
 case round=>
  obtain⟨n,s,rfl,hn,hM,hS⟩:=hrel
  have HM:=zH hM
  have HS:=zH hS
  clear hM hS c1
  have c1:=HM.out.c1
  by_cases hlt:n<N
  ·have hltI:(n:Int)<(N:Int):=by omega
   obtain⟨x,hx⟩:∃ x,ns[n]?=some x:=⟨_,List.getElem?_eq_getElem (by have:=HN.out;omega)⟩
   have HX:=zH hx
   obtain⟨g,o,rfl,hg,kv,cv,hV,hK,hC⟩:=HT.out n x hx
   have HE:Hid (∀ e,nodeC N n x s=.error e→checkS ns=(e,n)):=zH fun e he=>checkS_err HB.out (by rw [HN.out];exact HS.out) HX.out (by rw [HN.out];exact he)
   have HV:=zH (hV.below HM.out.bel hg)
   have HV0:=zH hV
   have hgr0:=zH hg
   have HK0:=zH hK
   have HC0:=zH hC
   have hgr:g<wr.heap.size:=Nat.lt_of_lt_of_le hg HM.out.bel.size
   have HK:=zH (hK.below HM.out.bel)
   have HC:=zH (hC.below HM.out.bel)
   have HID:=zH (HI.out x (List.mem_of_getElem? hx))
   have H8:=zH (HX8.out x (List.mem_of_getElem? hx))
   have HST:=zH fun s' (h:nodeC N n x s=.ok s')=>HS.out.trans (nodesC_step HX.out h)
   clear hx hV hK hC hg
   have a1:=HV.out.kd
   by_cases hk1:x.kd<1
   ·have hr:=HE.out 101 (by unfold nodeC;rw [if_pos (.inl hk1)])
    have HR:=zH hr
    clear hr
    go_wp2
    go_ret2
    exact⟨by rw [HR.out];rfl,HM.out.bel⟩
   by_cases hk2:11<x.kd
   ·have hr:=HE.out 101 (by unfold nodeC;rw [if_pos (.inr hk2)])
    have HR:=zH hr
    clear hr
    go_wp2
    go_ret2
    exact⟨by rw [HR.out];rfl,HM.out.bel⟩
   have HKD:Hid (¬ (x.kd<1∨11<x.kd)):=zH (by omega)
   have a2:=HV.out.id
   go_upto_if 59 with (fail)
   go_cut [] (fun W=>¬ IdBad x s.ids∧CkM w N b1 b4 b5 bm (.slice (some ⟨g,o,none⟩) N c) (n+1) ⟨s.tk,s.dp,if x.id.size=0 then s.ids else x.id.data.toList :: s.ids⟩ W)
   case first=>
    by_cases hz:x.id.size=0
    ·have e2:x.id.toList.isEmpty=true:=by rw [empty_of_size hz,ByteArray.toList_eq];rfl
     simp only [e2,Bool.not_true]
     go_wp2_with fail
     go_meet
     exact⟨fun h=>h.1 hz,by rw [if_pos hz];exact HM.out.mono (by omega)⟩
    ·have e2:x.id.toList.isEmpty=false:=by
      rw [List.isEmpty_eq_false_iff]
      intro h
      exact hz (by rw [ba_toList h];rfl)
     simp only [e2,Bool.not_false]
     obtain⟨D,hown,hseen⟩:=HM.out.mp
     have hkl:keyOf Tryz.prog 9 (.string x.id)=some (.string x.id.data.toList):=WideMaps.keyOf_string_mk Tryz.underlying9 HID.out
     obtain⟨k,hrun,hat,hwk⟩:=hown.lookup_int (t:=82) str_keyed Tryz.underlying82 Tryz.underlying3 (zeroI wr) hkl
     have HS1:=zH hseen
     have HO:=zH hown
     have HKL:=zH hkl
     have hks:0<k↔x.id.data.toList ∈ s.ids:=by
      obtain⟨k',h1',h2'⟩:=hseen x.id.data.toList (by rw [blen];exact HID.out)
      rw [hat] at h1'
      obtain rfl:k=k':=by simpa using h1'
      exact h2'
     clear hseen hown hkl hat hwk
     by_cases hsn:0<k
     ·have hr:=HE.out 105 (by unfold nodeC;rw [if_neg HKD.out,if_pos (show IdBad x s.ids from⟨hz,.inl (hks.1 hsn)⟩)])
      have HR:=zH hr
      clear hr hks
      go_wp2_with fail
      go_ret2
      exact⟨by rw [HR.out];rfl,HM.out.bel⟩
     ·have hni:x.id.data.toList ∉ s.ids:=fun h=>hsn (hks.2 h)
      have HNI:=zH hni
      clear hks hni
      by_cases hnm:NameP x.id
      ·have hNM:∀ W,Calls Tryz.prog 31 #[.string x.id] W (VRet (.bool true) W):=fun W=>by have:=name_any x.id W;rwa [show decide (NameP x.id)=true from decide_eq_true hnm] at this
       have HNM:=zH hNM
       have HNP:=zH hnm
       have HNL:=zH (lt_maxLen (n:=n) (by omega))
       clear hNM hnm
       have hwf:(Lit.int .i64 ((n:Int)+1)).wf=true:=WalkArith.wf_i64 (by omega)
       go_wp2_with (first|(go_at_call 31;((with_reducible refine(HNM.out _).mono ?_);rintro e1' w1 ⟨rfl,rfl⟩))|(at_mapUpdate;refine wpList_mapUpdate_own _ rfl _ _ _ 82 rfl 9 3 str_keyed Tryz.underlying82 _ bm n D rfl HO.out HNL.out (.string x.id) _ _ rfl rfl HKL.out _ [] (plainElem_int Tryz.underlying3 hwf) ?_;intro w5 hown5 hgr5))
       go_meet
       refine⟨fun h=>h.2.elim (fun h=>HNI.out h) (fun h=>h HNP.out),?_⟩
       rw [if_neg hz]
       exact HM.out.seen hgr5 hown5 (seen_put HS1.out HO.out.isMap _ _ (by omega) (by rw [blen];exact HID.out) ⟨_,HKL.out⟩)
      ·have hNM:∀ W,Calls Tryz.prog 31 #[.string x.id] W (VRet (.bool false) W):=fun W=>by have:=name_any x.id W;rwa [show decide (NameP x.id)=false from decide_eq_false hnm] at this
       have hr:=HE.out 105 (by unfold nodeC;rw [if_neg HKD.out,if_pos (show IdBad x s.ids from⟨hz,.inr hnm⟩)])
       have HNM:=zH hNM
       have HR:=zH hr
       clear hNM hnm hr
       go_wp2_with (go_at_call 31;((with_reducible refine(HNM.out _).mono ?_);rintro e1' w1 ⟨rfl,rfl⟩))
       go_ret2
       exact⟨by rw [HR.out];rfl,HM.out.bel⟩
   case rest=>
   obtain⟨hib,hM2⟩:=hcut
   have HIB:=zH hib
   have HM2:=zH hM2
   clear hib hM2 a1 a2 c1
   generalize hids:(if x.id.size=0 then s.ids else x.id.data.toList :: s.ids)=ids2 at *
   have HIDS:=zH hids
   clear hids
   have hgr:g<wc.heap.size:=Nat.lt_of_lt_of_le hgr0.out HM2.out.bel.size
   have HVc:=zH (HV0.out.below HM2.out.bel hgr0.out)
   have a3:=HVc.out.cl
   go_upto_region 16 with (fail)
   go_cut [95] (fun v W=>∃ t:Bool,v=.bool t∧(t=true↔ClBad x)∧W=wc)
   case first=>as_aux_lemma=>
    by_cases hz:x.cl.size=0
    ·have e2:x.cl.toList.isEmpty=true:=by rw [empty_of_size hz,ByteArray.toList_eq];rfl
     have e3:(x.cl.toList == [])=true:=by rw [empty_of_size hz,ByteArray.toList_eq];rfl
     go_wp2_with fail
     go_meet
     exact⟨false,rfl,by simp [ClBad,hz],rfl⟩
    ·have e2:x.cl.toList.isEmpty=false:=by
      rw [List.isEmpty_eq_false_iff]
      intro h
      exact hz (by rw [ba_toList h];rfl)
     have e3:(x.cl.toList == [])=false:=by
      rw [beq_eq_false_iff_ne]
      intro h
      exact hz (by rw [ba_toList h];rfl)
     by_cases hnm:NameP x.cl
     ·have hNM:∀ W,Calls Tryz.prog 31 #[.string x.cl] W (VRet (.bool true) W):=fun W=>by have:=name_any x.cl W;rwa [show decide (NameP x.cl)=true from decide_eq_true hnm] at this
      have HNM:=zH hNM
      have HNP:Hid (¬ ClBad x):=zH fun h=>h.2 hnm
      clear hNM hnm
      go_wp2_with (go_at_call 31;((with_reducible refine(HNM.out _).mono ?_);rintro e1' w1 ⟨rfl,rfl⟩))
      go_meet
      exact⟨false,rfl,by simp [HNP.out],rfl⟩
     ·have hNM:∀ W,Calls Tryz.prog 31 #[.string x.cl] W (VRet (.bool false) W):=fun W=>by have:=name_any x.cl W;rwa [show decide (NameP x.cl)=false from decide_eq_false hnm] at this
      have HNM:=zH hNM
      have HNP:Hid (ClBad x):=zH ⟨hz,hnm⟩
      clear hNM hnm
      go_wp2_with (go_at_call 31;((with_reducible refine(HNM.out _).mono ?_);rintro e1' w1 ⟨rfl,rfl⟩))
      go_meet
      exact⟨true,rfl,by simp [HNP.out],rfl⟩
   case rest=>
   obtain⟨t,rfl,ht,hwc⟩:=hcut
   obtain rfl:=hwc.symm
   cases t with
   |true=>as_aux_lemma=>
     have hr:=HE.out 105 (by unfold nodeC;rw [if_neg HKD.out,if_neg HIB.out,if_pos (ht.1 rfl)])
     have HR:=zH hr
     clear hr ht
     go_wp2
     go_ret2
     exact⟨by rw [HR.out];rfl,HM2.out.bel⟩
   |false=>
   have HCB:Hid (¬ ClBad x):=zH fun h=>absurd (ht.2 h) (by simp)
   clear ht
   have HNC:=zH (nodeC_kids (N:=N) (n:=n) HKD.out HIB.out HCB.out)
   obtain⟨pk,ck,rfl,hkl,-⟩:=HK0.out
   have a4:=HVc.out.kids
   have c1:=HM2.out.c1
   go_wp2
   go_loopw [102] (fun i w2=>∃ (m:Nat) (tk:List Bool) (dp:List Int),i=.int .i64 m∧m≤x.kids.length∧CkM w N b1 b4 b5 bm (.slice (some ⟨g,o,none⟩) N c) (n+1) ⟨tk,dp,ids2⟩ w2∧kidsC N n (x.kids.drop m) tk dp=kidsC N n x.kids s.tk s.dp) (fun i _=>x.kids.length - (intOf i).toNat)
   case atStart=>exact⟨0,s.tk,s.dp,rfl,by omega,HM2.out,rfl⟩
   case round=>
    obtain⟨m,tk,dp,rfl,hm,hM3,hKD⟩:=hrel
    have HM3:=zH hM3
    have HKD3:=zH hKD
    clear hM3 hKD c1 a3 a4 hgr
    have c1:=HM3.out.c1
    by_cases hml:m<x.kids.length
    ·as_aux_lemma=>
      have hmlI:(m:Int)<(x.kids.length:Int):=by omega
      obtain⟨k,hk⟩:∃ k,x.kids[m]?=some k:=⟨_,List.getElem?_eq_getElem hml⟩
      obtain⟨p2,c2,e2,-,hel⟩:=(HK0.out.below HM3.out.bel)
      obtain⟨rfl,-,rfl⟩:pk=p2∧True∧ck=c2:=by simpa using e2
      obtain⟨gk,ok,rfl,hgk,hck⟩:=hel m k hk
      have hdr:=kidsC_drop (N:=N) (n:=n) (tk:=tk) (dp:=dp) hk
      rw [HKD3.out] at hdr
      have HN0:Hid ((k≤(n:Int)∨(N:Int)≤k∨tk[k.toNat]?=some true)→checkS ns=(102,n)):=zH fun h=>HE.out 102 (by rw [HNC.out,hdr,if_pos h])
      have HN1:Hid (¬ (k≤(n:Int)∨(N:Int)≤k∨tk[k.toNat]?=some true)→kidsC N n (x.kids.drop (m+1)) (tk.set k.toNat true) (dp.set k.toNat ((dp[n]?).getD 0+1))=kidsC N n x.kids s.tk s.dp):=zH fun h=>by rw [hdr,if_neg h]
      have htl:=HM3.out.tl
      have hdl:=HM3.out.dl
      dsimp only at htl hdl
      clear hk hdr e2 hel
      by_cases hk1:k≤(n:Int)
      ·have HR:=zH (HN0.out (.inl hk1))
       go_wp2
       go_ret2
       exact⟨by rw [HR.out];rfl,HM3.out.bel⟩
      have hk1d:decide (k≤(n:Int))=false:=decide_eq_false hk1
      by_cases hk2:(N:Int)≤k
      ·have HR:=zH (HN0.out (.inr (.inl hk2)))
       go_wp2
       go_ret2
       exact⟨by rw [HR.out];rfl,HM3.out.bel⟩
      have hk2d:decide ((N:Int)≤k)=false:=decide_eq_false hk2
      obtain⟨q,rfl⟩:∃ q:Nat,k=q:=⟨k.toNat,by omega⟩
      have hqN:(q:Int)<(N:Int):=by omega
      obtain⟨t,ht⟩:∃ t,tk[q]?=some t:=⟨_,List.getElem?_eq_getElem (by omega)⟩
      have ct:wr.cell? ⟨b4,q,none⟩=some (.bool t):=by rw [World.ownsRow.cellAt HM3.out.tk q (by omega)];simp [bvs,ht]
      cases t with
      |true=>
       have HR:=zH (HN0.out (.inr (.inr (by simpa using ht))))
       clear ht
       go_wp2
       go_ret2
       exact⟨by rw [HR.out];rfl,HM3.out.bel⟩
      |false=>
       have HKK:=zH (HN1.out (by rintro(h|h|h);(exact hk1 h);(exact hk2 h);(simp [ht] at h)))
       simp only [Int.toNat_natCast] at HKK
       obtain⟨dn,hdn⟩:∃ dn,dp[n]?=some dn:=⟨_,List.getElem?_eq_getElem (by omega)⟩
       obtain⟨dq,hdq⟩:∃ dq,dp[q]?=some dq:=⟨_,List.getElem?_eq_getElem (by omega)⟩
       have hdnr:=HM3.out.dk n dn hdn
       have cn:wr.cell? ⟨b5,n,none⟩=some (.int .i64 dn):=by rw [World.ownsRow.cellAt HM3.out.dp n (by omega)];simp [ivs,hdn]
       have cq:wr.cell? ⟨b5,q,none⟩=some (.int .i64 dq):=by rw [World.ownsRow.cellAt HM3.out.dp q (by omega)];simp [ivs,hdq]
       have f4:=World.ownsRow.frozenAt HM3.out.tk q
       have f5:=World.ownsRow.frozenAt HM3.out.dp q
       have n45:=HM3.out.n45
       have n54:=HM3.out.n45.symm
       have hnN:(n:Int)<(N:Int):=by omega
       have HTK:=zH (HM3.out.take (k:=q) (n:=n) (by omega))
       rw [hdn] at HTK HKK
       simp only [Option.getD_some] at HTK HKK
       clear ht hdn hdq
       go_wp2
       go_roundw
       case rel=>exact⟨m+1,_,_,by first|rfl|go_num,by omega,HTK.out,HKK.out⟩
       case measure=>simp [intOf]<;>omega
    ·have hmlI:decide ((m:Int)<(x.kids.length:Int))=false:=decide_eq_false (by omega)
     obtain rfl:m=x.kids.length:=by omega
     have HKS:Hid (kidsC N n x.kids s.tk s.dp=some (tk,dp)):=zH (by rw [← HKD3.out,List.drop_length];rfl)
     have hNC:=HNC.out
     rw [HKS.out] at hNC
     dsimp only at hNC
     have HNC2:=zH hNC
     clear hNC hmlI hml hm
     have HVd:=zH (HV0.out.below HM3.out.bel hgr0.out)
     have hgrd:g<wr.heap.size:=Nat.lt_of_lt_of_le hgr0.out HM3.out.bel.size
     have a1:=HVd.out.kd
     have a4:=HVd.out.kids
     go_upto_region 26 with (fail)
     go_cut [162] (fun v W=>∃ t:Bool,v=.bool t∧(t=true↔KBad x.kd x.kids.length)∧W=wr)
     case first=>as_aux_lemma=>
      have HLF:=zH fun W=>leaf_any x.kd W
      by_cases hlf:LeafP x.kd
      ·have hld:decide (LeafP x.kd)=true:=decide_eq_true hlf
       rw [hld] at HLF
       have hk6:(x.kd == 6)=false:=by rw [beq_eq_false_iff_ne];unfold LeafP at hlf;omega
       have HL2:=zH hlf
       clear hlf hld
       by_cases hl0:0<x.kids.length
       ·have hl0I:(0:Int)<(x.kids.length:Int):=by omega
        have HKB:Hid (KBad x.kd x.kids.length):=zH (.inl ⟨HL2.out,hl0⟩)
        go_wp2_with (go_at_call 32;((with_reducible refine(HLF.out _).mono ?_);rintro e1' w1 ⟨rfl,rfl⟩))
        go_meet
        exact⟨true,rfl,by simp [HKB.out],rfl⟩
       ·have hl0I:decide ((0:Int)<(x.kids.length:Int))=false:=decide_eq_false (by omega)
        have HKB:Hid (¬ KBad x.kd x.kids.length):=zH (by
         have hh:=HL2.out
         unfold LeafP at hh
         rintro(h|h)
         ·exact hl0 h.2
         ·have:=h.1;omega)
        go_wp2_with (go_at_call 32;((with_reducible refine(HLF.out _).mono ?_);rintro e1' w1 ⟨rfl,rfl⟩))
        go_meet
        exact⟨false,rfl,by simp [HKB.out],rfl⟩
      ·have hld:decide (LeafP x.kd)=false:=decide_eq_false hlf
       rw [hld] at HLF
       have HL2:=zH hlf
       clear hlf hld
       by_cases hk6:x.kd=6
       ·have hlf6:=HLF.out
        rw [hk6] at hlf6
        have HLF:=zH hlf6
        clear hlf6
        by_cases hl1:x.kids.length=1
        ·have HKB:Hid (¬ KBad x.kd x.kids.length):=zH (by
          rintro(h|h)
          ·exact HL2.out h.1
          ·exact h.2 hl1)
         have hl1b:((x.kids.length:Int) != 1)=false:=by rw [hl1];rfl
         clear hl1
         go_wp2_with (go_at_call 32;((with_reducible refine(HLF.out _).mono ?_);rintro e1' w1 ⟨rfl,rfl⟩))
         go_meet
         exact⟨false,rfl,by simp [HKB.out],rfl⟩
        ·have HKB:Hid (KBad x.kd x.kids.length):=zH (.inr ⟨hk6,hl1⟩)
         have hl1I:((x.kids.length:Int) != 1)=true:=by rw [bne_iff_ne];omega
         go_wp2_with (go_at_call 32;((with_reducible refine(HLF.out _).mono ?_);rintro e1' w1 ⟨rfl,rfl⟩))
         go_meet
         exact⟨true,rfl,by simp [HKB.out],rfl⟩
       ·have hk6d:(x.kd == 6)=false:=by rw [beq_eq_false_iff_ne];exact hk6
        have HKB:Hid (¬ KBad x.kd x.kids.length):=zH (by
         rintro(h|h)
         ·exact HL2.out h.1
         ·exact hk6 h.1)
        go_wp2_with (go_at_call 32;((with_reducible refine(HLF.out _).mono ?_);rintro e1' w1 ⟨rfl,rfl⟩))
        go_meet
        exact⟨false,rfl,by simp [HKB.out],rfl⟩
     case rest=>
     obtain⟨t,rfl,ht,hwc⟩:=hcut
     obtain rfl:=hwc.symm
     cases t with
     |true=>as_aux_lemma=>
       have HR:=zH (HE.out 102 (by rw [HNC2.out,if_pos (ht.1 rfl)]))
       clear ht
       go_wp2
       go_ret2
       exact⟨by rw [HR.out];rfl,HM3.out.bel⟩
     |false=>
     have HNC3:=HNC2.out
     rw [if_neg fun h=>absurd (ht.2 h) (by simp)] at HNC3
     have HNC3:=zH HNC3
     clear ht
     have hit:=items_gen wr g (o+n*34) x _ _ HVd.out (HC0.out.below HM3.out.bel) hgrd
     obtain⟨ti,hti⟩:∃ ti,decide (ItemsP x)=ti:=⟨_,rfl⟩
     rw [hti] at hit
     have HIT:=zH hit
     clear hit
     obtain⟨tf,htf⟩:∃ tf,decide (FieldsP x)=tf:=⟨_,rfl⟩
     have HFD:Hid (∀ W:World,Below wr.heap.size wr W→Calls Tryz.prog 34 #[.pointer (some ⟨g,o+n*34,none⟩)] W (VRet (.bool tf) W)):=zH fun W hb=>by
      have h1:=fields_gen W g (o+n*34) x _ _ (HVd.out.below hb hgrd) H8.out
      rw [htf] at h1
      exact h1
     cases ti with
     |true=>
      have hits:ItemsP x:=of_decide_eq_true hti
      have HNC4:=HNC3.out
      rw [if_neg (fun h=>h hits)] at HNC4
      have HNC4:=zH HNC4
      clear hits hti
      cases tf with
      |true=>
       have hfs:FieldsP x:=of_decide_eq_true htf
       have HNC5:=HNC4.out
       rw [if_neg (fun h=>h hfs)] at HNC5
       have HNC5:=zH HNC5
       clear hfs htf
       by_cases htx:65536<x.tx.size
       ·as_aux_lemma=>
         obtain⟨L,hL⟩:∃ L:Int,(x.tx.size:Int)=L:=⟨_,rfl⟩
         have htxI:(65536:Int)<L:=by omega
         have HR:=zH (HE.out 3 (by rw [HNC5.out,if_pos htx]))
         clear htx
         go_wp2_with (first|(go_at_call 33;((with_reducible refine HIT.out.mono ?_);rintro e1' w2 ⟨rfl,hb2⟩;have HB2:=zH hb2;have b22:=(HVd.out.below hb2 hgrd).tx;clear hb2))|(go_at_call 34;((with_reducible refine(HFD.out _ HB2.out).mono ?_);rintro e1' w3 ⟨rfl,rfl⟩)))
         go_ret2
         exact⟨by rw [HR.out];rfl,HM3.out.bel.trans (HB2.out.mono HM3.out.bel.size)⟩
       ·as_aux_lemma=>
         have HST2:=zH (HST.out ⟨tk,dp,ids2⟩ (by rw [HNC5.out,if_neg htx,HIDS.out]))
         obtain⟨L,hL⟩:∃ L:Int,(x.tx.size:Int)=L:=⟨_,rfl⟩
         have htxI:decide ((65536:Int)<L)=false:=decide_eq_false (by omega)
         clear htx
         go_wp2_with (first|(go_at_call 33;((with_reducible refine HIT.out.mono ?_);rintro e1' w2 ⟨rfl,hb2⟩;have HB2:=zH hb2;have b22:=(HVd.out.below hb2 hgrd).tx;clear hb2))|(go_at_call 34;((with_reducible refine(HFD.out _ HB2.out).mono ?_);rintro e1' w3 ⟨rfl,rfl⟩)))
         go_roundw
         case rel=>exact⟨n+1,⟨tk,dp,ids2⟩,by first|rfl|go_num,by omega,HM3.out.below HB2.out,HST2.out⟩
         case measure=>simp [intOf]<;>omega
      |false=>as_aux_lemma=>
        have HR:=zH (HE.out 106 (by rw [HNC4.out,if_pos (of_decide_eq_false htf)]))
        clear htf
        go_wp2_with (first|(go_at_call 33;((with_reducible refine HIT.out.mono ?_);rintro e1' w2 ⟨rfl,hb2⟩;have HB2:=zH hb2;clear hb2))|(go_at_call 34;((with_reducible refine(HFD.out _ HB2.out).mono ?_);rintro e1' w3 ⟨rfl,rfl⟩)))
        go_ret2
        exact⟨by rw [HR.out];rfl,HM3.out.bel.trans (HB2.out.mono HM3.out.bel.size)⟩
     |false=>as_aux_lemma=>
       have HR:=zH (HE.out 104 (by rw [HNC3.out,if_pos (of_decide_eq_false hti)]))
       clear hti
       go_wp2_with (go_at_call 33;((with_reducible refine HIT.out.mono ?_);rintro e1' w2 ⟨rfl,hb2⟩;have HB2:=zH hb2;clear hb2))
       go_ret2
       exact⟨by rw [HR.out];rfl,HM3.out.bel.trans (HB2.out.mono HM3.out.bel.size)⟩
  ·have hltI:decide ((n:Int)<(N:Int))=false:=decide_eq_false (by omega)
   obtain rfl:n=N:=by omega
   have HCE:Hid (checkS ns=endC n s):=zH (by
    have:=checkS_end HB.out (s:=s) (by rw [HN.out,HS.out,← HN.out,List.drop_length];rfl)
    rwa [HN.out] at this)
   have H3:Hid (∀ a,a<n→unTaken s a=true→(∀ j,j<a→unTaken s j=false)→checkS ns=(102,a)):=zH fun a ha h1 h2=>by rw [HCE.out];unfold endC;rw [find_first ha h1 h2]
   have H4:Hid ((∀ j,j<n→unTaken s j=false)→∀ a,a<n→tooDeep s a=true→(∀ j,j<a→tooDeep s j=false)→checkS ns=(103,a)):=zH fun h0 a ha h1 h2=>by rw [HCE.out];unfold endC;rw [find_none h0];dsimp only;rw [find_first ha h1 h2]
   have H5:Hid ((∀ j,j<n→unTaken s j=false)→(∀ j,j<n→tooDeep s j=false)→checkS ns=(0,0)):=zH fun h0 h1=>by rw [HCE.out];unfold endC;rw [find_none h0];dsimp only;rw [find_none h1]
   have hNn:1≤n:=by omega
   clear hlt
   go_wp2
   go_loopw [11] (fun i w2=>∃ a:Nat,i=.int .i64 a∧1≤a∧a≤n∧w2=wr∧(∀ j,j<a→unTaken s j=false)) (fun i _=>n - (intOf i).toNat)
   case atStart=>exact⟨1,rfl,by omega,hNn,by first|rfl|trivial,fun j hj=>by
    cases j with
    |zero=>rfl
    |succ j=>simp at hj⟩
   case round=>
    obtain⟨a,rfl,ha1,han,rfl,hall⟩:=hrel
    have HA:=zH hall
    clear hall
    by_cases hlt2:a<n
    ·as_aux_lemma=>
      have hlt2I:(a:Int)<(n:Int):=by omega
      have htl:=HM.out.tl
      obtain⟨t,ht⟩:∃ t,s.tk[a]?=some t:=⟨_,List.getElem?_eq_getElem (by omega)⟩
      have ct:=World.ownsRow.cellAt HM.out.tk a (by omega)
      rw [show (bvs s.tk)[a]?=some (.bool t) by simp [bvs,ht]] at ct
      have HT:=zH ht
      clear ht
      cases t with
      |true=>
       have HU:Hid (unTaken s a=false):=zH (by simp [unTaken,HT.out])
       go_wp2
       go_roundw
       case rel=>exact⟨a+1,by first|rfl|go_num,by omega,by omega,by first|rfl|trivial,fun j hj=>by
        rcases Nat.lt_or_ge j a with h|h
        ·exact HA.out j h
        ·obtain rfl:j=a:=by omega
         exact HU.out⟩
       case measure=>simp [intOf]<;>omega
      |false=>
       have HU:Hid (unTaken s a=true):=zH (by simp [unTaken,HT.out,ha1])
       have HR:=zH (H3.out a hlt2 HU.out HA.out)
       go_wp2
       go_ret2
       exact⟨by rw [HR.out];rfl,HM.out.bel⟩
    ·have hlt2I:decide ((a:Int)<(n:Int))=false:=decide_eq_false (by omega)
     obtain rfl:a=n:=by omega
     go_wp2
     go_loopw [196] (fun i w2=>∃ q:Nat,i=.int .i64 q∧q≤a∧w2=w2∧CkM w a b1 b4 b5 bm (.slice p a c) a s w2∧(∀ j,j<q→tooDeep s j=false)) (fun i _=>a - (intOf i).toNat)
     case atStart=>exact⟨0,rfl,by omega,by first|rfl|trivial,HM.out,fun j hj=>by omega⟩
     case round=>
      obtain⟨q,rfl,hq,-,hM4,hall⟩:=hrel
      have HQ:=zH hall
      have HM4:=zH hM4
      clear hall hM4
      by_cases hlt3:q<a
      ·as_aux_lemma=>
        have hlt3I:(q:Int)<(a:Int):=by omega
        have hdl:=HM4.out.dl
        obtain⟨d,hd⟩:∃ d,s.dp[q]?=some d:=⟨_,List.getElem?_eq_getElem (by omega)⟩
        have ct:=World.ownsRow.cellAt HM4.out.dp q (by omega)
        rw [show (ivs s.dp)[q]?=some (.int .i64 d) by simp [ivs,hd]] at ct
        have HT:=zH hd
        clear hd
        by_cases h64:64≤d
        ·have HU:Hid (tooDeep s q=true):=zH (by simp [tooDeep,HT.out,h64])
         have HR:=zH (H4.out HA.out q hlt3 HU.out HQ.out)
         go_wp2
         go_ret2
         exact⟨by rw [HR.out];rfl,HM4.out.bel⟩
        ·have h64d:decide (64≤d)=false:=decide_eq_false h64
         have HU:Hid (tooDeep s q=false):=zH (by simp [tooDeep,HT.out];omega)
         clear h64
         go_wp2
         go_roundw
         case rel=>exact⟨q+1,by first|rfl|go_num,by omega,by first|rfl|trivial,HM4.out,fun j hj=>by
          rcases Nat.lt_or_ge j q with h|h
          ·exact HQ.out j h
          ·obtain rfl:j=q:=by omega
           exact HU.out⟩
         case measure=>simp [intOf]<;>omega
      ·have hlt3I:decide ((q:Int)<(a:Int))=false:=decide_eq_false (by omega)
       obtain rfl:q=a:=by omega
       have HR:=zH (H5.out HA.out HQ.out)
       go_wp2
       go_ret2
       exact⟨by rw [HR.out];rfl,HM4.out.bel⟩
end Go.Proofs.YtlenbcmgjancmaaGreatDoor
namespace Go.Proofs.YtlenbcmgjancmaaGreatDoor
open Go.RowKit Go.Maps
open Go.WideElems (Fit rd rg pl rd_val elemAt)
theorem nodup_bound:∀ (M:Nat) (l:List Nat),l.Nodup→(∀ x ∈ l,x<M)→l.length≤M
 | 0,l,_,h=>by
  cases l with
  |nil=>exact Nat.le_refl _
  |cons a l=>exact absurd (h a (by simp)) (by omega)
 |M+1,l,hn,h=>by
  by_cases hm:M ∈ l
  ·have h1:=nodup_bound M (l.erase M) (hn.erase M) (fun x hx=>by
    have h2:=(hn.mem_erase_iff.1 hx)
    have h3:=h x h2.2
    have h4:=h2.1
    omega)
   rw [List.length_erase_of_mem hm] at h1
   omega
  ·have h1:=nodup_bound M l hn (fun x hx=>by
    have h3:=h x hx
    have:x ≠ M:=fun e=>hm (e ▸ hx)
    omega)
   omega
def keyN:Nat:=50343936
def KeyOk (kl:Lit):Prop:=∃ n y x:Nat,n<4096∧y<3∧x<4097∧keyOf Tryz.prog 64 (keyV n y x)=some kl
theorem keys_bound {D:DataW Unit} (hT:∃ es,D=.map es∧es.Pairwise (fun p q=>p.1 ≠ q.1)∧∀ p ∈ es,WideAt.IsKeyLit p.1) (h:∀ kl,Maps.has D kl=true→KeyOk kl):Maps.size D≤keyN:=by
 obtain⟨es,rfl,hp,hl⟩:=hT
 have hk:∀ q ∈ es,KeyOk q.1:=fun q hq=>h q.1 (by
  simp only [Maps.has,List.any_eq_true]
  exact⟨q,hq,WideAt.sameKey_self (hl q hq)⟩)
 classical
 let code:Lit × DataW Unit→Nat:=fun q=>if hq:KeyOk q.1 then (Classical.choose hq*3+Classical.choose (Classical.choose_spec hq))*4097+Classical.choose (Classical.choose_spec (Classical.choose_spec hq)) else 0
 have hcode:∀ q ∈ es,∃ n y x:Nat,n<4096∧y<3∧x<4097∧keyOf Tryz.prog 64 (keyV n y x)=some q.1∧code q=(n*3+y)*4097+x:=fun q hq=>by
  have hq':=hk q hq
  have hs:=Classical.choose_spec (Classical.choose_spec (Classical.choose_spec hq'))
  exact⟨_,_,_,hs.1,hs.2.1,hs.2.2.1,hs.2.2.2,by simp only [code];rw [dif_pos hq']⟩
 have hn:(es.map code).Nodup:=by
  rw [List.Nodup,List.pairwise_map]
  refine hp.imp_of_mem ?_
  intro a b ha hb hne e
  obtain⟨n,y,x,h1,h2,h3,h4,h5⟩:=hcode a ha
  obtain⟨n',y',x',h1',h2',h3',h4',h5'⟩:=hcode b hb
  rw [h5,h5'] at e
  have e1:n=n'∧y=y'∧x=x':=by omega
  obtain⟨rfl,rfl,rfl⟩:=e1
  rw [h4] at h4'
  exact hne (Option.some.inj h4')
 have:=nodup_bound keyN (es.map code) hn (fun z hz=>by
  obtain⟨q,hq,rfl⟩:=List.mem_map.1 hz
  obtain⟨n,y,x,h1,h2,h3,_,h5⟩:=hcode q hq
  rw [h5];unfold keyN;omega)
 simpa [Maps.size] using this
theorem ownsMap_tight {H:Type} {P:Program} {k:TypeId} {R:Value→Option (DataW H × List MemPlace)} {w:World} {b n m:Nat} {D:DataW H} (h:w.ownsMap P k R b n D) (hm:Maps.size D≤m):w.ownsMap P k R b m D:=by
 obtain⟨es,clock,hb,F,_,rfl⟩:=h
 exact⟨es,clock,hb,F,by simpa [Maps.size,length_sorted] using hm,rfl⟩
def KnownG (D:DataW Unit) (f:Int→Int→Int→Int):Prop:=Known D f∧∀ kl,Maps.has D kl=true→KeyOk kl
structure MP where
 pm:Nat
 g:Nat
 bk:Nat
 bm:Nat
 cc:Nat
 ns:List ND
 f:Int→Int→Int→Int
structure MG (p:MP) (w:World):Prop where
 c0:w.cell? ⟨p.pm,0,none⟩=some (.slice (some ⟨p.g,0,none⟩) p.ns.length p.cc)
 c1:w.cell? ⟨p.pm,1,none⟩=some (.slice (some ⟨p.bk,0,none⟩) 12 12)
 c2:w.cell? ⟨p.pm,2,none⟩=some (.map (some p.bm))
 kd:KindsAt w p.bk
 nd:TreeAt w (some ⟨p.g,0,none⟩) p.ns
 map:∃ D:DataW Unit,w.ownsMap Tryz.prog 64 (plainElem Tryz.prog 3) p.bm keyN D∧KnownG D p.f
theorem cell_not_map {w:World} {a:Addr} {v:Value} {H:Type} {P:Program} {k:TypeId} {R:Value→Option (DataW H × List MemPlace)} {b n:Nat} {D:DataW H} (hc:w.cell? a=some v) (h:w.ownsMap P k R b n D):a.block ≠ b:=by
 obtain⟨es,clock,hb,_⟩:=h
 intro e
 subst e
 simp [World.cell?,hb] at hc
theorem keeps_of_grown {w w':World} {b:Nat} (hg:w.grownBy w' (some b)) {H:Type} {P:Program} {k:TypeId} {R:Value→Option (DataW H × List MemPlace)} {n:Nat} {D:DataW H} (h:w.ownsMap P k R b n D):Keeps w w':=fun a v hc=>
 hg.cell hc (by simpa using cell_not_map hc h)
theorem keeps_below {w w':World} (h:Below w.heap.size w w'):Keeps w w':=fun a v hc=>by rw [h.cell (World.block_lt_of_cell? w a hc)];exact hc
theorem ItmAt.keeps {w w':World} {g o:Nat} {i:Itm} (h:ItmAt w g o i) (k:Keeps w w'):ItmAt w' g o i:=⟨k _ _ h.k,k _ _ h.n,k _ _ h.d,k _ _ h.mn,k _ _ h.mx⟩
theorem NodeV.keeps {w w':World} {g o:Nat} {x:ND} {kv cv:Value} (h:NodeV w g o x kv cv) (k:Keeps w w'):NodeV w' g o x kv cv:=by
 obtain⟨a1,a2,a3,a4,a5,a6,a7,a8,a9,a10,a11,a12,a13,a14,a15,a16,a17,a18,a19,a20,a21,a22,a23,a24,a25,a26,a27,a28,a29,a30,a31,a32,a33,a34⟩:=h
 constructor<;>(apply k;assumption)
theorem SlI.keeps {w w':World} {v:Value} {l:List Int} (h:SlI w v l) (k:Keeps w w') (hs:w.heap.size≤w'.heap.size):SlI w' v l:=by
 obtain⟨p,c,rfl,hl,hx⟩:=h
 refine⟨p,c,rfl,hl,fun i x hi=>?_⟩
 obtain⟨g,o,e,hg,hc⟩:=hx i x hi
 exact⟨g,o,e,Nat.lt_of_lt_of_le hg hs,k _ _ hc⟩
theorem SlT.keeps {w w':World} {v:Value} {l:List Itm} (h:SlT w v l) (k:Keeps w w') (hs:w.heap.size≤w'.heap.size):SlT w' v l:=by
 obtain⟨p,c,rfl,hl,hx⟩:=h
 refine⟨p,c,rfl,hl,fun i x hi=>?_⟩
 obtain⟨g,o,e,hg,hc⟩:=hx i x hi
 exact⟨g,o,e,Nat.lt_of_lt_of_le hg hs,hc.keeps k⟩
theorem TreeAt.keeps {w w':World} {p:Option Addr} {ns:List ND} (h:TreeAt w p ns) (k:Keeps w w') (hs:w.heap.size≤w'.heap.size):TreeAt w' p ns:=fun i x hi=>by
 obtain⟨g,o,e,hg,kv,cv,h1,h2,h3⟩:=h i x hi
 exact⟨g,o,e,Nat.lt_of_lt_of_le hg hs,kv,cv,h1.keeps k,h2.keeps k hs,h3.keeps k hs⟩
theorem MG.kept {w w':World} {row:Option Nat} {p:MP} (h:MG p w) (k:Keeps w w') (hg:w.grownBy w' row) (hm:some p.bm ≠ row):MG p w':=by
 obtain⟨D,h1,h2⟩:=h.map
 exact⟨k _ _ h.c0,k _ _ h.c1,k _ _ h.c2,h.kd.keeps k,h.nd.keeps k hg.size,D,h1.kept hg hm,h2⟩
theorem MG.below {w w':World} {p:MP} (h:MG p w) (hb:Below w.heap.size w w'):MG p w' :=
 h.kept (keeps_below hb) (grownBy_below hb none) (by simp)
theorem MG.keeps {w w':World} {p:MP} (h:MG p w) (hg:w.grownBy w' (some p.bm)):Keeps w w':=by
 obtain⟨D,h1,_⟩:=h.map
 exact keeps_of_grown hg h1
theorem MG.turned {w w':World} {p:MP} {m:Nat} (h:MG p w) (hg:w.grownBy w' (some p.bm)) {D:DataW Unit} (ho:w'.ownsMap Tryz.prog 64 (plainElem Tryz.prog 3) p.bm m D) (hk:KnownG D p.f):MG p w':=by
 have k:=h.keeps hg
 exact⟨k _ _ h.c0,k _ _ h.c1,k _ _ h.c2,h.kd.keeps k,h.nd.keeps k hg.size,D,ownsMap_tight ho (keys_bound (ho.entries key_keyed) hk.2),hk⟩
theorem MG.lp {w:World} {p:MP} (h:MG p w):p.pm<w.heap.size:=World.block_lt_of_cell? w ⟨p.pm,0,none⟩ h.c0
theorem MG.lk {w:World} {p:MP} (h:MG p w):p.bk<w.heap.size:=World.block_lt_of_cell? w ⟨p.bk,3,none⟩ h.kd.k3
theorem MG.lm {w:World} {p:MP} (h:MG p w):p.bm<w.heap.size:=by obtain⟨D,h1,_⟩:=h.map;exact h1.lt
def GPost (v:Int) (p:MP) (w:World) (e:Ending) (w':World):Prop :=
 e=.returned (.int .i64 v)∧w.grownBy w' (some p.bm)∧MG p w'
theorem MG.again {w0 w1 w':World} {row:Option Nat} {p:MP} (h0:MG p w0) (h1:MG p w1) (hg:w0.grownBy w' (some p.bm)) (hr:w1.grownBy w' row) (hm:some p.bm ≠ row):MG p w':=by
 obtain⟨D,h2,h3⟩:=h1.map
 exact h0.turned hg (h2.kept hr hm) h3
structure MS (p:MP) (w W:World):Prop where
 m0:MG p w
 gr:w.grownBy W (some p.bm)
 mg:MG p W
section
variable {p:MP} {w W W':World}
theorem MS.start (h:MG p w):MS p w w:=⟨h,World.grownBy.refl _ _,h⟩
theorem MS.below (h:MS p w W) (hb:Below W.heap.size W W'):MS p w W':=⟨h.m0,grownBy_then h.gr hb,h.mg.below hb⟩
theorem MS.drew (h:MS p w W):MS p w W.drew:=h.below (Below.drew (Below.refl _ _))
theorem MS.drewN (h:MS p w W) (n:Nat):MS p w (W.drewN n):=h.below (below_drewN (Below.refl _ _) n)
theorem MS.alloc (h:MS p w W) (o:Obj):MS p w (W.alloc o):=h.below (Below.alloc (Below.refl _ _) (Nat.le_refl _) o)
theorem MS.call {v:Int} {e:Ending} (h:MS p w W) (hc:GPost v p W e W'):MS p w W':=⟨h.m0,World.grownBy.trans h.gr hc.2.1,hc.2.2⟩
theorem MS.calls (h:MS p w W) (hg:W.grownBy W' (some p.bm)) (hM:MG p W'):MS p w W':=⟨h.m0,World.grownBy.trans h.gr hg,hM⟩
theorem MS.set (h:MS p w W) {b:Nat} (hb:w.heap.size≤b) (q:Nat) (v:Value):MS p w (W.setCell ⟨b,q,none⟩ v):=by
 have hg:w.grownBy (W.setCell ⟨b,q,none⟩ v) (some p.bm):=World.grownBy.andThen h.gr (grown_set W b q v) (fun j e=>.inl (by have:=Option.some.inj e;omega))
 refine⟨h.m0,hg,h.m0.again h.mg hg (grown_set W b q v) (fun e=>?_)⟩
 have:=h.m0.lm
 have:=Option.some.inj e
 omega
theorem MS.cell (h:MS p w W) {a:Addr} {v:Value} (hc:w.cell? a=some v):W.cell? a=some v:=h.m0.keeps h.gr _ _ hc
theorem MS.size (h:MS p w W):w.heap.size≤W.heap.size:=h.gr.size
theorem MS.post {v:Int} {e:Ending} (h:MS p w W) (he:e=.returned (.int .i64 v)):GPost v p w e W:=⟨he,h.gr,h.mg⟩
end
end Go.Proofs.YtlenbcmgjancmaaGreatDoor
namespace Go.Proofs.YtlenbcmgjancmaaGreatDoor
open Go.RowKit Go.Maps
theorem KnownG.put {D:DataW Unit} {f:Int→Int→Int→Int} (h:KnownG D f) (hm:IsMap D) {n y x:Int} {kl:Lit} (hk:keyOf Tryz.prog 64 (keyV n y x)=some kl) (ho:KeyOk kl) :
  KnownG (D.put kl (.lit (.int .i64 (f n y x)))) f :=
 ⟨h.1.put hm hk,fun kl' h'=>by
  by_cases e:kl'=kl
  ·rw [e];exact ho
  ·rw [Maps.has_put_other e] at h';exact h.2 kl' h'⟩
abbrev GSt (wA:World) (kb:Nat) (n y x:Int) (p:MP) (W:World):Prop :=
 W.cell? ⟨p.pm,0,none⟩=some (.slice (some ⟨p.g,0,none⟩) p.ns.length p.cc)∧W.cell? ⟨kb,0,none⟩=some (.int .i64 n)∧W.cell? ⟨kb,1,none⟩=some (.int .i64 y)∧W.cell? ⟨kb,2,none⟩=some (.int .i64 x)∧
  W.cell? ⟨p.pm,2,none⟩=some (.map (some p.bm))∧wA.grownBy W (some p.bm)∧MG p W
theorem GSt.start {wA:World} {kb:Nat} {n y x:Int} {p:MP} (M:MG p wA) (b0:wA.cell? ⟨kb,0,none⟩=some (.int .i64 n)) (b1:wA.cell? ⟨kb,1,none⟩=some (.int .i64 y)) (b2:wA.cell? ⟨kb,2,none⟩=some (.int .i64 x)):GSt wA kb n y x p wA :=
 ⟨M.c0,b0,b1,b2,M.c2,World.grownBy.refl _ _,M⟩
theorem GSt.drew {wA:World} {kb:Nat} {n y x:Int} {p:MP} {W:World} (h:GSt wA kb n y x p W):GSt wA kb n y x p W.drew :=
 ⟨h.1,h.2.1,h.2.2.1,h.2.2.2.1,h.2.2.2.2.1,World.grownBy.trans h.2.2.2.2.2.1 (grownBy_drew _ _),h.2.2.2.2.2.2.below (Below.drew (Below.refl _ _))⟩
theorem GSt.call {wA:World} {kb:Nat} {n y x:Int} {p:MP} {W W':World} (h:GSt wA kb n y x p W) (hk:kb ≠ p.bm) (hg:W.grownBy W' (some p.bm)) (hM:MG p W'):GSt wA kb n y x p W' :=
 ⟨hM.c0,hg.cell h.2.1 (by simpa using hk),hg.cell h.2.2.1 (by simpa using hk),hg.cell h.2.2.2.1 (by simpa using hk),hM.c2,World.grownBy.trans h.2.2.2.2.2.1 hg,hM⟩
set_option maxRecDepth 100000 in
set_option maxHeartbeats 4000000 in
theorem mof_gen (w:World) (p:MP) (n y x:Int) (hns:p.ns.length≤4096) (hn:0≤n∧n<p.ns.length) (hy:0≤y∧y<3) (hx:0≤x∧x≤4096) (hwn:(Lit.int .i64 n).wf=true) (hwy:(Lit.int .i64 y).wf=true) (hwx:(Lit.int .i64 x).wf=true)
  (k:Nat) (cap:Array Value) (hf:∀ args w,(callFunc k args).run Tryz.prog w=.ok (.enter k args) w) (M:MG p w)
  (v:Int) (hv:I64 v) (hfv:min (max v 0) 4096=p.f n y x)
  (HW:∀ W,w.grownBy W (some p.bm)→MG p W→Calls Tryz.prog k (#[.pointer (some ⟨p.g,n.toNat*34,none⟩)] ++ cap) W (GPost v p W)) :
  Calls Tryz.prog 22 #[.pointer (some ⟨p.pm,0,none⟩),.agg #[.int .i64 n,.int .i64 y,.int .i64 x],.func (.func k) #[] cap] w (GPost (p.f n y x) p w):=by
 obtain⟨kl,hkl⟩:=key_reads n y x hwn hwy hwx
 have HKO:Hid (KeyOk kl):=zH ⟨n.toNat,y.toNat,x.toNat,by omega,by omega,by omega,by rw [Int.toNat_of_nonneg hn.1,Int.toNat_of_nonneg hy.1,Int.toNat_of_nonneg hx.1];exact hkl⟩
 clear hy hx
 have hG:=World.grownBy_alloc w (.cells #[.int .i64 n,.int .i64 y,.int .i64 x] 64) (some p.bm)
 have c0:=M.c0
 have e1:(decide (n<0))=false:=by simp;omega
 have e2:(decide ((p.ns.length:Int)≤n))=false:=by simp;omega
 have lp:=M.lp
 go_enter Tryz.func22,Tryz.ntmps22
 go_upto_region 1 with (fail)
 go_quiet (fail)
 go_upto_region 3 with (fail)
 generalize hA:World.drewN _ _=wA
 have gA:w.grownBy wA (some p.bm):=by rw [← hA];exact World.grownBy.trans hG (grownBy_drewN _ _ _)
 have b0:wA.cell? ⟨w.heap.size,0,none⟩=some (.int .i64 n):=by rw [← hA];exact World.cell?_alloc_new _ _ _ _
 have b1:wA.cell? ⟨w.heap.size,1,none⟩=some (.int .i64 y):=by rw [← hA];exact World.cell?_alloc_new _ _ _ _
 have b2:wA.cell? ⟨w.heap.size,2,none⟩=some (.int .i64 x):=by rw [← hA];exact World.cell?_alloc_new _ _ _ _
 have hlt:w.heap.size<wA.heap.size:=by rw [← hA];show w.heap.size<(w.alloc _).heap.size;simp
 have hkb:w.heap.size ≠ p.bm:=Nat.ne_of_gt M.lm
 have MA:MG p wA:=by rw [← hA];exact(M.below (Below.alloc (Below.refl _ _) (Nat.le_refl _) _)).below (below_drewN (Below.refl _ _) _)
 clear hA M hG c0 lp
 have c0:=MA.c0
 have c2:=MA.c2
 have lp:=MA.lp
 obtain⟨D,hown,hkn⟩:=MA.map
 obtain⟨v',ps,_,hv'⟩:=hown.look_ok (t:=59) key_keyed Tryz.underlying59 (zeroI wA) (plainElem_int Tryz.underlying3 (by decide)) hkl
 obtain⟨c,rfl,hc,hwc⟩:=plainElem_int_inv Tryz.underlying3 hv'
 have hc':D.atKey kl (.lit (.int .i64 0))=.lit (.int .i64 c):=congrArg Prod.fst hc
 have hrun:∀ m,(Instr.lookup 59 (.map (some p.bm)) (.agg #[.int .i64 n,.int .i64 y,.int .i64 x]) true).run Tryz.prog (wA.drewN m)=.ok (.tuple #[.int .i64 c,.bool (Maps.has D kl)]) (wA.drewN m):=fun m=>by
  obtain⟨v2,ps2,h2,hv2⟩:=World.ownsMap.look_ok (w:=wA.drewN m) (t:=59) (show (wA.drewN m).ownsMap _ _ _ p.bm keyN D from hown) key_keyed Tryz.underlying59 (zeroI _) (plainElem_int Tryz.underlying3 (by decide)) hkl
  obtain⟨c2,rfl,hc2,_⟩:=plainElem_int_inv Tryz.underlying3 hv2
  have e:D.atKey kl (.lit (.int .i64 0))=.lit (.int .i64 c2):=congrArg Prod.fst hc2
  rw [hc'] at e
  obtain rfl:c=c2:=by simpa using e
  exact h2
 have HS:Hid (∀ W,Calls Tryz.prog 21 #[.int .i64 v] W (VRet (.int .i64 (p.f n y x)) W)):=zH fun W=>by rw [← hfv];exact side_any v hv W
 have HH:=zH HW
 have HWF:Hid ((Lit.int .i64 (p.f n y x)).wf=true):=zH (WalkArith.wf_i64 (by omega))
 have HMA:=zH MA
 have HKN:=zH hkn
 have HKL:=zH hkl
 have HO:=zH hown
 have HGA:=zH gA
 have HC:=zH hc'
 clear HW hfv MA hkn hkl hown gA hv' hc hc' hwn hwy hwx hwc hv
 cases hhas:Maps.has D kl with
 |true=>
  simp only [hhas] at hrun
  have hcf:c=p.f n y x:=by
   have:=HKN.out.1 n y x kl HKL.out hhas
   rw [HC.out] at this
   simpa using this
  subst hcf
  go_quiet (fail)
  go_wp2
  go_ret
  exact⟨rfl,World.grownBy.trans HGA.out (grownBy_drewN _ _ _),(HMA.out.below (below_drewN (Below.refl _ _) _))⟩
 |false=>
  simp only [hhas] at hrun
  go_quiet (fail)
  go_upto_region 5 with (fail)
  generalize hB:World.drewN _ _=wB
  have gB:w.grownBy wB (some p.bm):=by rw [← hB];exact World.grownBy.trans HGA.out (grownBy_drewN _ _ _)
  have MB:MG p wB:=by rw [← hB];exact HMA.out.below (below_drewN (Below.refl _ _) _)
  have b0':wB.cell? ⟨w.heap.size,0,none⟩=some (.int .i64 n):=by rw [← hB];exact b0
  have b1':wB.cell? ⟨w.heap.size,1,none⟩=some (.int .i64 y):=by rw [← hB];exact b1
  have b2':wB.cell? ⟨w.heap.size,2,none⟩=some (.int .i64 x):=by rw [← hB];exact b2
  have hltB:w.heap.size<wB.heap.size:=by rw [← hB];exact hlt
  clear hB hrun HMA HGA HO HKN HC hhas c0 c2 b0 b1 b2 hlt lp
  have S0:=GSt.start MB b0' b1' b2'
  have HGB:=zH gB
  have HMB:=zH MB
  have HCALL:=zH (HH.out wB.drew (World.grownBy.trans gB (grownBy_drew _ _)) (MB.below (Below.drew (Below.refl _ _))))
  have HS0:=zH S0.drew
  clear gB MB b0' b1' b2' HH
  generalize w.heap.size=kb at *
  obtain⟨s1,s2,s3,s4,s5,s6,s7⟩:=S0
  have lp:p.pm<wB.heap.size:=HMB.out.lp
  go_region_held3 (fun W=>W.cell? ⟨p.pm,0,none⟩=some (.slice (some ⟨p.g,0,none⟩) p.ns.length p.cc)∧W.cell? ⟨kb,0,none⟩=some (.int .i64 n)∧W.cell? ⟨kb,1,none⟩=some (.int .i64 y)∧W.cell? ⟨kb,2,none⟩=some (.int .i64 x)∧W.cell? ⟨p.pm,2,none⟩=some (.map (some p.bm))∧wB.grownBy W (some p.bm)∧MG p W)
   ((first|(refine GSt.drew ?_;(refine⟨?_,?_,?_,?_,?_,?_,?_⟩<;>assumption))|(refine⟨?_,?_,?_,?_,?_,?_,?_⟩<;>assumption)))
   (first|(go_at_call 21;((with_reducible refine(HS.out _).mono ?_);rintro e1' w3 ⟨rfl,rfl⟩))|((with_reducible refine HCALL.out.mono ?_);rintro e1' w2 ⟨rfl,hg2,hM2⟩;have HS2:=zH (GSt.call HS0.out hkb hg2 hM2);obtain⟨u1,u2,u3,u4,u5,u6,u7⟩:=HS2.out))
  all_goals
   go_upto_region 6 with (fail)
   go_still_tail 6,(by kernel_rfl)
   change wpList _ _ _ _ _ w3.drew
   have HS3:=zH HS2.out.drew
   obtain⟨t1,t2,t3,t4,t5,t6,t7⟩:=HS3.out
   obtain⟨D3,hown3,hkn3⟩:=t7.map
   have HG6:=zH t6
   have HM7:=zH t7
   have HO3:=zH hown3
   have HK3:=zH hkn3
   clear t6 t7 hown3 hkn3 u1 u2 u3 u4 u5 u6 u7 HS3 HS2 HS0 HCALL
   generalize w3.drew=w4 at *
   go_wp2_with (at_mapUpdate;refine wpList_mapUpdate_own _ rfl _ _ _ 59 rfl 64 3 key_keyed Tryz.underlying59 _ p.bm keyN D3 rfl HO3.out (by unfold maxLen keyN;omega) (keyV n y x) _ _ rfl rfl HKL.out _ [] (plainElem_int Tryz.underlying3 HWF.out) ?_;intro w5 hown5 hgr5)
   go_ret
   exact⟨rfl,World.grownBy.trans HGB.out (World.grownBy.trans HG6.out hgr5),HM7.out.turned hgr5 hown5 (HK3.out.put HO3.out.isMap HKL.out HKO.out)⟩
end Go.Proofs.YtlenbcmgjancmaaGreatDoor
namespace Go.Proofs.YtlenbcmgjancmaaGreatDoor
open Go.RowKit Go.Maps
def EG (l:List Int) (p:MP) (w:World) (e:Ending) (w':World):Prop :=
 ∃ b:Nat,e=.returned (.slice (some ⟨b,0,none⟩) l.length l.length)∧w.heap.size≤b∧ArrI w' b l∧w.grownBy w' (some p.bm)∧MG p w'
set_option maxRecDepth 100000 in
set_option maxHeartbeats 4000000 in
theorem each_gen (w:World) (p:MP) (M:MG p w) (gx o:Nat) (kv:Value) (kids:List Int) (hk:w.cell? ⟨gx,o+3,none⟩=some kv) (hK:SlI w kv kids) (hl4:kids.length≤4096)
  (F:Nat) (pre cap:Array Value) (hf:∀ args w,(callFunc F args).run Tryz.prog w=.ok (.enter F args) w) (h:Int→Int)
  (HC:∀ k ∈ kids,∀ W,MS p w W→Calls Tryz.prog F (pre.push (.int .i64 k) ++ cap) W (GPost (h k) p W)) :
  Calls Tryz.prog 38 #[.pointer (some ⟨gx,o,none⟩),.func (.func F) pre cap] w (EG (kids.map h) p w):=by
 obtain⟨q,c,rfl,hl,hx⟩:=hK
 obtain⟨n,hn⟩:∃ n,kids.length=n:=⟨_,rfl⟩
 have HN:=zH hn
 rw [hn] at hl hl4 hk
 have hmk:=mk_ints n (by omega)
 have HX:=zH hx
 have HM:=zH (MS.start M)
 have HH:=zH HC
 have lx:gx<w.heap.size:=World.block_lt_of_cell? w ⟨gx,o+3,none⟩ hk
 have HK:=zH hk
 have lm:=M.lm
 obtain⟨L,hL⟩:∃ L,kids.map h=L:=⟨_,rfl⟩
 have HLL:Hid (L.length=n):=zH (by rw [← hL,List.length_map,hn])
 have HLX:Hid (∀ (i:Nat) k,kids[i]?=some k→L[i]?=some (h k)):=zH fun i k hi=>by rw [← hL,List.getElem?_map,hi];rfl
 rw [hL]
 have H0:=zH (ArrI.made w n)
 clear hx M HC hn hL
 go_enter Tryz.func38,Tryz.ntmps38
 go_wp2
 go_loopw [19] (fun i wr=>∃ a:Nat,i=.int .i64 a∧a≤n∧MS p w wr∧ArrI wr w.heap.size (part L a)) (fun i _=>n - (intOf i).toNat)
 case atStart=>exact⟨0,rfl,by omega,HM.out.below (by(repeat (first|exact Below.refl _ _|assumption|refine below_drewN ?_ _|refine Below.drew ?_|(refine Below.alloc ?_ ?bs _;(case bs=>first|omega|(simp;done)|(simp;omega)))|(refine Below.setCell ?_ ?bs _;(case bs=>first|omega|(simp;done)|(simp;omega)))))),by rw [part_zero,HLL.out];exact H0.out⟩
 case round=>
  obtain⟨a,rfl,hle,hS,hA⟩:=hrel
  have HS:=zH hS
  have HA:=zH hA
  have lw:=hA.lt
  clear hS hA H0 hk
  by_cases hlt:a<n
  ·as_aux_lemma=>
    have hltI:(a:Int)<(n:Int):=by omega
    obtain⟨k,hka⟩:∃ k,kids[a]?=some k:=⟨_,List.getElem?_eq_getElem (by rw [HN.out];exact hlt)⟩
    obtain⟨gk,ok,rfl,hgk,hck⟩:=HX.out a k hka
    have hck':=HS.out.cell hck
    have hkk:=HS.out.cell HK.out
    have HCA:=zH (HH.out k (List.mem_of_getElem? hka) wr HS.out)
    have HP:=zH (HLX.out a k hka)
    have lx2:gx<wr.heap.size:=Nat.lt_of_lt_of_le lx HS.out.size
    have lk2:gk<wr.heap.size:=Nat.lt_of_lt_of_le hgk HS.out.size
    have hbm:w.heap.size ≠ p.bm:=by omega
    clear hck hka HX HH
    go_wp2_with ((with_reducible refine(HCA.out).mono ?_);rintro e1' w2 ⟨rfl,hg2,hM2⟩;have HS2:=zH (HS.out.calls hg2 hM2);have HA2:Hid (ArrI w2 w.heap.size (part L a)):=zH (HA.out.grown hg2 (by simpa using hbm));have c2:=HA2.out.at (part_get (by rw [HLL.out];exact hlt));have f2:=HA2.out.froz a;have l2:=HA2.out.lt;have k2:=HS2.out.cell HK.out;have z2:=hg2.size;clear hg2 hM2)
    have HS3:=zH (HS2.out.set (Nat.le_refl _) a (.int .i64 (h k)))
    have HA3:=zH ((HA2.out.put a (h k)).to (part_set HP.out))
    go_roundw
    case rel=>exact⟨a+1,by first|rfl|go_num,by omega,HS3.out,HA3.out⟩
    case measure=>simp [intOf]<;>omega
  ·as_aux_lemma=>
    have hltI:decide ((a:Int)<(n:Int))=false:=decide_eq_false (by omega)
    obtain rfl:a=n:=by omega
    have hkk:=HS.out.cell HK.out
    go_wp2
    go_ret
    exact⟨w.heap.size,by rw [HLL.out];rfl,Nat.le_refl _,HA.out.to (part_full2 HLL.out.symm),HS.out.gr,HS.out.mg⟩
end Go.Proofs.YtlenbcmgjancmaaGreatDoor
