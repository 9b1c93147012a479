import Derived.Test.YtlenbcmgjancmaaGreatDoorMn28
import Derived.Test.YtlenbcmgjancmaaGreatDoorMn26
import Derived.Test.YtlenbcmgjancmaaGreatDoorMn29
import Derived.Test.YtlenbcmgjancmaaGreatDoorMn25
import Derived.Deep.DeepCutAuto
set_option linter.unusedVariables false
set_option linter.unusedSimpArgs false
namespace Go.Proofs.YtlenbcmgjancmaaGreatDoor
open Go.RowKit Go.Maps
theorem placeI_ok {y:ND} (h:FieldsP y) : -1≤max y.x0 0 - 1∧max y.x0 0 - 1≤4095∧-1≤max y.x1 0 - 1∧max y.x1 0 - 1≤4095∧-4096≤y.x2∧y.x2≤4096∧-4096≤y.x3∧y.x3≤4096:=by
 unfold FieldsP at h
 omega
set_option maxRecDepth 100000 in
set_option maxHeartbeats 8000000 in
theorem places_gen (p:MP) (w:World) (M:MG p w) (n:Nat) (x:ND) (hn:p.ns[n]?=some x) (hl:x.kids.length≤4096) (hk:KidsIn p x.kids) (hc:x.cols.length≤64) :
  Calls Tryz.prog 97 #[.pointer (some ⟨p.pm,0,none⟩),.pointer (some ⟨p.g,n*34,none⟩)] w (FlowP (placesM p.ns x) w):=by
 obtain⟨L,hL⟩:∃ L,x.kids.map (placeI p.ns)=L:=⟨_,rfl⟩
 have HR:Hid (placesM p.ns x=gflow L x.cols.length):=zH (by unfold placesM;rw [hL])
 have hLl:L.length=x.kids.length:=by rw [← hL,List.length_map]
 have HLX:Hid (∀ (i:Nat) k,x.kids[i]?=some k→L[i]?=some (placeI p.ns k)):=zH fun i k hi=>by rw [← hL,List.getElem?_map,hi];rfl
 have HLB:Hid (∀ s ∈ L,-4096≤s.c∧s.c≤9223372036854770000∧s.cs≤9223372036854770000):=zH fun s hs=>by
  rw [← hL] at hs
  obtain⟨k,hkm,rfl⟩:=List.mem_map.1 hs
  obtain⟨j,y,rfl,hy,_,_,hf⟩:=hk k hkm
  have:=placeI_ok hf
  unfold placeI
  rw [ndF_eq hy]
  dsimp only
  omega
 obtain⟨kv,cv,hnd,hkv,hcv⟩:=M.node hn
 have HKV:Hid (w.cell? ⟨p.g,n*34+3,none⟩=some kv):=zH hnd.kids
 have HCV:Hid (w.cell? ⟨p.g,n*34+28,none⟩=some cv):=zH hnd.cols
 obtain⟨pc,cc,rfl,_,_⟩:=hcv
 obtain⟨q,c,rfl,_,hx⟩:=hkv
 have HX:=zH hx
 have HK:=zH hk
 obtain⟨kn,hkn⟩:∃ kn,x.kids.length=kn:=⟨_,rfl⟩
 obtain⟨cn,hcn⟩:∃ cn,x.cols.length=cn:=⟨_,rfl⟩
 have HKN:=zH hkn
 rw [hkn] at hl HKV hLl
 rw [hcn] at hc HCV HR
 have HLN:=zH hLl
 have lg:=M.lg hn
 have lp:=M.lp
 have HM:=zH M
 have hmk:=mk_spans kn hl
 have HA0:=zH (ArrS.made w kn)
 have k0:=HKV.out
 have c0:=M.c0
 clear hnd hx hk M hn hkn hLl hL hcn
 go_enter Tryz.func97,Tryz.ntmps97
 go_wp2
 clear k0
 go_loopw [20] (fun i wr=>∃ a:Nat,i=.int .i64 a∧a≤kn∧Below w.heap.size w wr∧ArrS wr w.heap.size (partZ spn0 L a)) (fun i _=>kn - (intOf i).toNat)
 case atStart=>exact⟨0,rfl,by omega,by(repeat (first|exact Below.refl _ _|assumption|refine below_drewN ?_ _|refine Below.drew ?_|(refine Below.alloc ?_ ?bs _;(case bs=>first|omega|(simp;done)|(simp;omega)))|(refine Below.setCell ?_ ?bs _;(case bs=>first|omega|(simp;done)|(simp;omega))))),by rw [partZ_zero,HLN.out];exact HA0.out⟩
 case round=>
  obtain⟨a,rfl,ha,hB,hA⟩:=hrel
  have HB:=zH hB
  have HA:=zH hA
  have lw:=hA.lt
  have lgr:p.g<wr.heap.size:=Nat.lt_of_lt_of_le lg hB.size
  have lpr:p.pm<wr.heap.size:=Nat.lt_of_lt_of_le lp hB.size
  have HMW:=zH (HM.out.below hB)
  clear hA hB hmk HA0 c0
  by_cases hlt:a<kn
  ·as_aux_lemma=>
   have hltI:(a:Int)<(kn:Int):=by omega
   obtain⟨k,hka⟩:∃ k,x.kids[a]?=some k:=⟨_,List.getElem?_eq_getElem (by rw [HKN.out];exact hlt)⟩
   have hkm:=List.mem_of_getElem? hka
   obtain⟨j,y,rfl,hy,_,_,hf⟩:=HK.out k hkm
   obtain⟨g,o,rfl,hg,hck⟩:=HX.out a _ hka
   have hLa:=HLX.out a _ hka
   unfold placeI at hLa
   rw [ndF_eq hy] at hLa
   have hpo:=placeI_ok hf
   have HLA:=zH hLa
   have c1:wr.cell? ⟨g,o+a,none⟩=some (.int .i64 (j:Int)):=by rw [HB.out.cell (p:=⟨g,o+a,none⟩) hg];exact hck
   have c3:=HMW.out.c0
   obtain⟨kv2,cv2,hnd,_,_⟩:=HMW.out.node hy
   have y0:=hnd.x0
   have y1:=hnd.x1
   have y2:=hnd.x2
   have y3:=hnd.x3
   have hjl:j<p.ns.length:=(List.getElem?_eq_some_iff.1 hy).1
   have lgk:g<wr.heap.size:=Nat.lt_of_lt_of_le hg HB.out.size
   have hpl:a<(partZ spn0 L a).length:=by rw [partZ_len (by rw [HLN.out];omega),HLN.out];exact hlt
   obtain⟨z0,z1,z2,z3⟩:=HA.out.at (partZ_get (z:=spn0) (l:=L) (by rw [HLN.out];exact hlt))
   have f0:=HA.out.froz (a*4)
   have f1:=HA.out.froz (a*4+1)
   have f2:=HA.out.froz (a*4+2)
   have f3:=HA.out.froz (a*4+3)
   have HPB:=zH (((((HB.out.setCell (p:=⟨w.heap.size,a*4,none⟩) (Nat.le_refl _) (.int .i64 (max y.x0 0 - 1))).setCell (p:=⟨w.heap.size,a*4+1,none⟩) (Nat.le_refl _) (.int .i64 (max y.x1 0 - 1))).setCell (p:=⟨w.heap.size,a*4+2,none⟩) (Nat.le_refl _) (.int .i64 y.x2)).setCell (p:=⟨w.heap.size,a*4+3,none⟩) (Nat.le_refl _) (.int .i64 y.x3)).alloc (by have:=HB.out.size;simp [World.setCell];omega) (.cells #[.int .i64 y.x0,.int .i64 y.x1,.int .i64 y.x2,.int .i64 y.x3] 37))
   have HPA:=zH (fun o=>Arr.alloc ((HA.out.put hpl ⟨max y.x0 0 - 1,max y.x1 0 - 1,y.x2,y.x3⟩).to (partZ_set HLA.out)) o)
   clear hka hkm hck hLa hnd hy hpl hf
   go_wp2
   go_roundw
   case rel=>exact⟨a+1,by first|rfl|go_num,by omega,HPB.out,HPA.out _⟩
   case measure=>simp [intOf]<;>omega
  ·as_aux_lemma=>
   have hltI:decide ((a:Int)<(kn:Int))=false:=decide_eq_false (by omega)
   obtain rfl:a=kn:=by omega
   have hfull:partZ spn0 L a=L:=partZ_full HLN.out.symm
   have hAA:=HA.out
   rw [hfull] at hAA
   have hsl:=ArrS.sl hAA (by rw [HLN.out];omega) a
   rw [HLN.out] at hsl
   have HFL:=zH (flow_go wr _ L hsl cn HLB.out)
   have c4:wr.cell? ⟨p.g,n*34+28,none⟩=some (.slice pc cn cc):=by rw [HB.out.cell (p:=⟨p.g,n*34+28,none⟩) lg];exact HCV.out
   clear hfull hAA hsl
   go_wp2_with (go_at_call 131;((with_reducible refine(HFL.out).mono ?_);rintro e1' w2 ⟨v2,rfl,hb2,hs2,hlo2⟩))
   go_ret
   rw [HR.out]
   exact⟨v2,rfl,Below.trans HB.out (hb2.mono HB.out.size),hs2,fun a' n' c' e=>by have:=hlo2 a' n' c' e;have:=HB.out.size;omega⟩
end Go.Proofs.YtlenbcmgjancmaaGreatDoor
namespace Go.Proofs.YtlenbcmgjancmaaGreatDoor
open Go.RowKit Go.Maps
theorem SpnAt.keeps {w w':World} {g o:Nat} {s:Spn} (h:SpnAt w g o s) (k:Keeps w w'):SpnAt w' g o s:=⟨k _ _ h.c,k _ _ h.r,k _ _ h.cs,k _ _ h.rs⟩
theorem SlS.keeps {w w':World} {v:Value} {l:List Spn} (h:SlS w v l) (k:Keeps w w') (hs:w.heap.size≤w'.heap.size):SlS w' v l:=by
 obtain⟨p,c,rfl,hl,hx⟩:=h
 refine⟨p,c,rfl,hl,fun i x hi=>?_⟩
 obtain⟨g,o,e,hg,hc⟩:=hx i x hi
 exact⟨g,o,e,Nat.lt_of_lt_of_le hg hs,hc.keeps k⟩
theorem SlS.set {w:World} {v:Value} {l:List Spn} (h:SlS w v l) {b:Nat} (hlo:LowS (b+1) v) (j:Nat) (x:Value):SlS (w.setCell ⟨b,j,none⟩ x) v l:=by
 obtain⟨p,c,rfl,hl,hx⟩:=h
 refine⟨p,c,rfl,hl,fun i y hi=>?_⟩
 obtain⟨g,o,rfl,hg,hc⟩:=hx i y hi
 have:=hlo ⟨g,o,none⟩ _ _ rfl
 have e:∀ q,(w.setCell ⟨b,j,none⟩ x).cell? ⟨g,q,none⟩=w.cell? ⟨g,q,none⟩:=fun q=>World.cell?_of_block (heap_setCell_other w ⟨b,j,none⟩ g x (by simp only at this ⊢;omega))
 exact⟨g,o,rfl,by simpa [World.setCell] using hg,⟨(e _).trans hc.c,(e _).trans hc.r,(e _).trans hc.cs,(e _).trans hc.rs⟩⟩
def PlaP (l:List Spn) (n:Nat) (w:World) (e:Ending) (w':World):Prop:=∃ pp pc,e=.returned (.slice pp n pc)∧Below w.heap.size w w'∧SlS w' (.slice pp n pc) l∧LowS w.heap.size (.slice pp n pc)
theorem FlowP.pla {l:List Spn} {n:Nat} {w w':World} {e:Ending} (h:FlowP l w e w') (hl:l.length=n):PlaP l n w e w':=by
 obtain⟨v,rfl,hb,hs,hlo⟩:=h
 obtain⟨p,c,rfl,h1,h2⟩:=hs
 subst hl
 exact⟨p,c,rfl,hb,⟨p,c,rfl,h1,h2⟩,hlo⟩
abbrev ned0:Ned:=⟨0,0,0⟩
theorem gflow_len {l:List Spn} (h:l.length≤4096) (n:Int):(gflow l n).length=l.length:=by
 unfold gflow
 rw [if_neg (by omega),flowF_len,List.length_map]
theorem ArrN.made (W:World) (n:Nat):ArrN (W.alloc (.cells (madeCells #[.int .i64 0,.int .i64 0,.int .i64 0] (n*3)) 137)) W.heap.size (List.replicate n ned0) []:=by
 unfold ArrN Arr
 rw [heap_alloc_new,List.append_nil,← made_flat Ned.cells_len (by omega) ned0 n]
 rfl
theorem mk_needs (N:Nat) (hN:N≤4096) (w:World):(Instr.makeSlice 131 (.int .i64 N) (.int .i64 N)).run Tryz.prog w=.ok (.slice (some ⟨w.heap.size,0,none⟩) N N) (w.alloc (.cells (madeCells #[.int .i64 0,.int .i64 0,.int .i64 0] (N*3)) 137)):=by
 obtain⟨i0,hi,hz0,hz1,hz2⟩:=info_parts (P:=Tryz.prog) (show (Tryz.prog.info? 137).map (fun i=>(i.zero,i.size,i.bytes))=some (some (.agg #[.int .i64 0,.int .i64 0,.int .i64 0]),3,24) by kernel_rfl)
 have:=run_make (P:=Tryz.prog) w 131 137 i0 _ Tryz.underlying131 hi hz0 .i64 .i64 N N (by omega) (Int.le_refl _) (by rw [hz2];omega) (by omega)
 rw [hz1] at this
 simpa [Value.cells] using this
theorem ArrN.sl {W:World} {b:Nat} {l:List Ned} (h:ArrN W b l []) (hl:l.length≤4398046511104) (c:Nat):SlN W (.slice (some ⟨b,0,none⟩) l.length c) l :=
 ⟨_,c,rfl,hl,fun i x hi=>⟨b,0,rfl,h.lt,by rw [Nat.zero_add];exact h.at hi⟩⟩
structure TkI (w:World) (p:MP) (b:Nat) (l:List Ned) (vp:Value) (pl:List Spn) (W:World):Prop where
 ms:MS p w W
 ar:ArrN W b l []
 ps:SlS W vp pl
section
variable {w W W':World} {p:MP} {b:Nat} {l:List Ned} {vp:Value} {pl:List Spn}
theorem TkI.below (h:TkI w p b l vp pl W) (hB:Below W.heap.size W W'):TkI w p b l vp pl W':=⟨h.ms.below hB,h.ar.below hB,h.ps.below hB⟩
theorem TkI.calls (h:TkI w p b l vp pl W) (hb:b ≠ p.bm) (hg:W.grownBy W' (some p.bm)) (hM:MG p W'):TkI w p b l vp pl W' :=
 ⟨h.ms.calls hg hM,h.ar.grown hg (by simpa using hb),h.ps.keeps (h.ms.mg.keeps hg) hg.size⟩
theorem TkI.put (h:TkI w p b l vp pl W) (hb:w.heap.size≤b) (hlo:LowS (b+1) vp) {i:Nat} (hi:i<l.length) (x:Ned) :
  TkI w p b (l.set i x) vp pl (((W.setCell ⟨b,i*3,none⟩ (.int .i64 x.a)).setCell ⟨b,i*3+1,none⟩ (.int .i64 x.s)).setCell ⟨b,i*3+2,none⟩ (.int .i64 x.z)) :=
 ⟨((h.ms.set hb _ _).set hb _ _).set hb _ _,h.ar.put hi x,((h.ps.set hlo _ _).set hlo _ _).set hlo _ _⟩
theorem TkI.to (h:TkI w p b l vp pl W) {l':List Ned} (e:l=l'):TkI w p b l' vp pl W:=e ▸ h
end
theorem OutI.m {l:List Int} {p:MP} {w W W':World} {e:Ending} (h:OutI l W e W') (hM:MS p w W):OutM l p w e W':=by
 obtain⟨v,rfl,hb,hs⟩:=h
 exact⟨v,rfl,grownBy_then hM.gr hb,hM.mg.below hb,hs⟩
set_option maxRecDepth 100000 in
set_option maxHeartbeats 8000000 in
theorem tracks_gen (p:MP) (w:World) (M:MG p w) (n:Nat) (x:ND) (hn:p.ns[n]?=some x) (hl:x.kids.length≤4096) (hk:KidsIn p x.kids) (hc:x.cols.length≤64)
  (vc:Value) (cols:List Itm) (hcs:SlT w vc cols) (hcl:cols.length≤4096) (F:Nat) (pre cap:Array Value) (hf:∀ args w,(callFunc F args).run Tryz.prog w=.ok (.enter F args) w) (iw:Int) (h:Int→Int)
  (HC:∀ k ∈ x.kids,∀ W,MS p w W→Calls Tryz.prog F (pre.push (.int .i64 k) ++ cap) W (GPost (h k) p W)) :
  Calls Tryz.prog 56 #[.pointer (some ⟨p.pm,0,none⟩),.pointer (some ⟨p.g,n*34,none⟩),vc,.func (.func F) pre cap,.int .i64 iw] w (OutM (tracksM p.ns x cols h iw) p w):=by
 obtain⟨PL,hPL⟩:∃ PL,placesM p.ns x=PL:=⟨_,rfl⟩
 have hPl:PL.length=x.kids.length:=by rw [← hPL];unfold placesM;rw [gflow_len (by rw [List.length_map];exact hl),List.length_map]
 obtain⟨L,hL⟩:∃ L,List.zipWith (fun (s:Spn) k=>(⟨s.c,s.cs,h k⟩:Ned)) PL x.kids=L:=⟨_,rfl⟩
 have HR:Hid (tracksM p.ns x cols h iw=tracksG cols L iw x.gap):=zH (by unfold tracksM;rw [hPL,hL])
 have hLl:L.length=x.kids.length:=by rw [← hL,List.length_zipWith,hPl];omega
 have HLX:Hid (∀ (i:Nat) s k,PL[i]?=some s→x.kids[i]?=some k→L[i]?=some ⟨s.c,s.cs,h k⟩):=zH fun i s k hs hi=>by rw [← hL,List.getElem?_zipWith,hs,hi]
 have HPC:=zH (fun W (hM:MG p W)=>places_gen p W hM n x hn hl hk hc)
 rw [hPL] at HPC
 obtain⟨kv,cv,hnd,hkv,_⟩:=M.node hn
 have HKV:Hid (w.cell? ⟨p.g,n*34+3,none⟩=some kv):=zH hnd.kids
 have HGP:Hid (w.cell? ⟨p.g,n*34+14,none⟩=some (.int .i64 x.gap)):=zH hnd.gap
 obtain⟨q,c,rfl,_,hx⟩:=hkv
 have HX:=zH hx
 have HCS:=zH hcs
 have HF:=zH HC
 obtain⟨kn,hkn⟩:∃ kn,x.kids.length=kn:=⟨_,rfl⟩
 obtain⟨gap,hgap⟩:∃ gap,x.gap=gap:=⟨_,rfl⟩
 have HKN:=zH hkn
 rw [hkn] at hl HKV hLl hPl
 rw [hgap] at HGP HR
 have HLN:=zH hLl
 have HPN:=zH hPl
 have lg:=M.lg hn
 have lp:=M.lp
 have hbm:w.heap.size ≠ p.bm:=Nat.ne_of_gt M.lm
 have HM:=zH (MS.start M)
 have hmk:=mk_needs kn hl
 have HA0:=zH (ArrN.made w kn)
 have k0:=HKV.out
 clear hnd hx hk M hn hkn hLl hPl hL hPL hgap hcs HC
 go_enter Tryz.func56,Tryz.ntmps56
 go_upto_region 2 with (fail)
 have HP1:=zH ((HPC.out _ (HM.out.alloc (.cells (madeCells #[.int .i64 0,.int .i64 0,.int .i64 0] (kn*3)) 137)).mg).mono fun e w' h=>FlowP.pla h HPN.out)
 clear k0 hmk HPC
 go_wp2_with (go_at_call 97;((with_reducible refine(HP1.out).mono ?_);rintro e1' w2 ⟨pp,pc,rfl,hb2,hs2,hlo2⟩;have HT0:Hid (TkI w p w.heap.size (List.replicate kn ned0) (.slice pp kn pc) PL w2):=zH ⟨(HM.out.alloc _).below hb2,HA0.out.below hb2,hs2⟩;have HLO:Hid (LowS (w.heap.size+1) (.slice pp kn pc)):=zH (by simpa using hlo2);clear hb2 hs2 hlo2))
 clear HA0 HP1 HM
 go_loopw [24] (fun i wr=>∃ a:Nat,i=.int .i64 a∧a≤kn∧TkI w p w.heap.size (partZ ned0 L a) (.slice pp kn pc) PL wr) (fun i _=>kn - (intOf i).toNat)
 case atStart=>exact⟨0,rfl,by omega,by rw [partZ_zero,HLN.out];exact HT0.out⟩
 case round=>
  obtain⟨a,rfl,ha,hT⟩:=hrel
  have HT:=zH hT
  have lw:=hT.ar.lt
  have lgr:p.g<wr.heap.size:=Nat.lt_of_lt_of_le lg hT.ms.size
  have lpr:p.pm<wr.heap.size:=Nat.lt_of_lt_of_le lp hT.ms.size
  clear hT HT0
  by_cases hlt:a<kn
  ·have hltI:(a:Int)<(kn:Int):=by omega
   obtain⟨k,hka⟩:∃ k,x.kids[a]?=some k:=⟨_,List.getElem?_eq_getElem (by rw [HKN.out];exact hlt)⟩
   obtain⟨s,hs⟩:∃ s,PL[a]?=some s:=⟨_,List.getElem?_eq_getElem (by rw [HPN.out];exact hlt)⟩
   have hkm:=List.mem_of_getElem? hka
   obtain⟨g,o,rfl,hg,hck⟩:=HX.out a _ hka
   obtain⟨p3,c3,e3,_,hpx⟩:=HT.out.ps
   obtain⟨rfl,-,rfl⟩:pp=p3∧kn=PL.length∧pc=c3:=by simpa using e3
   obtain⟨gs,os,rfl,hgs,hat⟩:=hpx a s hs
   have HLA:=zH (HLX.out a s k hs hka)
   have c1:=HT.out.ms.cell hck
   have c2:=HT.out.ms.cell HKV.out
   obtain⟨d0,d1,d2,d3⟩:=hat
   have lgk:g<wr.heap.size:=Nat.lt_of_lt_of_le hg HT.out.ms.size
   have HPL2:Hid (a<(partZ ned0 L a).length):=zH (by rw [partZ_len (by rw [HLN.out];omega),HLN.out];exact hlt)
   have HPG:Hid ((partZ ned0 L a)[a]?=some ned0):=zH (partZ_get (by rw [HLN.out];exact hlt))
   have hJ:TkI w p w.heap.size (partZ ned0 L a) (.slice (some ⟨gs,os,none⟩) kn pc) PL (wr.alloc (.cells #[.int .i64 s.c,.int .i64 s.r,.int .i64 s.cs,.int .i64 s.rs] 135)):=HT.out.below (Below.alloc (Below.refl _ _) (Nat.le_refl _) _)
   have hQ:Arr (wr.alloc (.cells #[.int .i64 s.c,.int .i64 s.r,.int .i64 s.cs,.int .i64 s.rs] 135)) wr.heap.size [.int .i64 s.c,.int .i64 s.r,.int .i64 s.cs,.int .i64 s.rs] 135:=by unfold Arr;rw [heap_alloc_new]
   obtain⟨W1,hW1⟩:∃ W1,wr.alloc (.cells #[.int .i64 s.c,.int .i64 s.r,.int .i64 s.cs,.int .i64 s.rs] 135)=W1:=⟨_,rfl⟩
   rw [hW1] at hJ hQ
   have hlq:wr.heap.size<W1.heap.size:=hQ.lt
   have hqb:wr.heap.size ≠ p.bm:=by have:=HT.out.ms.m0.lm;have:=HT.out.ms.size;omega
   have HW1:=zH hW1
   have HJ:Hid (TkI w p w.heap.size (partZ ned0 L a) (.slice (some ⟨gs,os,none⟩) kn pc) PL W1.drew):=zH (hJ.below (Below.drew (Below.refl _ _)))
   have HQ:=zH hQ
   have HQD:Hid (Arr W1.drew wr.heap.size [.int .i64 s.c,.int .i64 s.r,.int .i64 s.cs,.int .i64 s.rs] 135):=zH (Arr.drew hQ 1)
   have HCA:=zH (HF.out k hkm W1.drew HJ.out.ms)
   have c5:=hJ.ms.cell hck
   have c6:=hJ.ms.cell HKV.out
   have l5:g<W1.heap.size:=Nat.lt_of_lt_of_le hg hJ.ms.size
   have l6:p.g<W1.heap.size:=Nat.lt_of_lt_of_le lg hJ.ms.size
   have HC5:=zH (And.intro c5 c6)
   clear hka hs hkm hpx e3 hW1 hJ hck c5 c6
   go_upto_region 5 with (fail)
   rw [HW1.out]
   obtain⟨c5,c6⟩:=HC5.out
   have q0:=HQ.out.cell (j:=0) rfl
   have q2:=HQ.out.cell (j:=2) rfl
   clear c1 c2 d0 d1 d2 d3 hQ HW1
   go_region_with ((with_reducible refine(HCA.out).mono ?_);rintro e1' w3 ⟨rfl,hg3,hM3⟩;have HT3:=zH (HJ.out.calls hbm hg3 hM3);have HQ3:Hid (Arr w3 wr.heap.size [.int .i64 s.c,.int .i64 s.r,.int .i64 s.cs,.int .i64 s.rs] 135):=zH (Arr.grown HQD.out hg3 (by simpa using hqb));have r0:=HQ3.out.cell (j:=0) rfl;have r2:=HQ3.out.cell (j:=2) rfl;have l7:=HQ3.out.lt;obtain⟨z0,z1,z2⟩:=HT3.out.ar.at HPG.out;have f0:=HT3.out.ar.froz (a*3);have f1:=HT3.out.ar.froz (a*3+1);have f2:=HT3.out.ar.froz (a*3+2);have l8:=HT3.out.ar.lt;clear hg3 hM3)
   all_goals
    have hX:=(HT3.out.put (Nat.le_refl _) HLO.out HPL2.out ⟨s.c,s.cs,h k⟩).to (partZ_set HLA.out)
    have HX2:=zH hX
    clear hX z0 z1 z2 f0 f1 f2 r0 r2 HT3 HQ3
    go_wp2
    go_roundw
    case rel=>exact⟨a+1,by first|rfl|go_num,by omega,by first|exact HX2.out|exact HX2.out.below (Below.drew (Below.refl _ _))⟩
    case measure=>simp [intOf]<;>omega
  ·as_aux_lemma=>
   have hltI:decide ((a:Int)<(kn:Int))=false:=decide_eq_false (by omega)
   obtain rfl:a=kn:=by omega
   have hfull:partZ ned0 L a=L:=partZ_full HLN.out.symm
   have hTT:=HT.out
   rw [hfull] at hTT
   have c4:=hTT.ms.cell HGP.out
   have hsn:=ArrN.sl hTT.ar (by rw [HLN.out];omega) a
   rw [HLN.out] at hsn
   have HTR:=zH (tracks_any (HCS.out.keeps (hTT.ms.m0.keeps hTT.ms.gr) hTT.ms.size) hcl hsn (by rw [HLN.out];exact hl) iw gap)
   have HTT:=zH hTT
   clear hfull hTT hsn
   go_wp2_with (go_at_call 98;((with_reducible refine(HTR.out).mono ?_);rintro e1' w4 ⟨v4,rfl,hb4,hs4⟩))
   go_ret
   rw [HR.out]
   exact⟨v4,rfl,grownBy_then HTT.out.ms.gr hb4,HTT.out.ms.mg.below hb4,hs4⟩
end Go.Proofs.YtlenbcmgjancmaaGreatDoor
namespace Go.Proofs.YtlenbcmgjancmaaGreatDoor
open Go.RowKit
def Rct.cells (r:Rct):List Value:=[.int .i64 r.x,.int .i64 r.y,.int .i64 r.w,.int .i64 r.h]
theorem Rct.cells_len (r:Rct):r.cells.length=4:=rfl
structure RctAt (w:World) (g o:Nat) (r:Rct):Prop where
 rx:w.cell? ⟨g,o,none⟩=some (.int .i64 r.x)
 ry:w.cell? ⟨g,o+1,none⟩=some (.int .i64 r.y)
 rw':w.cell? ⟨g,o+2,none⟩=some (.int .i64 r.w)
 rh:w.cell? ⟨g,o+3,none⟩=some (.int .i64 r.h)
abbrev rct0:Rct:=⟨0,0,0,0⟩
abbrev ArrR (W:World) (b:Nat) (l:List Rct):Prop:=Arr W b (flatC Rct.cells l) 142
section
variable {W:World} {b:Nat} {l:List Rct}
theorem ArrR.at (h:ArrR W b l) {i:Nat} {x:Rct} (hi:l[i]?=some x):RctAt W b (i*4) x:=by
 have g:=fun j hj=>flatC_get Rct.cells_len l i j x hi hj
 exact⟨h.cell (j:=i*4) (by have:=g 0 (by omega);simpa [Rct.cells] using this),h.cell (j:=i*4+1) (by rw [g 1 (by omega)];rfl),h.cell (j:=i*4+2) (by rw [g 2 (by omega)];rfl),h.cell (j:=i*4+3) (by rw [g 3 (by omega)];rfl)⟩
theorem ArrR.put (h:ArrR W b l) {i:Nat} (hi:i<l.length) (x:Rct) :
  ArrR ((((W.setCell ⟨b,i*4,none⟩ (.int .i64 x.x)).setCell ⟨b,i*4+1,none⟩ (.int .i64 x.y)).setCell ⟨b,i*4+2,none⟩ (.int .i64 x.w)).setCell ⟨b,i*4+3,none⟩ (.int .i64 x.h)) b (l.set i x):=by
 have:=(((h.set (i*4) (.int .i64 x.x)).set (i*4+1) (.int .i64 x.y)).set (i*4+2) (.int .i64 x.w)).set (i*4+3) (.int .i64 x.h)
 unfold ArrR
 rw [flatC_set Rct.cells_len x l i hi]
 exact this
theorem ArrR.to (h:ArrR W b l) {l':List Rct} (e:l=l'):ArrR W b l':=e ▸ h
end
theorem ArrR.made (W:World) (n:Nat):ArrR (W.alloc (.cells (madeCells #[.int .i64 0,.int .i64 0,.int .i64 0,.int .i64 0] (n*4)) 142)) W.heap.size (List.replicate n rct0):=by
 unfold ArrR Arr
 rw [heap_alloc_new,← made_flat Rct.cells_len (by omega) rct0 n]
 rfl
theorem mk_rects (N:Nat) (hN:N≤4096) (w:World):(Instr.makeSlice 139 (.int .i64 N) (.int .i64 N)).run Tryz.prog w=.ok (.slice (some ⟨w.heap.size,0,none⟩) N N) (w.alloc (.cells (madeCells #[.int .i64 0,.int .i64 0,.int .i64 0,.int .i64 0] (N*4)) 142)):=by
 obtain⟨i0,hi,hz0,hz1,hz2⟩:=info_parts (P:=Tryz.prog) (show (Tryz.prog.info? 142).map (fun i=>(i.zero,i.size,i.bytes))=some (some (.agg #[.int .i64 0,.int .i64 0,.int .i64 0,.int .i64 0]),4,32) by kernel_rfl)
 have:=run_make (P:=Tryz.prog) w 139 142 i0 _ Tryz.underlying139 hi hz0 .i64 .i64 N N (by omega) (Int.le_refl _) (by rw [hz2];omega) (by omega)
 rw [hz1] at this
 simpa [Value.cells] using this
def SlRc (w:World) (v:Value) (l:List Rct):Prop :=
 ∃ p c,v=.slice p l.length c∧l.length≤4398046511104∧∀ i x,l[i]?=some x→∃ g o,p=some ⟨g,o,none⟩∧g<w.heap.size∧RctAt w g (o+i*4) x
def OutR (l:List Rct) (w:World) (e:Ending) (w':World):Prop:=∃ v,e=.returned v∧Below w.heap.size w w'∧SlRc w' v l
structure RcI (w:World) (xb yb ob:Nat) (xs ys:List Int) (out:List Rct) (W:World):Prop where
 g:Below w.heap.size w W
 x:ArrI W xb xs
 y:ArrI W yb ys
 o:ArrR W ob out
 nx:xb ≠ ob
 ny:yb ≠ ob
 no:w.heap.size≤ob
section
variable {w W W':World} {xb yb ob:Nat} {xs ys:List Int} {out:List Rct}
theorem RcI.below (h:RcI w xb yb ob xs ys out W) (hB:Below W.heap.size W W'):RcI w xb yb ob xs ys out W' :=
 ⟨Below.trans h.g (hB.mono h.g.size),h.x.below hB,h.y.below hB,h.o.below hB,h.nx,h.ny,h.no⟩
theorem RcI.drewN (h:RcI w xb yb ob xs ys out W) (n:Nat):RcI w xb yb ob xs ys out (W.drewN n):=h.below (below_drewN (Below.refl _ _) n)
theorem RcI.put (h:RcI w xb yb ob xs ys out W) {i:Nat} (hi:i<out.length) (r:Rct) :
  RcI w xb yb ob xs ys (out.set i r) ((((W.setCell ⟨ob,i*4,none⟩ (.int .i64 r.x)).setCell ⟨ob,i*4+1,none⟩ (.int .i64 r.y)).setCell ⟨ob,i*4+2,none⟩ (.int .i64 r.w)).setCell ⟨ob,i*4+3,none⟩ (.int .i64 r.h)) :=
 ⟨(((h.g.setCell (p:=⟨ob,_,none⟩) h.no _).setCell (p:=⟨ob,_,none⟩) h.no _).setCell (p:=⟨ob,_,none⟩) h.no _).setCell (p:=⟨ob,_,none⟩) h.no _,
  (((Arr.other h.x h.nx _ _).other h.nx _ _).other h.nx _ _).other h.nx _ _,(((Arr.other h.y h.ny _ _).other h.ny _ _).other h.ny _ _).other h.ny _ _,h.o.put hi r,h.nx,h.ny,h.no⟩
theorem RcI.to (h:RcI w xb yb ob xs ys out W) {l:List Rct} (e:out=l):RcI w xb yb ob xs ys l W:=e ▸ h
end
theorem set_same8 {α:Type} {l:List α} {a:Nat} {x:α} (h:l[a]?=some x):l.set a x=l:=by
 apply List.ext_getElem?
 intro j
 by_cases e:a=j
 ·subst e
  rw [List.getElem?_set_self (List.getElem?_eq_some_iff.1 h).1,h]
 ·rw [List.getElem?_set_ne e]
def SpR (s:Spn):Prop:=0≤s.c∧s.c≤70000000∧1≤s.cs∧s.cs≤4096∧0≤s.r∧s.r≤70000000∧1≤s.rs∧s.rs≤4096
set_option maxRecDepth 100000 in
set_option maxHeartbeats 8000000 in
theorem rects_any {w:World} {vc vr vs:Value} {cols rows:List Int} {spans:List Spn} (hc:SlI w vc cols) (hr:SlI w vr rows) (hs:SlS w vs spans) (hc4:cols.length≤4096) (hr4:rows.length≤4096) (hs4:spans.length≤4096) (hok:∀ s ∈ spans,SpR s) (gap:Int) :
  Calls Tryz.prog 99 #[vc,vr,.int .i64 gap,vs] w (OutR (rectsG cols rows gap spans) w):=by
 obtain⟨G,hG⟩:∃ G,within3S gap 0 4096=G:=⟨_,rfl⟩
 have hGr:0≤G∧G≤4096:=by rw [← hG];unfold within3S;omega
 obtain⟨X,hX⟩:∃ X,beginsF G 0 cols=X:=⟨_,rfl⟩
 obtain⟨Y,hY⟩:∃ Y,beginsF G 0 rows=Y:=⟨_,rfl⟩
 obtain⟨O,hO⟩:∃ O,spans.map (rectS X Y G)=O:=⟨_,rfl⟩
 have HR:Hid (rectsG cols rows gap spans=O):=zH (by unfold rectsG;rw [if_neg (by omega),hG,hX,hY,hO])
 have HBX:=zH (fun W (hB:Below w.heap.size w W)=>begins_any (hc.below hB) G hGr hc4)
 have HBY:=zH (fun W (hB:Below w.heap.size w W)=>begins_any (hr.below hB) G hGr hr4)
 have hXr:∀ x ∈ X,0≤x∧x≤33554432:=fun x hx=>by rw [← hX] at hx;have:=begins_range hGr cols 0 x hx;omega
 have hYr:∀ x ∈ Y,0≤x∧x≤33554432:=fun x hx=>by rw [← hY] at hx;have:=begins_range hGr rows 0 x hx;omega
 have hXl:X.length=cols.length+1:=by rw [← hX];exact beginsF_len _ _ _
 have hYl:Y.length=rows.length+1:=by rw [← hY];exact beginsF_len _ _ _
 rw [hX] at HBX
 rw [hY] at HBY
 obtain⟨pc,cc,rfl,_,_⟩:=hc
 obtain⟨pr,cr,rfl,_,_⟩:=hr
 obtain⟨ps,cs,rfl,_,hsx⟩:=hs
 obtain⟨nc,hnc⟩:∃ n,cols.length=n:=⟨_,rfl⟩
 obtain⟨nr,hnr⟩:∃ n,rows.length=n:=⟨_,rfl⟩
 obtain⟨m,hm⟩:∃ m,spans.length=m:=⟨_,rfl⟩
 have hOl:O.length=m:=by rw [← hO,List.length_map,hm]
 have HOX:Hid (∀ (i:Nat) s,spans[i]?=some s→O[i]?=some (rectS X Y G s)):=zH fun i s h=>by rw [← hO,List.getElem?_map,h];rfl
 have HSX:=zH hsx
 have HOK:=zH hok
 have HXR:=zH hXr
 have HYR:=zH hYr
 have HG:=zH hG
 have HML:=zH hm
 have HOL:=zH hOl
 rw [hnc] at hc4 hXl HBX ⊢
 rw [hnr] at hr4 hYl HBY ⊢
 rw [hm] at hs4 ⊢
 have HXL:=zH hXl
 have HYL:=zH hYl
 have hmk:=mk_rects m hs4
 have e4:decide (max (nc:Int) (max (nr:Int) (m:Int)) > 4096)=false:=decide_eq_false (by omega)
 have e5:decide (max (max (nc:Int) (nr:Int)) (m:Int) > 4096)=false:=decide_eq_false (by omega)
 clear hsx hok hX hY hO hXr hYr hG hm hOl hXl hYl hnc hnr
 clear e4 e5
 go_enter Tryz.func99,Tryz.ntmps99
 go_upto_region 1 with (fail)
 go_cut [27] (fun v W'=>v=.bool false∧W'=w)
 case first=>as_aux_lemma=>
  have g1:decide (4096<(nc:Int))=false:=decide_eq_false (by omega)
  have g2:decide (4096<(nr:Int))=false:=decide_eq_false (by omega)
  have g3:decide (4096<(m:Int))=false:=decide_eq_false (by omega)
  go_wp2
  all_goals
   go_meet
   exact⟨by first|rfl|rw [g1]|rw [g2]|rw [g3],rfl⟩
 case rest=>
 obtain⟨rfl,hwc⟩:=hcut
 obtain rfl:=hwc.symm
 go_upto_region 4 with (go_at_call 132;((with_reducible refine(within3_any _ _ _ _).mono ?_);rintro e1' w2 ⟨rfl,hw2⟩;obtain rfl:=hw2.symm))
 rw [HG.out]
 go_wp2_with (go_at_call 137;(first|((with_reducible refine(HBX.out _ (Below.refl _ _)).mono ?_);rintro e1' w3 ⟨b3,rfl,hb3,ha3,hB3⟩;have HB1:Hid (Below w.heap.size w w3):=zH hB3;have HX1:Hid (ArrI w3 b3 X):=zH ha3;have hbl3:=ha3.lt;clear hb3 ha3 hB3)|((with_reducible refine(HBY.out _ HB1.out).mono ?_);rintro e1' w5 ⟨b5,rfl,hb5,ha5,hB5⟩;have HB2:Hid (Below w.heap.size w w5):=zH (Below.trans HB1.out (hB5.mono HB1.out.size));have HX2:Hid (ArrI w5 b3 X):=zH (Arr.below HX1.out hB5);have HY2:Hid (ArrI w5 b5 Y):=zH ha5;have hbl5:=ha5.lt;have hbx5:=HX2.out.lt;clear hb5 ha5 hB5)))
 have HMK:=zH (ArrR.made w5 m)
 have HI0:Hid (RcI w b3 b5 w5.heap.size X Y (partZ rct0 O 0) (w5.alloc (.cells (madeCells #[.int .i64 0,.int .i64 0,.int .i64 0,.int .i64 0] (m*4)) 142))):=zH ⟨Below.alloc HB2.out HB2.out.size _,Arr.alloc HX2.out _,Arr.alloc HY2.out _,by rw [partZ_zero,HOL.out];exact HMK.out,by omega,by omega,HB2.out.size⟩
 have hob:w.heap.size≤w5.heap.size:=HB2.out.size
 generalize w5.heap.size=ob at HI0 HMK hbl5 hbx5 hob ⊢
 clear HMK HB1 HB2 HX1 HX2 HY2 HBX HBY hmk
 rw [HXL.out,HYL.out]
 go_loopw [41] (fun i wr=>∃ a:Nat,i=.int .i64 a∧a≤m∧RcI w b3 b5 ob X Y (partZ rct0 O a) wr) (fun i _=>m - (intOf i).toNat)
 case atStart=>exact⟨0,rfl,by omega,HI0.out⟩
 case round=>
  obtain⟨a,rfl,ha,hI⟩:=hrel
  have HI:=zH hI
  have l1:=hI.x.lt
  have l2:=hI.y.lt
  have l3:=hI.o.lt
  clear hI HI0
  by_cases hlt:a<m
  ·have hltI:(a:Int)<(m:Int):=by omega
   obtain⟨s,hs⟩:∃ s,spans[a]?=some s:=⟨_,List.getElem?_eq_getElem (by rw [HML.out];exact hlt)⟩
   obtain⟨g,o,rfl,hg,hat⟩:=HSX.out a s hs
   obtain⟨c0,c1,c2,c3⟩:=hat.below HI.out.g hg
   have lg:g<wr.heap.size:=Nat.lt_of_lt_of_le hg HI.out.g.size
   obtain⟨o1,o2,o3,o4,o5,o6,o7,o8⟩:=HOK.out s (List.mem_of_getElem? hs)
   have HOA:=zH (HOX.out a s hs)
   have HJ:Hid (RcI w b3 b5 ob X Y (partZ rct0 O a) (wr.alloc (.cells #[.int .i64 s.c,.int .i64 s.r,.int .i64 s.cs,.int .i64 s.rs] 135))):=zH (HI.out.below (Below.alloc (Below.refl _ _) (Nat.le_refl _) _))
   have HQ:Hid (Arr (wr.alloc (.cells #[.int .i64 s.c,.int .i64 s.r,.int .i64 s.cs,.int .i64 s.rs] 135)) wr.heap.size [.int .i64 s.c,.int .i64 s.r,.int .i64 s.cs,.int .i64 s.rs] 135):=zH (by unfold Arr;rw [heap_alloc_new])
   have HPG:Hid ((partZ rct0 O a)[a]?=some rct0):=zH (partZ_get (by rw [HOL.out];exact hlt))
   have HPL:Hid (a<(partZ rct0 O a).length):=zH (by rw [partZ_len (by rw [HOL.out];omega),HOL.out];exact hlt)
   have hS1:=stretch_any (W:=wr.alloc (.cells #[.int .i64 s.c,.int .i64 s.r,.int .i64 s.cs,.int .i64 s.rs] 135)) (ArrI.sl HJ.out.x (by rw [HXL.out];omega) (nc+1)) nc HXL.out hc4 G s.c s.cs hGr ⟨o1,o2⟩ ⟨o3,o4⟩ HXR.out
   have hS2:=fun m=>stretch_any (W:=(wr.alloc (.cells #[.int .i64 s.c,.int .i64 s.r,.int .i64 s.cs,.int .i64 s.rs] 135)).drewN m) (ArrI.sl (HJ.out.drewN m).y (by rw [HYL.out];omega) (nr+1)) nr HYL.out hr4 G s.r s.rs hGr ⟨o5,o6⟩ ⟨o7,o8⟩ HYR.out
   rw [HXL.out] at hS1
   simp only [HYL.out] at hS2
   obtain⟨ox,hox⟩:∃ ox,stretchS X G s.c s.cs=ox:=⟨_,rfl⟩
   obtain⟨oy,hoy⟩:∃ oy,stretchS Y G s.r s.rs=oy:=⟨_,rfl⟩
   rw [hox] at hS1
   simp only [hoy] at hS2
   clear hs hat o1 o2 o3 o4 o5 o6 o7 o8
   cases ox with
   |none=>
    cases oy with
    |none=>
     unfold strV at hS1 hS2
     have HS1:=zH hS1
     have HS2:=zH hS2
     clear hS1 hS2
     have HV:Hid (O[a]?=some rct0):=zH (by rw [HOA.out];unfold rectS;rw [hox,hoy])
     clear hox hoy
     go_wp2_with (go_at_call 138;(first|((with_reducible refine(HS1.out).mono ?_);rintro e1' w3 ⟨rfl,m3,rfl⟩)|((with_reducible refine(HS2.out m3).mono ?_);rintro e1' w4 ⟨rfl,m4,rfl⟩;have HJ4:=zH (HJ.out.drewN (m3+m4)))))
     go_roundw
     case rel=>exact⟨a+1,by first|rfl|go_num,by omega,HJ4.out.to (l:=partZ rct0 O (a+1)) (by rw [← partZ_set HV.out,set_same8 HPG.out])⟩
     case measure=>simp [intOf]<;>omega
    |some q=>
     unfold strV at hS1 hS2
     have HS1:=zH hS1
     have HS2:=zH hS2
     clear hS1 hS2
     have HV:Hid (O[a]?=some rct0):=zH (by rw [HOA.out];unfold rectS;rw [hox,hoy])
     clear hox hoy
     go_wp2_with (go_at_call 138;(first|((with_reducible refine(HS1.out).mono ?_);rintro e1' w3 ⟨rfl,m3,rfl⟩)|((with_reducible refine(HS2.out m3).mono ?_);rintro e1' w4 ⟨rfl,m4,rfl⟩;have HJ4:=zH (HJ.out.drewN (m3+m4)))))
     go_roundw
     case rel=>exact⟨a+1,by first|rfl|go_num,by omega,HJ4.out.to (l:=partZ rct0 O (a+1)) (by rw [← partZ_set HV.out,set_same8 HPG.out])⟩
     case measure=>simp [intOf]<;>omega
   |some p=>
    cases oy with
    |none=>
     unfold strV at hS1 hS2
     have HS1:=zH hS1
     have HS2:=zH hS2
     clear hS1 hS2
     have HV:Hid (O[a]?=some rct0):=zH (by rw [HOA.out];unfold rectS;rw [hox,hoy])
     clear hox hoy
     go_wp2_with (go_at_call 138;(first|((with_reducible refine(HS1.out).mono ?_);rintro e1' w3 ⟨rfl,m3,rfl⟩)|((with_reducible refine(HS2.out m3).mono ?_);rintro e1' w4 ⟨rfl,m4,rfl⟩;have HJ4:=zH (HJ.out.drewN (m3+m4)))))
     go_roundw
     case rel=>exact⟨a+1,by first|rfl|go_num,by omega,HJ4.out.to (l:=partZ rct0 O (a+1)) (by rw [← partZ_set HV.out,set_same8 HPG.out])⟩
     case measure=>simp [intOf]<;>omega
    |some q=>
     unfold strV at hS1 hS2
     have HS1:=zH hS1
     have HS2:=zH hS2
     have HV:Hid (O[a]?=some ⟨p.1,q.1,p.2,q.2⟩):=zH (by rw [HOA.out];unfold rectS;rw [hox,hoy])
     clear hox hoy hS1 hS2
     obtain⟨r0,r1,r2,r3⟩:=HI.out.o.at HPG.out
     have f0:=HI.out.o.froz (a*4)
     have f1:=HI.out.o.froz (a*4+1)
     have f2:=HI.out.o.froz (a*4+2)
     have f3:=HI.out.o.froz (a*4+3)
     go_wp2_with (go_at_call 138;(first|((with_reducible refine(HS1.out).mono ?_);rintro e1' w3 ⟨rfl,m3,rfl⟩)|((with_reducible refine(HS2.out m3).mono ?_);rintro e1' w4 ⟨rfl,m4,rfl⟩;have HJ4:=zH (HJ.out.drewN (m3+m4)))))
     go_roundw
     case rel=>exact⟨a+1,by first|rfl|go_num,by omega,(HJ4.out.put HPL.out ⟨p.1,q.1,p.2,q.2⟩).to (partZ_set HV.out)⟩
     case measure=>simp [intOf]<;>omega
  ·as_aux_lemma=>
   have hltI:decide ((a:Int)<(m:Int))=false:=decide_eq_false (by omega)
   obtain rfl:a=m:=by omega
   have hfull:partZ rct0 O a=O:=partZ_full HOL.out.symm
   have hI:=HI.out
   rw [hfull] at hI
   have HI2:=zH hI
   clear hfull hI
   go_wp2
   go_ret
   rw [HR.out]
   exact⟨_,rfl,HI2.out.g,some ⟨ob,0,none⟩,a,by rw [HOL.out];rfl,by rw [HOL.out];omega,fun i x hi=>⟨ob,0,rfl,l3,by rw [Nat.zero_add];exact HI2.out.o.at hi⟩⟩
end Go.Proofs.YtlenbcmgjancmaaGreatDoor
namespace Go.Proofs.YtlenbcmgjancmaaGreatDoor
open Go.RowKit Go.Maps
theorem gflow_ok {l:List Spn} (h:l.length≤4096) (n:Int):∀ s ∈ gflow l n,SpR s∧s.r+s.rs≤25000000:=by
 intro s hs
 unfold gflow at hs
 rw [if_neg (by omega)] at hs
 have hc:=within3_range n
 generalize within3S n 1 64=cols at *
 have hin:∀ t ∈ l.map (clampG cols),SIn cols t:=fun t ht=>by
  obtain⟨z,_,rfl⟩:=List.mem_map.1 ht
  exact clampG_ok hc.1 z
 have hb:GBOk cols 8192 ⟨(l.map (clampG cols)).filter (fun s=>decide (setP s)),0,0⟩:=by
  refine⟨fun t ht=>?_,by dsimp only;omega,by dsimp only;omega⟩
  obtain⟨h1,h2⟩:=List.mem_filter.1 ht
  have h3:=hin t h1
  have h4:=of_decide_eq_true h2
  have:=h3.cs
  have:=h3.cc
  have:=h3.rs
  have:=h3.r4
  have:=h3.r1
  exact⟨h4.1,h4.2,h3.cs,h3.cc,h3.rs,h3.r4,by omega⟩
 have:=flowF_ok hc (l.map (clampG cols)) _ 8192 hin hb (by omega) (by rw [List.length_map];omega) s hs
 rw [List.length_map] at this
 obtain⟨a1,a2,a3,a4,a5,a6,a7⟩:=this
 unfold SpR
 omega
theorem tracksG_near {items:List Itm} (h:items.length≤4096) (needs:List Ned) (e g:Int):(tracksG items needs e g).length≤4096∧∀ x ∈ tracksG items needs e g,-34359738368≤x∧x≤34359738368:=by
 unfold tracksG
 rw [if_neg (by omega)]
 have hl:(List.zipWith fixI (items.map normI) (hasAll (items.map normI) needs (within3S g 0 4096))).length≤4096:=by rw [List.length_zipWith,List.length_map];omega
 have:=sizesS_near hl (within3S e 0 4096) (within3S g 0 4096)
 exact⟨by rw [this.1];exact hl,this.2⟩
theorem gd_range {l:List Int} {A B:Int} (h:∀ x ∈ l,A≤x∧x≤B) (h0:A≤0∧0≤B) (i:Nat):A≤gd l i∧gd l i≤B:=by
 unfold gd
 cases hi:l[i]? with
 |none=>exact h0
 |some x=>exact h x (List.mem_of_getElem? hi)
theorem stretch_near {l:List Int} (h:∀ x ∈ l,0≤x∧x≤33554432) {gap:Int} (hg:0≤gap∧gap≤4096) (f m:Int) {a:Int × Int} (ha:stretchS l gap f m=some a) : -40000000≤a.2∧a.2≤40000000:=by
 have key:∀ i j:Nat,-40000000≤gd l j - gap - gd l i∧gd l j - gap - gd l i≤40000000:=fun i j=>by
  have h1:=gd_range (A:=0) (B:=33554432) h (by omega) i
  have h2:=gd_range (A:=0) (B:=33554432) h (by omega) j
  omega
 unfold stretchS at ha
 dsimp only at ha
 repeat' split at ha
 all_goals first|(cases ha;done)|(obtain rfl:=Option.some.inj ha;exact key _ _)
theorem rectsG_near {cols rows:List Int} (hc:cols.length≤4096) (hr:rows.length≤4096) (gap:Int) {spans:List Spn} (hs:spans.length≤4096):(rectsG cols rows gap spans).length=spans.length∧∀ r ∈ rectsG cols rows gap spans,-40000000≤r.w∧r.w≤40000000:=by
 unfold rectsG
 rw [if_neg (by omega)]
 refine⟨by rw [List.length_map],fun r hrr=>?_⟩
 obtain⟨s,_,rfl⟩:=List.mem_map.1 hrr
 have hg:0≤within3S gap 0 4096∧within3S gap 0 4096≤4096:=by unfold within3S;omega
 generalize within3S gap 0 4096=G at *
 have hb:∀ x ∈ beginsF G 0 cols,0≤x∧x≤33554432:=fun x hx=>by have:=begins_range hg cols 0 x hx;omega
 unfold rectS
 split
 ·rename_i a b ha hb2
  exact stretch_near hb hg _ _ ha
 ·dsimp only;omega
theorem manyS_range:∀ (l:List Spn) (m:Int),0≤m∧m≤4096→0≤manyS l m∧manyS l m≤4096
 | [],m,h=>h
 |s :: l,m,h=>by unfold manyS;exact manyS_range l _ (by omega)
theorem manyS_drop {l:List Spn} {a:Nat} {s:Spn} {m:Int} (h:l[a]?=some s):manyS (l.drop a) m=manyS (l.drop (a+1)) (min (max m (s.r+s.rs)) 4096):=by
 obtain⟨h1,rfl⟩:=List.getElem?_eq_some_iff.1 h
 rw [List.drop_eq_getElem_cons h1];rfl
theorem SlS.lt {w:World} {v:Value} {l:List Spn} (h:SlS w v l):∀ a n c,v=.slice (some a) n c→l ≠ []→a.block<w.heap.size:=by
 obtain⟨p,c,rfl,_,hx⟩:=h
 intro a n c' e hl
 obtain⟨s,hs⟩:∃ s,l[0]?=some s:=⟨_,List.getElem?_eq_getElem (List.length_pos_iff.2 hl)⟩
 obtain⟨g,o,rfl,hg,_⟩:=hx 0 s hs
 injection e with e1 _ _
 injection e1 with e1
 subst e1
 exact hg
theorem SlS.setN {w:World} {v:Value} {l:List Spn} (h:SlS w v l) {b:Nat} (hne:∀ a n c,v=.slice (some a) n c→l ≠ []→a.block ≠ b) (j:Nat) (x:Value):SlS (w.setCell ⟨b,j,none⟩ x) v l:=by
 obtain⟨p,c,rfl,hl,hx⟩:=h
 refine⟨p,c,rfl,hl,fun i y hi=>?_⟩
 obtain⟨g,o,rfl,hg,hc⟩:=hx i y hi
 have hb:g ≠ b:=hne ⟨g,o,none⟩ _ _ rfl (by intro e;subst e;simp at hi)
 have e:∀ q,(w.setCell ⟨b,j,none⟩ x).cell? ⟨g,q,none⟩=w.cell? ⟨g,q,none⟩:=fun q=>World.cell?_of_block (heap_setCell_other w ⟨b,j,none⟩ g x hb)
 exact⟨g,o,rfl,by simpa [World.setCell] using hg,⟨(e _).trans hc.c,(e _).trans hc.r,(e _).trans hc.cs,(e _).trans hc.rs⟩⟩
theorem RctAt.of_eq {w w':World} {g o:Nat} {r:Rct} (h:RctAt w g o r) (e:∀ (q:Nat),w'.cell? ⟨g,q,none⟩=w.cell? ⟨g,q,none⟩):RctAt w' g o r:=⟨(e _).trans h.rx,(e _).trans h.ry,(e _).trans h.rw',(e _).trans h.rh⟩
theorem SlRc.below {w w':World} {v:Value} {l:List Rct} (h:SlRc w v l) (hb:Below w.heap.size w w'):SlRc w' v l:=by
 obtain⟨p,c,rfl,hl,hx⟩:=h
 refine⟨p,c,rfl,hl,fun i x hi=>?_⟩
 obtain⟨g,o,e,hg,hc⟩:=hx i x hi
 exact⟨g,o,e,Nat.lt_of_lt_of_le hg hb.size,hc.of_eq fun q=>hb.cell (p:=⟨g,q,none⟩) hg⟩
theorem SlRc.keeps {w w':World} {v:Value} {l:List Rct} (h:SlRc w v l) (k:Keeps w w') (hs:w.heap.size≤w'.heap.size):SlRc w' v l:=by
 obtain⟨p,c,rfl,hl,hx⟩:=h
 refine⟨p,c,rfl,hl,fun i x hi=>?_⟩
 obtain⟨g,o,e,hg,hc⟩:=hx i x hi
 exact⟨g,o,e,Nat.lt_of_lt_of_le hg hs,⟨k _ _ hc.rx,k _ _ hc.ry,k _ _ hc.rw',k _ _ hc.rh⟩⟩
theorem SlRc.lt {w:World} {v:Value} {l:List Rct} (h:SlRc w v l):∀ a n c,v=.slice (some a) n c→l ≠ []→a.block<w.heap.size:=by
 obtain⟨p,c,rfl,_,hx⟩:=h
 intro a n c' e hl
 obtain⟨s,hs⟩:∃ s,l[0]?=some s:=⟨_,List.getElem?_eq_getElem (List.length_pos_iff.2 hl)⟩
 obtain⟨g,o,rfl,hg,_⟩:=hx 0 s hs
 injection e with e1 _ _
 injection e1 with e1
 subst e1
 exact hg
theorem SlRc.setN {w:World} {v:Value} {l:List Rct} (h:SlRc w v l) {b:Nat} (hne:∀ a n c,v=.slice (some a) n c→l ≠ []→a.block ≠ b) (j:Nat) (x:Value):SlRc (w.setCell ⟨b,j,none⟩ x) v l:=by
 obtain⟨p,c,rfl,hl,hx⟩:=h
 refine⟨p,c,rfl,hl,fun i y hi=>?_⟩
 obtain⟨g,o,rfl,hg,hc⟩:=hx i y hi
 have hb:g ≠ b:=hne ⟨g,o,none⟩ _ _ rfl (by intro e;subst e;simp at hi)
 exact⟨g,o,rfl,by simpa [World.setCell] using hg,hc.of_eq fun q=>World.cell?_of_block (heap_setCell_other w ⟨b,j,none⟩ g x hb)⟩
structure RwI (w:World) (p:MP) (vp:Value) (pl:List Spn) (W:World):Prop where
 ms:MS p w W
 ps:SlS W vp pl
section
variable {w W W':World} {p:MP} {vp:Value} {pl:List Spn}
theorem RwI.below (h:RwI w p vp pl W) (hB:Below W.heap.size W W'):RwI w p vp pl W':=⟨h.ms.below hB,h.ps.below hB⟩
theorem RwI.calls (h:RwI w p vp pl W) (hg:W.grownBy W' (some p.bm)) (hM:MG p W'):RwI w p vp pl W':=⟨h.ms.calls hg hM,h.ps.keeps (h.ms.mg.keeps hg) hg.size⟩
theorem RwI.set (h:RwI w p vp pl W) {b:Nat} (hb:w.heap.size≤b) (hne:∀ a n c,vp=.slice (some a) n c→pl ≠ []→a.block ≠ b) (j:Nat) (x:Value):RwI w p vp pl (W.setCell ⟨b,j,none⟩ x):=⟨h.ms.set hb _ _,h.ps.setN hne _ _⟩
end
structure Rw3 (w:World) (p:MP) (vp:Value) (pl:List Spn) (vr:Value) (rc:List Rct) (b:Nat) (l:List Ned) (W:World):Prop where
 base:RwI w p vp pl W
 rc:SlRc W vr rc
 ar:ArrN W b l []
section
variable {w W W':World} {p:MP} {vp vr:Value} {pl:List Spn} {rc:List Rct} {b:Nat} {l:List Ned}
theorem Rw3.below (h:Rw3 w p vp pl vr rc b l W) (hB:Below W.heap.size W W'):Rw3 w p vp pl vr rc b l W':=⟨h.base.below hB,h.rc.below hB,h.ar.below hB⟩
theorem Rw3.calls (h:Rw3 w p vp pl vr rc b l W) (hb:b ≠ p.bm) (hg:W.grownBy W' (some p.bm)) (hM:MG p W'):Rw3 w p vp pl vr rc b l W' :=
 ⟨h.base.calls hg hM,h.rc.keeps (h.base.ms.mg.keeps hg) hg.size,h.ar.grown hg (by simpa using hb)⟩
theorem Rw3.put (h:Rw3 w p vp pl vr rc b l W) (hb:w.heap.size≤b) (h1:∀ a n c,vp=.slice (some a) n c→pl ≠ []→a.block ≠ b) (h2:∀ a n c,vr=.slice (some a) n c→rc ≠ []→a.block ≠ b) {i:Nat} (hi:i<l.length) (x:Ned) :
  Rw3 w p vp pl vr rc b (l.set i x) (((W.setCell ⟨b,i*3,none⟩ (.int .i64 x.a)).setCell ⟨b,i*3+1,none⟩ (.int .i64 x.s)).setCell ⟨b,i*3+2,none⟩ (.int .i64 x.z)) :=
 ⟨((h.base.set hb h1 _ _).set hb h1 _ _).set hb h1 _ _,((h.rc.setN h2 _ _).setN h2 _ _).setN h2 _ _,h.ar.put hi x⟩
theorem Rw3.to (h:Rw3 w p vp pl vr rc b l W) {l':List Ned} (e:l=l'):Rw3 w p vp pl vr rc b l' W:=e ▸ h
end
end Go.Proofs.YtlenbcmgjancmaaGreatDoor
namespace Go.Proofs.YtlenbcmgjancmaaGreatDoor
open Go.RowKit Go.Maps
theorem NodeV.at {w:World} {g o:Nat} {x:ND} {kv cv:Value} (h:NodeV w g o x kv cv) (hk:kv.oneCell'=true) (hc:cv.oneCell'=true):∀ q,q<34→∃ u,w.cell? ⟨g,o+q,none⟩=some u∧u.oneCell'=true:=by
 intro q hq
 rcases (show q=0∨q=1∨q=2∨q=3∨q=4∨q=5∨q=6∨q=7∨q=8∨q=9∨q=10∨q=11∨q=12∨q=13∨q=14∨q=15∨q=16∨q=17∨q=18∨q=19∨q=20∨q=21∨q=22∨q=23∨q=24∨q=25∨q=26∨q=27∨q=28∨q=29∨q=30∨q=31∨q=32∨q=33 by omega) with rfl|rfl|rfl|rfl|rfl|rfl|rfl|rfl|rfl|rfl|rfl|rfl|rfl|rfl|rfl|rfl|rfl|rfl|rfl|rfl|rfl|rfl|rfl|rfl|rfl|rfl|rfl|rfl|rfl|rfl|rfl|rfl|rfl|rfl
 ·exact⟨_,h.kd,rfl⟩
 ·exact⟨_,h.id,rfl⟩
 ·exact⟨_,h.cl,rfl⟩
 ·exact⟨_,h.kids,hk⟩
 ·exact⟨_,h.w0,rfl⟩
 ·exact⟨_,h.w1,rfl⟩
 ·exact⟨_,h.w2,rfl⟩
 ·exact⟨_,h.w3,rfl⟩
 ·exact⟨_,h.w4,rfl⟩
 ·exact⟨_,h.h0,rfl⟩
 ·exact⟨_,h.h1,rfl⟩
 ·exact⟨_,h.h2,rfl⟩
 ·exact⟨_,h.h3,rfl⟩
 ·exact⟨_,h.h4,rfl⟩
 ·exact⟨_,h.gap,rfl⟩
 ·exact⟨_,h.p0,rfl⟩
 ·exact⟨_,h.p1,rfl⟩
 ·exact⟨_,h.p2,rfl⟩
 ·exact⟨_,h.p3,rfl⟩
 ·exact⟨_,h.bd,rfl⟩
 ·exact⟨_,h.al,rfl⟩
 ·exact⟨_,h.cr,rfl⟩
 ·exact⟨_,h.tx,rfl⟩
 ·exact⟨_,h.md,rfl⟩
 ·exact⟨_,h.fg,rfl⟩
 ·exact⟨_,h.bg,rfl⟩
 ·exact⟨_,h.ad,rfl⟩
 ·exact⟨_,h.dr,rfl⟩
 ·exact⟨_,h.cols,hc⟩
 ·exact⟨_,h.x0,rfl⟩
 ·exact⟨_,h.x1,rfl⟩
 ·exact⟨_,h.x2,rfl⟩
 ·exact⟨_,h.x3,rfl⟩
 ·exact⟨_,h.fl,rfl⟩
theorem NodeV.move {w W:World} {g o g' o':Nat} {x:ND} {kv cv:Value} (h:NodeV w g o x kv cv) (m:∀ q u,q<34→w.cell? ⟨g,o+q,none⟩=some u→W.cell? ⟨g',o'+q,none⟩=some u):NodeV W g' o' x kv cv :=
 ⟨m 0 _ (by omega) h.kd,m 1 _ (by omega) h.id,m 2 _ (by omega) h.cl,m 3 _ (by omega) h.kids,m 4 _ (by omega) h.w0,m 5 _ (by omega) h.w1,m 6 _ (by omega) h.w2,m 7 _ (by omega) h.w3,m 8 _ (by omega) h.w4,m 9 _ (by omega) h.h0,m 10 _ (by omega) h.h1,m 11 _ (by omega) h.h2,m 12 _ (by omega) h.h3,m 13 _ (by omega) h.h4,m 14 _ (by omega) h.gap,m 15 _ (by omega) h.p0,m 16 _ (by omega) h.p1,m 17 _ (by omega) h.p2,m 18 _ (by omega) h.p3,m 19 _ (by omega) h.bd,m 20 _ (by omega) h.al,m 21 _ (by omega) h.cr,m 22 _ (by omega) h.tx,m 23 _ (by omega) h.md,m 24 _ (by omega) h.fg,m 25 _ (by omega) h.bg,m 26 _ (by omega) h.ad,m 27 _ (by omega) h.dr,m 28 _ (by omega) h.cols,m 29 _ (by omega) h.x0,m 30 _ (by omega) h.x1,m 31 _ (by omega) h.x2,m 32 _ (by omega) h.x3,m 33 _ (by omega) h.fl⟩
theorem NodeV.setO {W:World} {g o j:Nat} {x:ND} {kv cv v:Value} (h:NodeV W g o x kv cv) (hj:j<o∨o+34≤j):NodeV (W.setCell ⟨g,j,none⟩ v) g o x kv cv :=
 h.move fun q u hq hc=>by rw [cell_setF (by omega)];exact hc
theorem NodeV.setKids {W:World} {g o:Nat} {x:ND} {kv cv:Value} (h:NodeV W g o x kv cv) (v:Value):NodeV (W.setCell ⟨g,o+3,none⟩ v) g o x v cv:=by
 have m:∀ q u,q<34→q ≠ 3→W.cell? ⟨g,o+q,none⟩=some u→(W.setCell ⟨g,o+3,none⟩ v).cell? ⟨g,o+q,none⟩=some u:=fun q u hq h3 hc=>by rw [cell_setF (by omega)];exact hc
 exact⟨m 0 _ (by omega) (by omega) h.kd,m 1 _ (by omega) (by omega) h.id,m 2 _ (by omega) (by omega) h.cl,cell_setH h.kids,m 4 _ (by omega) (by omega) h.w0,m 5 _ (by omega) (by omega) h.w1,m 6 _ (by omega) (by omega) h.w2,m 7 _ (by omega) (by omega) h.w3,m 8 _ (by omega) (by omega) h.w4,m 9 _ (by omega) (by omega) h.h0,m 10 _ (by omega) (by omega) h.h1,m 11 _ (by omega) (by omega) h.h2,m 12 _ (by omega) (by omega) h.h3,m 13 _ (by omega) (by omega) h.h4,m 14 _ (by omega) (by omega) h.gap,m 15 _ (by omega) (by omega) h.p0,m 16 _ (by omega) (by omega) h.p1,m 17 _ (by omega) (by omega) h.p2,m 18 _ (by omega) (by omega) h.p3,m 19 _ (by omega) (by omega) h.bd,m 20 _ (by omega) (by omega) h.al,m 21 _ (by omega) (by omega) h.cr,m 22 _ (by omega) (by omega) h.tx,m 23 _ (by omega) (by omega) h.md,m 24 _ (by omega) (by omega) h.fg,m 25 _ (by omega) (by omega) h.bg,m 26 _ (by omega) (by omega) h.ad,m 27 _ (by omega) (by omega) h.dr,m 28 _ (by omega) (by omega) h.cols,m 29 _ (by omega) (by omega) h.x0,m 30 _ (by omega) (by omega) h.x1,m 31 _ (by omega) (by omega) h.x2,m 32 _ (by omega) (by omega) h.x3,m 33 _ (by omega) (by omega) h.fl⟩
theorem NodeV.setCols {W:World} {g o:Nat} {x:ND} {kv cv:Value} (h:NodeV W g o x kv cv) (v:Value):NodeV (W.setCell ⟨g,o+28,none⟩ v) g o x kv v:=by
 have m:∀ q u,q<34→q ≠ 28→W.cell? ⟨g,o+q,none⟩=some u→(W.setCell ⟨g,o+28,none⟩ v).cell? ⟨g,o+q,none⟩=some u:=fun q u hq h3 hc=>by rw [cell_setF (by omega)];exact hc
 exact⟨m 0 _ (by omega) (by omega) h.kd,m 1 _ (by omega) (by omega) h.id,m 2 _ (by omega) (by omega) h.cl,m 3 _ (by omega) (by omega) h.kids,m 4 _ (by omega) (by omega) h.w0,m 5 _ (by omega) (by omega) h.w1,m 6 _ (by omega) (by omega) h.w2,m 7 _ (by omega) (by omega) h.w3,m 8 _ (by omega) (by omega) h.w4,m 9 _ (by omega) (by omega) h.h0,m 10 _ (by omega) (by omega) h.h1,m 11 _ (by omega) (by omega) h.h2,m 12 _ (by omega) (by omega) h.h3,m 13 _ (by omega) (by omega) h.h4,m 14 _ (by omega) (by omega) h.gap,m 15 _ (by omega) (by omega) h.p0,m 16 _ (by omega) (by omega) h.p1,m 17 _ (by omega) (by omega) h.p2,m 18 _ (by omega) (by omega) h.p3,m 19 _ (by omega) (by omega) h.bd,m 20 _ (by omega) (by omega) h.al,m 21 _ (by omega) (by omega) h.cr,m 22 _ (by omega) (by omega) h.tx,m 23 _ (by omega) (by omega) h.md,m 24 _ (by omega) (by omega) h.fg,m 25 _ (by omega) (by omega) h.bg,m 26 _ (by omega) (by omega) h.ad,m 27 _ (by omega) (by omega) h.dr,cell_setH h.cols,m 29 _ (by omega) (by omega) h.x0,m 30 _ (by omega) (by omega) h.x1,m 31 _ (by omega) (by omega) h.x2,m 32 _ (by omega) (by omega) h.x3,m 33 _ (by omega) (by omega) h.fl⟩
def Off {α:Type} (v:Value) (l:List α) (b:Nat):Prop:=∀ a n c,v=.slice (some a) n c→l ≠ []→a.block ≠ b
theorem SlI.setN {w:World} {v:Value} {l:List Int} (h:SlI w v l) {b:Nat} (hne:Off v l b) (j:Nat) (x:Value):SlI (w.setCell ⟨b,j,none⟩ x) v l:=by
 obtain⟨p,c,rfl,hl,hx⟩:=h
 refine⟨p,c,rfl,hl,fun i y hi=>?_⟩
 obtain⟨g,o,rfl,hg,hc⟩:=hx i y hi
 have hb:g ≠ b:=hne ⟨g,o,none⟩ _ _ rfl (by intro e;subst e;simp at hi)
 exact⟨g,o,rfl,by simpa using hg,by rw [setCell_otherP hb];exact hc⟩
theorem SlT.setN {w:World} {v:Value} {l:List Itm} (h:SlT w v l) {b:Nat} (hne:Off v l b) (j:Nat) (x:Value):SlT (w.setCell ⟨b,j,none⟩ x) v l:=by
 obtain⟨p,c,rfl,hl,hx⟩:=h
 refine⟨p,c,rfl,hl,fun i y hi=>?_⟩
 obtain⟨g,o,rfl,hg,hc⟩:=hx i y hi
 have hb:g ≠ b:=hne ⟨g,o,none⟩ _ _ rfl (by intro e;subst e;simp at hi)
 exact⟨g,o,rfl,by simpa using hg,hc.of_eq fun q=>setCell_otherP hb _ _ _⟩
theorem off_lt {α:Type} {p:Option Addr} {n c b:Nat} {l:List α} (h:∀ (i:Nat) y,l[i]?=some y→∃ g o,p=some ⟨g,o,none⟩∧g<b):Off (.slice p n c) l b:=by
 intro a m d e hl
 obtain⟨rfl,-,-⟩:p=some a∧n=m∧c=d:=by simpa using e
 cases l with
 |nil=>exact absurd rfl hl
 |cons y l=>
  obtain⟨g,o,e,hg⟩:=h 0 y rfl
  obtain rfl:=Option.some.inj e
  exact Nat.ne_of_lt hg
theorem SlI.off {w:World} {v:Value} {l:List Int} (h:SlI w v l) {b:Nat} (hb:w.heap.size≤b):Off v l b:=by
 obtain⟨p,c,rfl,hl,hx⟩:=h
 exact off_lt fun i y hi=>by obtain⟨g,o,e,hg,_⟩:=hx i y hi;exact⟨g,o,e,by omega⟩
theorem SlT.off {w:World} {v:Value} {l:List Itm} (h:SlT w v l) {b:Nat} (hb:w.heap.size≤b):Off v l b:=by
 obtain⟨p,c,rfl,hl,hx⟩:=h
 exact off_lt fun i y hi=>by obtain⟨g,o,e,hg,_⟩:=hx i y hi;exact⟨g,o,e,by omega⟩
structure TreeN (W:World) (b:Nat) (ns:List ND):Prop where
 nd:∀ (i:Nat) x,ns[i]?=some x→∃ kv cv,NodeV W b (i*34) x kv cv∧SlI W kv x.kids∧SlT W cv x.cols∧Off kv x.kids b∧Off cv x.cols b
 froz:∀ j,W.frozen? ⟨b,j,none⟩=false
 lt:b<W.heap.size
theorem TreeN.below {W W':World} {b:Nat} {ns:List ND} (h:TreeN W b ns) (hb:Below W.heap.size W W'):TreeN W' b ns :=
 ⟨fun i x hx=>by obtain⟨kv,cv,h1,h2,h3,h4,h5⟩:=h.nd i x hx;exact⟨kv,cv,h1.below hb h.lt,h2.below hb,h3.below hb,h4,h5⟩,fun j=>(hb.frozen (p:=⟨b,j,none⟩) h.lt).trans (h.froz j),Nat.lt_of_lt_of_le h.lt hb.size⟩
theorem TreeN.putKids {W:World} {b:Nat} {ns:List ND} (h:TreeN W b ns) {i:Nat} {x:ND} (hi:ns[i]?=some x) {v:Value} (hv:SlI W v x.kids) (ho:Off v x.kids b):TreeN (W.setCell ⟨b,i*34+3,none⟩ v) b ns:=by
 refine⟨fun j y hj=>?_,fun j=>by simp only [World.frozen?_setCell];exact h.froz j,by simpa using h.lt⟩
 obtain⟨kv,cv,h1,h2,h3,h4,h5⟩:=h.nd j y hj
 by_cases e:i=j
 ·subst e
  obtain rfl:x=y:=Option.some.inj (hi.symm.trans hj)
  exact⟨v,cv,h1.setKids v,hv.setN ho _ _,h3.setN h5 _ _,ho,h5⟩
 ·exact⟨kv,cv,h1.setO (by omega),h2.setN h4 _ _,h3.setN h5 _ _,h4,h5⟩
theorem TreeN.putCols {W:World} {b:Nat} {ns:List ND} (h:TreeN W b ns) {i:Nat} {x:ND} (hi:ns[i]?=some x) {v:Value} (hv:SlT W v x.cols) (ho:Off v x.cols b):TreeN (W.setCell ⟨b,i*34+28,none⟩ v) b ns:=by
 refine⟨fun j y hj=>?_,fun j=>by simp only [World.frozen?_setCell];exact h.froz j,by simpa using h.lt⟩
 obtain⟨kv,cv,h1,h2,h3,h4,h5⟩:=h.nd j y hj
 by_cases e:i=j
 ·subst e
  obtain rfl:x=y:=Option.some.inj (hi.symm.trans hj)
  exact⟨kv,v,h1.setCols v,h2.setN h4 _ _,hv.setN ho _ _,h4,ho⟩
 ·exact⟨kv,cv,h1.setO (by omega),h2.setN h4 _ _,h3.setN h5 _ _,h4,h5⟩
theorem TreeN.tree {W:World} {b:Nat} {ns:List ND} (h:TreeN W b ns):TreeAt W (some ⟨b,0,none⟩) ns:=fun i x hx=>by
 obtain⟨kv,cv,h1,h2,h3,_,_⟩:=h.nd i x hx
 exact⟨b,0,rfl,h.lt,kv,cv,by rw [Nat.zero_add];exact h1,h2,h3⟩
def nodesC' (w:World) (g o n:Nat):List Value:=(List.range (n*34)).map fun j=>(w.cell? ⟨g,o+j,none⟩).getD .nilIface
theorem nodesC'_len (w:World) (g o n:Nat):(nodesC' w g o n).length=n*34:=by unfold nodesC';simp
theorem nodesC'_get {w:World} {g o n j:Nat} {u:Value} (hj:j<n*34) (h:w.cell? ⟨g,o+j,none⟩=some u):(nodesC' w g o n)[j]?=some u:=by
 unfold nodesC'
 rw [List.getElem?_map,List.getElem?_range hj]
 simp [h]
theorem slI_one {w:World} {v:Value} {l:List Int} (h:SlI w v l):v.oneCell'=true:=by obtain⟨p,c,rfl,_⟩:=h;rfl
theorem slT_one {w:World} {v:Value} {l:List Itm} (h:SlT w v l):v.oneCell'=true:=by obtain⟨p,c,rfl,_⟩:=h;rfl
theorem nodesC'_cell {w:World} {g o c:Nat} {ns:List ND} (h:TreeAt w (some ⟨g,o,none⟩) ns) {j:Nat} {u:Value} (hu:(nodesC' w g o ns.length)[j]?=some u):w.cell? ⟨g,o+j,none⟩=some u∧u.oneCell'=true:=by
 have hj:=(List.getElem?_eq_some_iff.1 hu).1
 rw [nodesC'_len] at hj
 have hi:j / 34<ns.length:=by omega
 obtain⟨g',o',e,_,kv,cv,h1,h2,h3⟩:=h (j / 34) _ (List.getElem?_eq_getElem hi)
 obtain⟨rfl,rfl⟩:g=g'∧o=o':=by simpa using e
 obtain⟨v,hv,ho⟩:=h1.at (slI_one h2) (slT_one h3) (j % 34) (Nat.mod_lt _ (by decide))
 rw [Nat.add_assoc,Nat.div_add_mod' j 34] at hv
 rw [nodesC'_get hj hv] at hu
 obtain rfl:=Option.some.inj hu
 exact⟨hv,ho⟩
theorem TreeN.made {w W:World} {g o b:Nat} {ns:List ND} (h:TreeAt w (some ⟨g,o,none⟩) ns) (hw:w.heap.size≤b) (hb:b<W.heap.size) (hbel:Below w.heap.size w W)
  (hc:∀ j u,(nodesC' w g o ns.length)[j]?=some u→W.cell? ⟨b,j,none⟩=some u) (hf:∀ j,W.frozen? ⟨b,j,none⟩=false):TreeN W b ns:=by
 refine⟨fun i x hx=>?_,hf,hb⟩
 obtain⟨g',o',e,_,kv,cv,h1,h2,h3⟩:=h i x hx
 obtain⟨rfl,rfl⟩:g=g'∧o=o':=by simpa using e
 have hi:=(List.getElem?_eq_some_iff.1 hx).1
 exact⟨kv,cv,h1.move fun q u hq hu=>hc _ _ (nodesC'_get (by omega) (by rw [← Nat.add_assoc];exact hu)),h2.below hbel,h3.below hbel,h2.off hw,h3.off hw⟩
end Go.Proofs.YtlenbcmgjancmaaGreatDoor
namespace Go.Proofs.YtlenbcmgjancmaaGreatDoor
open Go.RowKit Go.Maps
theorem sumL_near {B:Int} (hB:0≤B):∀ (l:List Int),(∀ x ∈ l,-B≤x∧x≤B)→-(B*l.length)≤sumL l∧sumL l≤B*l.length
 | [],_=>by simp [sumL]
 |x :: l,h=>by
  have h1:=h x (by simp)
  have h2:=sumL_near hB l (fun y hy=>h y (by simp [hy]))
  have:B*((l.length+1:Nat):Int)=B*l.length+B:=by push_cast;rw [Int.mul_add,Int.mul_one]
  simp only [sumL,List.length_cons]
  omega
theorem sum_take_near {l:List Int} {B:Int} (hB:0≤B) (h:∀ x ∈ l,-B≤x∧x≤B) (a:Nat) (hl:l.length≤4096) : -(B*4096)≤sumL (l.take a)∧sumL (l.take a)≤B*4096:=by
 have:=sumL_near hB (l.take a) fun x hx=>h x (List.mem_of_mem_take hx)
 have h2:(((l.take a).length:Nat):Int)≤4096:=by rw [List.length_take];omega
 have h3:B*((l.take a).length:Int)≤B*4096:=Int.mul_le_mul_of_nonneg_left h2 hB
 omega
set_option maxRecDepth 100000 in
set_option maxHeartbeats 4000000 in
theorem sum_near (v:Value) (l:List Int) (gap:Int) (w:World) (hv:SlI w v l) (hg:0≤gap∧gap≤4096) (hl:l.length≤4096) (hb:∀ x ∈ l,-34359738368≤x∧x≤34359738368) :
  Calls Tryz.prog 44 #[v,.int .i64 gap] w (VRet (.int .i64 (sumS l gap)) w):=by
 obtain⟨p,c,rfl,_,hx⟩:=hv
 have HX:=zH hx
 have HB:=zH hb
 clear hx hb
 obtain⟨A,hA⟩:∃ A,gap*max 0 ((l.length:Int) - 1)=A:=⟨_,rfl⟩
 have hA0:0≤A∧A≤16777216:=by
  rw [← hA]
  refine⟨Int.mul_nonneg hg.1 (by omega),?_⟩
  have h1:gap*max 0 ((l.length:Int) - 1)≤4096*max 0 ((l.length:Int) - 1):=Int.mul_le_mul_of_nonneg_right hg.2 (by omega)
  omega
 have HR:Hid (sumS l gap=A+sumL l):=zH (by unfold sumS;rw [hA])
 go_enter Tryz.func44,Tryz.ntmps44
 go_wp2
 go_loopw [16,5] (fun i s wr=>∃ a:Nat,i=.int .i64 a∧a≤l.length∧s=.int .i64 (A+sumL (l.take a))∧wr=w) (fun i _ _=>l.length - (intOf i).toNat)
 case atStart=>exact⟨0,rfl,by omega,by simp [sumL],by first|rfl|trivial⟩
 case round=>
  obtain⟨a,rfl,hle,rfl,rfl⟩:=hrel
  by_cases hlt:a<l.length
  ·have hltI:(a:Int)<(l.length:Int):=by omega
   obtain⟨x,hx⟩:∃ x,l[a]?=some x:=⟨_,List.getElem?_eq_getElem hlt⟩
   obtain⟨g,o,rfl,hg,hc⟩:=HX.out a x hx
   have HS:=zH (take_succ_sum hx)
   have hb1:=HB.out x (List.mem_of_getElem? hx)
   have hb2:=sum_take_near (by omega) HB.out a hl
   clear hx
   generalize sumL (l.take a)=s at *
   go_wp2
   go_roundw
   case rel=>exact⟨a+1,by first|rfl|go_num,by omega,by rw [HS.out,Int.add_assoc],by first|rfl|trivial⟩
   case measure=>simp [intOf]<;>omega
  ·have hlt':decide ((a:Int)<(l.length:Int))=false:=decide_eq_false (by omega)
   obtain rfl:a=l.length:=by omega
   rw [List.take_length]
   go_wp2
   go_ret
   exact⟨by rw [HR.out];rfl,rfl⟩
theorem wishS_range {it:Itm} (h:it.ok) {v:Int} (hv:0≤v∧v≤4096):0≤wishS it v∧wishS it v≤4096:=by
 unfold Itm.ok RightP at h
 unfold wishS intoS
 split<;>split<;>omega
abbrev GpS (w:World) (p:MP) (n:Nat) (gap:Int) (W:World):Prop:=W.cell? ⟨p.g,n*34+14,none⟩=some (.int .i64 gap)∧MS p w W
theorem GpS.drew {w W:World} {p:MP} {n:Nat} {gap:Int} (h:GpS w p n gap W):GpS w p n gap W.drew:=⟨h.1,h.2.drew⟩
set_option maxRecDepth 100000 in
set_option maxHeartbeats 4000000 in
theorem row_least (p:MP) (w:World) (M:MG p w) (n:Nat) (x:ND) (hn:p.ns[n]?=some x) (hl:x.kids.length≤4096) (hgp:0≤x.gap∧x.gap≤4096) (nv:Int) (l:Int→Int) (hlr:∀ k ∈ x.kids,0≤l k∧l k≤4096)
  (HLW:∀ k ∈ x.kids,∀ W,MS p w W→Calls Tryz.prog 40 #[.pointer (some ⟨p.pm,0,none⟩),.int .i64 k] W (GPost (l k) p W)) :
  Calls Tryz.prog 51 #[.pointer (some ⟨p.pm,0,none⟩),.pointer (some ⟨p.g,n*34,none⟩),.int .i64 nv] w (GPost (sumS (x.kids.map l) x.gap) p w):=by
 obtain⟨kv,cv,hnd,hkv,_⟩:=M.node hn
 have s1:=hnd.gap
 obtain⟨gap,hgap⟩:∃ gap,x.gap=gap:=⟨_,rfl⟩
 rw [hgap] at s1 hgp ⊢
 have HS0:Hid (GpS w p n gap w.drew):=zH ⟨s1,(MS.start M).drew⟩
 have s2:MS p w w:=MS.start M
 have HE:=zH (each_gen w.drew p HS0.out.2.mg p.g (n*34) kv x.kids hnd.kids (hkv.below (Below.drew (Below.refl _ _))) hl 40 #[.pointer (some ⟨p.pm,0,none⟩)] #[] (fun _ _=>by kernel_rfl) l (fun k hkm W hW=>HLW k hkm W ⟨M,World.grownBy.trans HS0.out.2.gr hW.gr,hW.mg⟩))
 have HLR:Hid (∀ v ∈ x.kids.map l,-34359738368≤v∧v≤34359738368):=zH fun v hv=>by
  obtain⟨k,hk,rfl⟩:=List.mem_map.1 hv
  have:=hlr k hk;omega
 have HLL:Hid ((x.kids.map l).length≤4096):=zH (by rw [List.length_map];exact hl)
 have lg:=M.lg hn
 have HSG:Hid (w.cell? ⟨p.g,n*34+14,none⟩=some (.int .i64 gap)):=zH s1
 generalize x.kids.map l=L at HE HLR HLL ⊢
 clear hnd hkv M hn hl hlr HLW hgap
 go_enter Tryz.func51,Tryz.ntmps51
 go_upto_region 1 with (fail)
 go_region_held3 (fun W=>W.cell? ⟨p.g,n*34+14,none⟩=some (.int .i64 gap)∧MS p w W)
  ((first|(refine GpS.drew ?_;(refine⟨?_,?_⟩<;>assumption))|(refine⟨?_,?_⟩<;>assumption)))
  (first|(go_at_call 38;((with_reducible refine HE.out.mono ?_);rintro e1' w5 ⟨b,rfl,hb1,hA5,hg5,hM5⟩;have HM5:Hid (MS p w w5):=zH (HS0.out.2.calls hg5 hM5);have u1:=HM5.out.cell HSG.out;have u2:=HM5.out;have HSM:=zH (sum_near _ L gap w5 (ArrI.sl hA5 (by have:=HLL.out;omega) L.length) hgp HLL.out HLR.out)))|(go_at_call 44;((with_reducible refine HSM.out.mono ?_);rintro e1' w6 ⟨rfl,hw6⟩;obtain rfl:=hw6.symm)))
 all_goals
  go_wp2
  go_ret
  exact⟨rfl,HM5.out.gr,HM5.out.mg⟩
set_option maxRecDepth 100000 in
set_option maxHeartbeats 4000000 in
theorem row_most (p:MP) (w:World) (M:MG p w) (n:Nat) (x:ND) (hn:p.ns[n]?=some x) (hl:x.kids.length≤4096) (hgp:0≤x.gap∧x.gap≤4096) (nv:Int) (l:Int→Int) (hlr:∀ k ∈ x.kids,0≤l k∧l k≤4096)
  (HLW:∀ k ∈ x.kids,∀ W,MS p w W→Calls Tryz.prog 41 #[.pointer (some ⟨p.pm,0,none⟩),.int .i64 k] W (GPost (l k) p W)) :
  Calls Tryz.prog 52 #[.pointer (some ⟨p.pm,0,none⟩),.pointer (some ⟨p.g,n*34,none⟩),.int .i64 nv] w (GPost (sumS (x.kids.map l) x.gap) p w):=by
 obtain⟨kv,cv,hnd,hkv,_⟩:=M.node hn
 have s1:=hnd.gap
 obtain⟨gap,hgap⟩:∃ gap,x.gap=gap:=⟨_,rfl⟩
 rw [hgap] at s1 hgp ⊢
 have HS0:Hid (GpS w p n gap w.drew):=zH ⟨s1,(MS.start M).drew⟩
 have s2:MS p w w:=MS.start M
 have HE:=zH (each_gen w.drew p HS0.out.2.mg p.g (n*34) kv x.kids hnd.kids (hkv.below (Below.drew (Below.refl _ _))) hl 41 #[.pointer (some ⟨p.pm,0,none⟩)] #[] (fun _ _=>by kernel_rfl) l (fun k hkm W hW=>HLW k hkm W ⟨M,World.grownBy.trans HS0.out.2.gr hW.gr,hW.mg⟩))
 have HLR:Hid (∀ v ∈ x.kids.map l,-34359738368≤v∧v≤34359738368):=zH fun v hv=>by
  obtain⟨k,hk,rfl⟩:=List.mem_map.1 hv
  have:=hlr k hk;omega
 have HLL:Hid ((x.kids.map l).length≤4096):=zH (by rw [List.length_map];exact hl)
 have lg:=M.lg hn
 have HSG:Hid (w.cell? ⟨p.g,n*34+14,none⟩=some (.int .i64 gap)):=zH s1
 generalize x.kids.map l=L at HE HLR HLL ⊢
 clear hnd hkv M hn hl hlr HLW hgap
 go_enter Tryz.func52,Tryz.ntmps52
 go_upto_region 1 with (fail)
 go_region_held3 (fun W=>W.cell? ⟨p.g,n*34+14,none⟩=some (.int .i64 gap)∧MS p w W)
  ((first|(refine GpS.drew ?_;(refine⟨?_,?_⟩<;>assumption))|(refine⟨?_,?_⟩<;>assumption)))
  (first|(go_at_call 38;((with_reducible refine HE.out.mono ?_);rintro e1' w5 ⟨b,rfl,hb1,hA5,hg5,hM5⟩;have HM5:Hid (MS p w w5):=zH (HS0.out.2.calls hg5 hM5);have u1:=HM5.out.cell HSG.out;have u2:=HM5.out;have HSM:=zH (sum_near _ L gap w5 (ArrI.sl hA5 (by have:=HLL.out;omega) L.length) hgp HLL.out HLR.out)))|(go_at_call 44;((with_reducible refine HSM.out.mono ?_);rintro e1' w6 ⟨rfl,hw6⟩;obtain rfl:=hw6.symm)))
 all_goals
  go_wp2
  go_ret
  exact⟨rfl,HM5.out.gr,HM5.out.mg⟩
end Go.Proofs.YtlenbcmgjancmaaGreatDoor
