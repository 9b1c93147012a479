import Derived.Test.YtlenbcmgjancmaaGreatDoorMn31
import Derived.Test.YtlenbcmgjancmaaGreatDoorMn32
import Derived.Test.YtlenbcmgjancmaaGreatDoorMn18
import Derived.Test.YtlenbcmgjancmaaGreatDoorMn30
import Derived.Test.YtlenbcmgjancmaaGreatDoorMn14
set_option linter.unusedVariables false
set_option linter.unusedSimpArgs false
namespace Go.Proofs.YtlenbcmgjancmaaGreatDoor
open Go.RowKit Go.Maps
abbrev CSgT (w:World) (p:MP) (b3:Nat) (z:Int) (b1 b2 n q r:Nat) (fn:Value) (W:World):Prop:=W.cell? ⟨b3,0,none⟩=some (.int .i64 z)∧CSg w p b1 b2 n q r fn W
theorem CSgT.drew {w:World} {p:MP} {b3:Nat} {z:Int} {b1 b2 n q r:Nat} {fn:Value} {W:World} (h:CSgT w p b3 z b1 b2 n q r fn W):CSgT w p b3 z b1 b2 n q r fn W.drew:=⟨h.1,h.2.drew⟩
theorem CSgT.to {w:World} {p:MP} {b3:Nat} {z:Int} {b1 b2 n q r:Nat} {fn:Value} {W:World} (h:CSgT w p b3 z b1 b2 n q r fn w) (hW:MS p w W):CSgT w p b3 z b1 b2 n q r fn W:=⟨hW.cell h.1,h.2.to hW⟩
set_option maxRecDepth 100000 in
set_option maxHeartbeats 4000000 in
theorem tall1_gen (p:MP) (w:World) (M:MG p w) (n:Nat) (x:ND) (hn:p.ns[n]?=some x) (hx:FieldsP x) (q:Nat) (hq:x.kd=(q:Int)) (hq12:q<12) (b1 b2 b3:Nat) (z:Int) (hz:0≤z∧z≤4096) (hc3:w.cell? ⟨b3,0,none⟩=some (.int .i64 z)) (hc1:w.cell? ⟨b1,0,none⟩=some (.pointer (some ⟨p.pm,0,none⟩))) (hc2:w.cell? ⟨b2,0,none⟩=some (.int .i64 n))
  (F:Nat) (cap:Array Value) (hf:∀ args w,(callFunc F args).run Tryz.prog w=.ok (.enter F args) w) (hfn:w.cell? ⟨p.bk,q*3+2,none⟩=some (.func (.func F) #[] cap)) (v0:Int) (hv0 : -1125899906842624≤v0∧v0≤1125899906842624)
  (HF:∀ W,MS p w W→Calls Tryz.prog F (#[.pointer (some ⟨p.pm,0,none⟩),.pointer (some ⟨p.g,n*34,none⟩),.int .i64 n,.int .i64 (max 0 (z - fxS x))] ++ cap) W (GPost v0 p W)) :
  Calls Tryz.prog 23 #[.pointer (some ⟨p.g,n*34,none⟩),.pointer (some ⟨b1,0,none⟩),.pointer (some ⟨b2,0,none⟩),.pointer (some ⟨b3,0,none⟩)] w (GPost (v0+fyS x) p w):=by
 obtain⟨kv,cv,hnd,_,_⟩:=M.node hn
 have hfr:=fxS_range hx
 have hfq:=fyS_range hx
 have HFR:=zH (frame_any w p.g (n*34) x kv cv hnd (by unfold FieldsP at hx;omega) (by unfold FieldsP at hx;omega) (by unfold FieldsP at hx;omega) (by unfold FieldsP at hx;omega))
 have HH:=zH HF
 generalize fxS x=fx at HFR hfr HH
 generalize fyS x=fy at HFR hfq ⊢
 have HM:=zH (MS.start M)
 have hkd:=hnd.kd
 rw [hq] at hkd
 have HS0:Hid (CSgT w p b3 z b1 b2 n q (q*3+2) (.func (.func F) #[] cap) w):=zH ⟨hc3,hc1,hc2,M.c1,hkd,hfn,MS.start M⟩
 have hwr:IntKind.i64.wrap (v0+fy)=v0+fy:=IntWalk.i64_in _ (by omega)
 have hws:IntKind.i64.wrap (z - fx)=z - fx:=IntWalk.i64_in _ (by omega)
 have HC3:=zH hc3
 have lg:=M.lg hn
 have hqI:(q:Int)<12:=by omega
 clear HF hn hx M hc1 hc2 hc3 hnd hkd hq hfn
 go_enter Tryz.func23,Tryz.ntmps23
 go_upto_region 2 with (go_at_call 24;((with_reducible refine(HFR.out).mono ?_);rintro e1' w2 ⟨rfl,hb2⟩))
 have HM2:Hid (MS p w w2):=zH (HM.out.below hb2)
 have S1:=HS0.out.to HM2.out
 have HCALL:=zH (HH.out w2.drew HM2.out.drew)
 have HSK:Hid (∀ W,MS p w W→CSgT w p b3 z b1 b2 n q (q*3+2) (.func (.func F) #[] cap) W):=zH fun W hW=>HS0.out.to hW
 clear HS0 HH HFR hb2
 obtain⟨s0,s1,s2,s3,s4,s5,s6⟩:=S1
 have l0:=World.block_lt_of_cell? w2 _ s0
 have l1:=World.block_lt_of_cell? w2 _ s1
 have l2:=World.block_lt_of_cell? w2 _ s2
 have l3:=World.block_lt_of_cell? w2 _ s3
 have l4:=World.block_lt_of_cell? w2 _ s4
 have l5:=World.block_lt_of_cell? w2 _ s5
 go_region_held3 (fun W=>W.cell? ⟨b3,0,none⟩=some (.int .i64 z)∧W.cell? ⟨b1,0,none⟩=some (.pointer (some ⟨p.pm,0,none⟩))∧W.cell? ⟨b2,0,none⟩=some (.int .i64 n)∧W.cell? ⟨p.pm,1,none⟩=some (.slice (some ⟨p.bk,0,none⟩) 12 12)∧W.cell? ⟨p.g,n*34,none⟩=some (.int .i8 q)∧W.cell? ⟨p.bk,q*3+2,none⟩=some (.func (.func F) #[] cap)∧MS p w W)
  ((first|(refine CSgT.drew ?_;(refine⟨?_,?_,?_,?_,?_,?_,?_⟩<;>assumption))|(refine⟨?_,?_,?_,?_,?_,?_,?_⟩<;>assumption)))
  (first|((with_reducible refine HCALL.out.mono ?_);rintro e1' w3 ⟨rfl,hg3,hM3⟩;have HM3:Hid (MS p w w3):=zH (HM2.out.drew.calls hg3 hM3);obtain⟨u0,u1,u2,u3,u4,u5,u6⟩:=HSK.out _ HM3.out))
 all_goals
  go_wp2
  go_ret
  exact⟨rfl,HM3.out.gr,HM3.out.mg⟩
set_option maxRecDepth 100000 in
set_option maxHeartbeats 4000000 in
theorem Least_gen (p:MP) (w:World) (M:MG p w) (n:Nat) (x:ND) (hn:p.ns[n]?=some x) (hns:p.ns.length≤4096) (hx:FieldsP x) (q:Nat) (hq:x.kd=(q:Int)) (hq12:q<12)
  (F:Nat) (cap:Array Value) (hf:∀ args w,(callFunc F args).run Tryz.prog w=.ok (.enter F args) w) (hfn:w.cell? ⟨p.bk,q*3,none⟩=some (.func (.func F) #[] cap)) (v0:Int) (hv0 : -1125899906842624≤v0∧v0≤1125899906842624) (hfv:min (max (v0+fxS x) 0) 4096=p.f n 0 0)
  (HF:∀ W,MS p w W→Calls Tryz.prog F (#[.pointer (some ⟨p.pm,0,none⟩),.pointer (some ⟨p.g,n*34,none⟩),.int .i64 n] ++ cap) W (GPost v0 p W)) :
  Calls Tryz.prog 11 #[.pointer (some ⟨p.pm,0,none⟩),.int .i64 n] w (GPost (p.f n 0 0) p w):=by
 have hnl:n<p.ns.length:=(List.getElem?_eq_some_iff.1 hn).1
 have hfr:=fxS_range hx
 have hb:Below w.heap.size w ((w.alloc (.cells #[.pointer (some ⟨p.pm,0,none⟩)] 27)).alloc (.cells #[.int .i64 n] 3)):=by(repeat (first|exact Below.refl _ _|assumption|refine below_drewN ?_ _|refine Below.drew ?_|(refine Below.alloc ?_ ?bs _;(case bs=>first|omega|(simp;done)|(simp;omega)))|(refine Below.setCell ?_ ?bs _;(case bs=>first|omega|(simp;done)|(simp;omega)))))
 have lm:=M.lm
 have HOF:=zH (mof_gen _ p n 0 0 hns (by omega) (by omega) (by omega) (WalkArith.wf_i64 (by omega)) (by decide) (by decide) 25 #[.pointer (some ⟨w.heap.size,0,none⟩),.pointer (some ⟨w.heap.size+1,0,none⟩)] (fun _ _=>by kernel_rfl) (M.below hb) (v0+fxS x) ⟨by omega,by omega⟩ hfv (fun W hg hM=>by
  have hc1:W.cell? ⟨w.heap.size,0,none⟩=some (.pointer (some ⟨p.pm,0,none⟩)):=hg.cell (by simp) (by simp;omega)
  have hc2:W.cell? ⟨w.heap.size+1,0,none⟩=some (.int .i64 n):=hg.cell (by simp) (by simp;omega)
  have hS:MS p w W:=⟨M,World.grownBy.trans (grownBy_below hb (some p.bm)) hg,hM⟩
  rw [Int.toNat_natCast]
  exact least1_gen p W hM n x hn hx q hq hq12 w.heap.size (w.heap.size+1) hc1 hc2 F cap hf (hS.cell hfn) v0 hv0 (fun V hV=>HF V ⟨M,World.grownBy.trans hS.gr hV.gr,hV.mg⟩)))
 have HB:=zH hb
 clear HF hfv M hb hn hfn hf
 go_enter Tryz.func11,Tryz.ntmps11
 go_wp2_with (go_at_call 22;((with_reducible refine(HOF.out).mono ?_);rintro e1' w2 ⟨rfl,hg2,hM2⟩))
 go_ret
 exact⟨rfl,World.grownBy.trans (grownBy_below HB.out (some p.bm)) hg2,hM2⟩
set_option maxRecDepth 100000 in
set_option maxHeartbeats 4000000 in
theorem Most_gen (p:MP) (w:World) (M:MG p w) (n:Nat) (x:ND) (hn:p.ns[n]?=some x) (hns:p.ns.length≤4096) (hx:FieldsP x) (q:Nat) (hq:x.kd=(q:Int)) (hq12:q<12)
  (F:Nat) (cap:Array Value) (hf:∀ args w,(callFunc F args).run Tryz.prog w=.ok (.enter F args) w) (hfn:w.cell? ⟨p.bk,q*3+1,none⟩=some (.func (.func F) #[] cap)) (v0:Int) (hv0 : -1125899906842624≤v0∧v0≤1125899906842624) (hfv:min (max (v0+fxS x) 0) 4096=p.f n 1 0)
  (HF:∀ W,MS p w W→Calls Tryz.prog F (#[.pointer (some ⟨p.pm,0,none⟩),.pointer (some ⟨p.g,n*34,none⟩),.int .i64 n] ++ cap) W (GPost v0 p W)) :
  Calls Tryz.prog 12 #[.pointer (some ⟨p.pm,0,none⟩),.int .i64 n] w (GPost (p.f n 1 0) p w):=by
 have hnl:n<p.ns.length:=(List.getElem?_eq_some_iff.1 hn).1
 have hfr:=fxS_range hx
 have hb:Below w.heap.size w ((w.alloc (.cells #[.pointer (some ⟨p.pm,0,none⟩)] 27)).alloc (.cells #[.int .i64 n] 3)):=by(repeat (first|exact Below.refl _ _|assumption|refine below_drewN ?_ _|refine Below.drew ?_|(refine Below.alloc ?_ ?bs _;(case bs=>first|omega|(simp;done)|(simp;omega)))|(refine Below.setCell ?_ ?bs _;(case bs=>first|omega|(simp;done)|(simp;omega)))))
 have lm:=M.lm
 have HOF:=zH (mof_gen _ p n 1 0 hns (by omega) (by omega) (by omega) (WalkArith.wf_i64 (by omega)) (by decide) (by decide) 26 #[.pointer (some ⟨w.heap.size,0,none⟩),.pointer (some ⟨w.heap.size+1,0,none⟩)] (fun _ _=>by kernel_rfl) (M.below hb) (v0+fxS x) ⟨by omega,by omega⟩ hfv (fun W hg hM=>by
  have hc1:W.cell? ⟨w.heap.size,0,none⟩=some (.pointer (some ⟨p.pm,0,none⟩)):=hg.cell (by simp) (by simp;omega)
  have hc2:W.cell? ⟨w.heap.size+1,0,none⟩=some (.int .i64 n):=hg.cell (by simp) (by simp;omega)
  have hS:MS p w W:=⟨M,World.grownBy.trans (grownBy_below hb (some p.bm)) hg,hM⟩
  rw [Int.toNat_natCast]
  exact most1_gen p W hM n x hn hx q hq hq12 w.heap.size (w.heap.size+1) hc1 hc2 F cap hf (hS.cell hfn) v0 hv0 (fun V hV=>HF V ⟨M,World.grownBy.trans hS.gr hV.gr,hV.mg⟩)))
 have HB:=zH hb
 clear HF hfv M hb hn hfn hf
 go_enter Tryz.func12,Tryz.ntmps12
 go_wp2_with (go_at_call 22;((with_reducible refine(HOF.out).mono ?_);rintro e1' w2 ⟨rfl,hg2,hM2⟩))
 go_ret
 exact⟨rfl,World.grownBy.trans (grownBy_below HB.out (some p.bm)) hg2,hM2⟩
set_option maxRecDepth 100000 in
set_option maxHeartbeats 4000000 in
theorem Tall_gen (p:MP) (w:World) (M:MG p w) (n:Nat) (x:ND) (hn:p.ns[n]?=some x) (hns:p.ns.length≤4096) (hx:FieldsP x) (q:Nat) (hq:x.kd=(q:Int)) (hq12:q<12) (z z1:Int) (hz:I64 z) (hz1:min (max z 0) 4096=z1)
  (F:Nat) (cap:Array Value) (hf:∀ args w,(callFunc F args).run Tryz.prog w=.ok (.enter F args) w) (hfn:w.cell? ⟨p.bk,q*3+2,none⟩=some (.func (.func F) #[] cap)) (v0:Int) (hv0 : -1125899906842624≤v0∧v0≤1125899906842624) (hfv:min (max (v0+fyS x) 0) 4096=p.f n 2 z1)
  (HF:∀ W,MS p w W→Calls Tryz.prog F (#[.pointer (some ⟨p.pm,0,none⟩),.pointer (some ⟨p.g,n*34,none⟩),.int .i64 n,.int .i64 (max 0 (z1 - fxS x))] ++ cap) W (GPost v0 p W)) :
  Calls Tryz.prog 10 #[.pointer (some ⟨p.pm,0,none⟩),.int .i64 n,.int .i64 z] w (GPost (p.f n 2 z1) p w):=by
 have hnl:n<p.ns.length:=(List.getElem?_eq_some_iff.1 hn).1
 have hfq:=fyS_range hx
 have hxb:0≤z1∧z1≤4096:=by omega
 have HS:=zH fun W=>side_any z hz W
 rw [hz1] at HS
 have hb:Below w.heap.size w (((w.alloc (.cells #[.pointer (some ⟨p.pm,0,none⟩)] 27)).alloc (.cells #[.int .i64 n] 3)).alloc (.cells #[.int .i64 z1] 3)):=by(repeat (first|exact Below.refl _ _|assumption|refine below_drewN ?_ _|refine Below.drew ?_|(refine Below.alloc ?_ ?bs _;(case bs=>first|omega|(simp;done)|(simp;omega)))|(refine Below.setCell ?_ ?bs _;(case bs=>first|omega|(simp;done)|(simp;omega)))))
 have lm:=M.lm
 have k1:(((w.alloc (.cells #[.pointer (some ⟨p.pm,0,none⟩)] 27)).alloc (.cells #[.int .i64 n] 3)).alloc (.cells #[.int .i64 z1] 3)).cell? ⟨w.heap.size,0,none⟩=some (.pointer (some ⟨p.pm,0,none⟩)):=by
  rw [World.cell?_alloc_lt _ _ ⟨w.heap.size,0,none⟩ (by simp;omega),World.cell?_alloc_lt _ _ ⟨w.heap.size,0,none⟩ (by simp)];exact World.cell?_alloc_new _ _ _ _
 have k2:(((w.alloc (.cells #[.pointer (some ⟨p.pm,0,none⟩)] 27)).alloc (.cells #[.int .i64 n] 3)).alloc (.cells #[.int .i64 z1] 3)).cell? ⟨w.heap.size+1,0,none⟩=some (.int .i64 n):=by
  rw [World.cell?_alloc_lt _ _ ⟨w.heap.size+1,0,none⟩ (by simp)];exact cell_newC _ _ _ _ _ (by simp)
 have k3:(((w.alloc (.cells #[.pointer (some ⟨p.pm,0,none⟩)] 27)).alloc (.cells #[.int .i64 n] 3)).alloc (.cells #[.int .i64 z1] 3)).cell? ⟨w.heap.size+2,0,none⟩=some (.int .i64 z1):=cell_newC _ _ _ _ _ (by simp)
 have HOF:=zH (mof_gen _ p n 2 z1 hns (by omega) (by omega) hxb (WalkArith.wf_i64 (by omega)) (by decide) (WalkArith.wf_i64 (by omega)) 23 #[.pointer (some ⟨w.heap.size,0,none⟩),.pointer (some ⟨w.heap.size+1,0,none⟩),.pointer (some ⟨w.heap.size+2,0,none⟩)] (fun _ _=>by kernel_rfl) (M.below hb) (v0+fyS x) ⟨by omega,by omega⟩ hfv (fun W hg hM=>by
  have hc1:W.cell? ⟨w.heap.size,0,none⟩=some (.pointer (some ⟨p.pm,0,none⟩)):=hg.cell k1 (by simp;omega)
  have hc2:W.cell? ⟨w.heap.size+1,0,none⟩=some (.int .i64 n):=hg.cell k2 (by simp;omega)
  have hc3:W.cell? ⟨w.heap.size+2,0,none⟩=some (.int .i64 z1):=hg.cell k3 (by simp;omega)
  have hS:MS p w W:=⟨M,World.grownBy.trans (grownBy_below hb (some p.bm)) hg,hM⟩
  rw [Int.toNat_natCast]
  exact tall1_gen p W hM n x hn hx q hq hq12 w.heap.size (w.heap.size+1) (w.heap.size+2) z1 hxb hc3 hc1 hc2 F cap hf (hS.cell hfn) v0 hv0 (fun V hV=>HF V ⟨M,World.grownBy.trans hS.gr hV.gr,hV.mg⟩)))
 have HB:=zH hb
 clear k1 k2 k3 HF hfv M hb hn hfn hf hz hz1
 go_enter Tryz.func10,Tryz.ntmps10
 go_wp2_with (first|(go_at_call 21;((with_reducible refine(HS.out _).mono ?_);rintro e1' w3 ⟨rfl,rfl⟩))|(go_at_call 22;((with_reducible refine(HOF.out).mono ?_);rintro e1' w2 ⟨rfl,hg2,hM2⟩)))
 go_ret
 exact⟨rfl,World.grownBy.trans (grownBy_below HB.out (some p.bm)) hg2,hM2⟩
end Go.Proofs.YtlenbcmgjancmaaGreatDoor
namespace Go.Proofs.YtlenbcmgjancmaaGreatDoor
open Go.RowKit Go.Maps
theorem leastS_leG (md:Int) (t:ByteArray) (hs:t.size≤65536):leastS md (flowS t.data.toList)≤1000000:=by
 have h1:=(lstep_le md (flowS t.data.toList) (fun c hc=>(flowS_ok _ c hc).1.1)).1
 have h2:=flowS_len t.data.toList
 rw [blen] at h2
 unfold leastS;omega
structure Kc (p:MP) (k:Int):Prop where
 le:∀ W,MG p W→Calls Tryz.prog 11 #[.pointer (some ⟨p.pm,0,none⟩),.int .i64 k] W (GPost (p.f k 0 0) p W)
 mo:∀ W,MG p W→Calls Tryz.prog 12 #[.pointer (some ⟨p.pm,0,none⟩),.int .i64 k] W (GPost (p.f k 1 0) p W)
 ta:∀ z,I64 z→∀ W,MG p W→Calls Tryz.prog 10 #[.pointer (some ⟨p.pm,0,none⟩),.int .i64 k,.int .i64 z] W (GPost (p.f k 2 (sideS z)) p W)
def Tame (v:Int):Prop:=-1125899906842624≤v∧v≤1125899906842624
structure TabC (T:TabF) (p:MP):Prop where
 ls:∀ (n:Nat) x,p.ns[n]?=some x→x.kd=8→Tame (T.ls x)∧∀ W,MG p W→Calls Tryz.prog 67 #[.pointer (some ⟨p.pm,0,none⟩),.pointer (some ⟨p.g,n*34,none⟩),.int .i64 n] W (GPost (T.ls x) p W)
 ms:∀ (n:Nat) x,p.ns[n]?=some x→x.kd=8→Tame (T.ms x)∧∀ W,MG p W→Calls Tryz.prog 69 #[.pointer (some ⟨p.pm,0,none⟩),.pointer (some ⟨p.g,n*34,none⟩),.int .i64 n] W (GPost (T.ms x) p W)
 hs:∀ (n:Nat) x,p.ns[n]?=some x→x.kd=8→∀ iw,0≤iw∧iw≤4096→Tame (T.hs x iw)∧∀ W,MG p W→Calls Tryz.prog 72 #[.pointer (some ⟨p.pm,0,none⟩),.pointer (some ⟨p.g,n*34,none⟩),.int .i64 n,.int .i64 iw] W (GPost (T.hs x iw) p W)
structure Law (T:TabF) (p:MP):Prop where
 tree:TreeOk p.ns
 f:p.f=measF T p.ns
 tab:TabC T p
theorem sumS_tame {l:List Int} {gap:Int} (hg:0≤gap∧gap≤4096) (hl:l.length≤4096) (h:∀ x ∈ l,-34359738368≤x∧x≤34359738368):Tame (sumS l gap):=by
 have h1:=sumL_near (B:=34359738368) (by omega) l h
 have h2:0≤gap*max 0 ((l.length:Int) - 1):=Int.mul_nonneg hg.1 (by omega)
 have h3:gap*max 0 ((l.length:Int) - 1)≤4096*max 0 ((l.length:Int) - 1):=Int.mul_le_mul_of_nonneg_right hg.2 (by omega)
 unfold Tame sumS
 omega
theorem greatS_range:∀ (l:List Int) (m:Int),0≤m∧m≤4096→(∀ x ∈ l,0≤x∧x≤4096)→0≤greatS l m∧greatS l m≤4096
 | [],m,hm,_=>hm
 |x :: l,m,hm,h=>greatS_range l (max m x) (by have:=h x (by simp);omega) (fun y hy=>h y (by simp [hy]))
theorem tallRow_range {hi:Int→Int→Int}:∀ (ws ks:List Int) (m:Int),0≤m∧m≤4096→(∀ k ∈ ks,∀ z,0≤hi k z∧hi k z≤4096)→0≤tallRow hi ws ks m∧tallRow hi ws ks m≤4096
 | [],_,m,hm,_=>by simpa [tallRow] using hm
 |_ :: _,[],m,hm,_=>by simpa [tallRow] using hm
 |w :: ws,k :: ks,m,hm,h=>by
  simp only [tallRow]
  exact tallRow_range ws ks _ (by have:=h k (by simp) w;omega) (fun y hy=>h y (by simp [hy]))
section
variable {T:TabF} {p:MP} (L:Law T p)
include L
theorem Law.range (n y w:Int):0≤p.f n y w∧p.f n y w≤4096:=by rw [L.f];exact meas_range n y w
theorem Law.kidsOk:KidsOk p.ns:=fun i x hx=>(L.tree.node i x hx).kids
theorem Law.eq {n:Nat} {x:ND} (hn:p.ns[n]?=some x) (y w:Int):p.f n y w=workS T p.ns p.f n y w:=by
 have h:=meas_work (T:=T) L.kidsOk (List.getElem?_eq_some_iff.1 hn).1
 rw [← L.f] at h
 rw [h]
theorem Law.kid {n:Nat} {x:ND} (hn:p.ns[n]?=some x) {k:Int} (hk:k ∈ x.kids):∃ (j:Nat) (y:ND),k=(j:Int)∧p.ns[j]?=some y∧n<j∧NodeOk p.ns.length j y:=by
 obtain⟨h1,h2⟩:=(L.tree.node n x hn).kids k hk
 obtain⟨j,rfl⟩:∃ j:Nat,k=j:=⟨k.toNat,by omega⟩
 have hj:p.ns[j]?=some p.ns[j]:=List.getElem?_eq_getElem (by omega)
 exact⟨j,_,rfl,hj,by omega,L.tree.node j _ hj⟩
theorem Law.kidsIn {n:Nat} {x:ND} (hn:p.ns[n]?=some x):KidsIn p x.kids:=fun k hk=>by
 obtain⟨j,y,e,hy,_,ok⟩:=L.kid hn hk
 exact⟨j,y,e,hy,ok.items.1,ok.items.2.1,ok.fields⟩
theorem Law.lwr {n:Nat} {x:ND} (hn:p.ns[n]?=some x) {k:Int} (hk:k ∈ x.kids):0≤lwS p.ns p.f k∧lwS p.ns p.f k≤4096:=by
 obtain⟨j,y,rfl,hy,_,ok⟩:=L.kid hn hk
 unfold lwS;rw [ndF_eq hy];exact wishS_range ok.items.1 (L.range _ _ _)
theorem Law.mwr {n:Nat} {x:ND} (hn:p.ns[n]?=some x) {k:Int} (hk:k ∈ x.kids):0≤mwS p.ns p.f k∧mwS p.ns p.f k≤4096:=by
 obtain⟨j,y,rfl,hy,_,ok⟩:=L.kid hn hk
 unfold mwS;rw [ndF_eq hy];exact wishS_range ok.items.1 (L.range _ _ _)
theorem Law.hir {n:Nat} {x:ND} (hn:p.ns[n]?=some x) {k:Int} (hk:k ∈ x.kids) (z:Int):0≤highS p.ns p.f k z∧highS p.ns p.f k z≤4096:=by
 obtain⟨j,y,rfl,hy,_,ok⟩:=L.kid hn hk
 unfold highS;rw [ndF_eq hy];exact wishS_range ok.items.2.1 (L.range _ _ _)
theorem Law.lw {n:Nat} {x:ND} (hn:p.ns[n]?=some x) {k:Int} (hk:k ∈ x.kids) (K:Kc p k) (W:World) (hW:MG p W):Calls Tryz.prog 40 #[.pointer (some ⟨p.pm,0,none⟩),.int .i64 k] W (GPost (lwS p.ns p.f k) p W):=by
 obtain⟨j,y,rfl,hy,_,ok⟩:=L.kid hn hk
 unfold lwS;rw [ndF_eq hy]
 exact lw_gen p W hW j y hy _ (L.range _ _ _) (fun V hV=>K.le V hV.mg)
theorem Law.mw {n:Nat} {x:ND} (hn:p.ns[n]?=some x) {k:Int} (hk:k ∈ x.kids) (K:Kc p k) (W:World) (hW:MG p W):Calls Tryz.prog 41 #[.pointer (some ⟨p.pm,0,none⟩),.int .i64 k] W (GPost (mwS p.ns p.f k) p W):=by
 obtain⟨j,y,rfl,hy,_,ok⟩:=L.kid hn hk
 unfold mwS;rw [ndF_eq hy]
 exact mw_gen p W hW j y hy _ (L.range _ _ _) (fun V hV=>K.mo V hV.mg)
theorem Law.high {n:Nat} {x:ND} (hn:p.ns[n]?=some x) {k:Int} (hk:k ∈ x.kids) (K:Kc p k) (z:Int) (hz:I64 z) (W:World) (hW:MG p W):Calls Tryz.prog 46 #[.pointer (some ⟨p.pm,0,none⟩),.int .i64 k,.int .i64 z] W (GPost (highS p.ns p.f k z) p W):=by
 obtain⟨j,y,rfl,hy,_,ok⟩:=L.kid hn hk
 unfold highS;rw [ndF_eq hy]
 exact high_gen p W hW j y hy z _ (L.range _ _ _) (fun V hV=>K.ta z hz V hV.mg)
theorem Law.across {n:Nat} {x:ND} (hn:p.ns[n]?=some x) {k:Int} (hk:k ∈ x.kids) (K:Kc p k) (how iw:Int) (hw:0≤iw∧iw≤4096) (W:World) (hW:MG p W):Calls Tryz.prog 47 #[.pointer (some ⟨p.pm,0,none⟩),.int .i64 k,.int .i8 how,.int .i64 iw] W (GPost (acrossM p.ns p.f how iw k) p W):=by
 obtain⟨j,y,rfl,hy,_,ok⟩:=L.kid hn hk
 rw [acrossM_eq,ndF_eq hy]
 exact across_gen p W hW j y hy ok.items.1 how iw hw _ (fun V hV=>L.mw hn hk K V hV.mg)
end
end Go.Proofs.YtlenbcmgjancmaaGreatDoor
namespace Go.Proofs.YtlenbcmgjancmaaGreatDoor
open Go.RowKit Go.Maps
set_option maxRecDepth 100000 in
set_option maxHeartbeats 4000000 in
theorem of_out (w:World) (p:MP) (n y x:Int) (hn:n<0∨(p.ns.length:Int)≤n) (fv:Value) (M:MG p w) :
  Calls Tryz.prog 22 #[.pointer (some ⟨p.pm,0,none⟩),.agg #[.int .i64 n,.int .i64 y,.int .i64 x],fv] w (GPost 0 p w):=by
 have HG:=zH (World.grownBy_alloc w (.cells #[.int .i64 n,.int .i64 y,.int .i64 x] 64) (some p.bm))
 have c0:=M.c0
 have HM:=zH M
 have lp:=M.lp
 clear M
 by_cases h0:n<0
 ·have e1:(decide (n<0))=true:=decide_eq_true h0
  clear hn
  go_enter Tryz.func22,Tryz.ntmps22
  go_upto_region 1 with (fail)
  go_quiet (fail)
  go_wp2
  go_ret
  exact⟨rfl,World.grownBy.trans HG.out (grownBy_drewN _ _ _),(HM.out.below (Below.alloc (Below.refl _ _) (Nat.le_refl _) _)).below (below_drewN (Below.refl _ _) _)⟩
 ·have e1:(decide (n<0))=false:=decide_eq_false h0
  have e2:(decide ((p.ns.length:Int)≤n))=true:=decide_eq_true (by omega)
  clear hn h0
  go_enter Tryz.func22,Tryz.ntmps22
  go_upto_region 1 with (fail)
  go_quiet (fail)
  go_wp2
  go_ret
  exact⟨rfl,World.grownBy.trans HG.out (grownBy_drewN _ _ _),(HM.out.below (Below.alloc (Below.refl _ _) (Nat.le_refl _) _)).below (below_drewN (Below.refl _ _) _)⟩
set_option maxRecDepth 100000 in
set_option maxHeartbeats 4000000 in
theorem Least_out (p:MP) (w:World) (M:MG p w) (n:Int) (hn:n<0∨(p.ns.length:Int)≤n) :
  Calls Tryz.prog 11 #[.pointer (some ⟨p.pm,0,none⟩),.int .i64 n] w (GPost 0 p w):=by
 have hb:Below w.heap.size w ((w.alloc (.cells #[.pointer (some ⟨p.pm,0,none⟩)] 27)).alloc (.cells #[.int .i64 n] 3)):=by(repeat (first|exact Below.refl _ _|assumption|refine below_drewN ?_ _|refine Below.drew ?_|(refine Below.alloc ?_ ?bs _;(case bs=>first|omega|(simp;done)|(simp;omega)))|(refine Below.setCell ?_ ?bs _;(case bs=>first|omega|(simp;done)|(simp;omega)))))
 have HOF:=zH (fun fv=>of_out _ p n 0 0 hn fv (M.below hb))
 have HB:=zH hb
 clear M hb hn
 go_enter Tryz.func11,Tryz.ntmps11
 go_wp2_with (go_at_call 22;((with_reducible refine(HOF.out _).mono ?_);rintro e1' w2 ⟨rfl,hg2,hM2⟩))
 go_ret
 exact⟨rfl,World.grownBy.trans (grownBy_below HB.out (some p.bm)) hg2,hM2⟩
set_option maxRecDepth 100000 in
set_option maxHeartbeats 4000000 in
theorem Most_out (p:MP) (w:World) (M:MG p w) (n:Int) (hn:n<0∨(p.ns.length:Int)≤n) :
  Calls Tryz.prog 12 #[.pointer (some ⟨p.pm,0,none⟩),.int .i64 n] w (GPost 0 p w):=by
 have hb:Below w.heap.size w ((w.alloc (.cells #[.pointer (some ⟨p.pm,0,none⟩)] 27)).alloc (.cells #[.int .i64 n] 3)):=by(repeat (first|exact Below.refl _ _|assumption|refine below_drewN ?_ _|refine Below.drew ?_|(refine Below.alloc ?_ ?bs _;(case bs=>first|omega|(simp;done)|(simp;omega)))|(refine Below.setCell ?_ ?bs _;(case bs=>first|omega|(simp;done)|(simp;omega)))))
 have HOF:=zH (fun fv=>of_out _ p n 1 0 hn fv (M.below hb))
 have HB:=zH hb
 clear M hb hn
 go_enter Tryz.func12,Tryz.ntmps12
 go_wp2_with (go_at_call 22;((with_reducible refine(HOF.out _).mono ?_);rintro e1' w2 ⟨rfl,hg2,hM2⟩))
 go_ret
 exact⟨rfl,World.grownBy.trans (grownBy_below HB.out (some p.bm)) hg2,hM2⟩
set_option maxRecDepth 100000 in
set_option maxHeartbeats 4000000 in
theorem Tall_out (p:MP) (w:World) (M:MG p w) (n z:Int) (hz:I64 z) (hn:n<0∨(p.ns.length:Int)≤n) :
  Calls Tryz.prog 10 #[.pointer (some ⟨p.pm,0,none⟩),.int .i64 n,.int .i64 z] w (GPost 0 p w):=by
 have HS:=zH fun W=>side_any z hz W
 generalize min (max z 0) 4096=z1 at HS
 have hb:Below w.heap.size w (((w.alloc (.cells #[.pointer (some ⟨p.pm,0,none⟩)] 27)).alloc (.cells #[.int .i64 n] 3)).alloc (.cells #[.int .i64 z1] 3)):=by(repeat (first|exact Below.refl _ _|assumption|refine below_drewN ?_ _|refine Below.drew ?_|(refine Below.alloc ?_ ?bs _;(case bs=>first|omega|(simp;done)|(simp;omega)))|(refine Below.setCell ?_ ?bs _;(case bs=>first|omega|(simp;done)|(simp;omega)))))
 have HOF:=zH (fun fv=>of_out _ p n 2 z1 hn fv (M.below hb))
 have HB:=zH hb
 clear M hb hn hz
 go_enter Tryz.func10,Tryz.ntmps10
 go_wp2_with (first|(go_at_call 21;((with_reducible refine(HS.out _).mono ?_);rintro e1' w3 ⟨rfl,rfl⟩))|(go_at_call 22;((with_reducible refine(HOF.out _).mono ?_);rintro e1' w2 ⟨rfl,hg2,hM2⟩)))
 go_ret
 exact⟨rfl,World.grownBy.trans (grownBy_below HB.out (some p.bm)) hg2,hM2⟩
end Go.Proofs.YtlenbcmgjancmaaGreatDoor
namespace Go.Proofs.YtlenbcmgjancmaaGreatDoor
open Go.RowKit Go.Maps
theorem post_bel {p:MP} {W:World} (h:MG p W) {v:Int} {e:Ending} {w':World} (hb:VBel (.int .i64 v) W e w'):GPost v p W e w':=⟨hb.1,grownBy_below hb.2 _,h.below hb.2⟩
theorem post_ret {p:MP} {W:World} (h:MG p W) {v:Int} {e:Ending} {w':World} (hb:VRet (.int .i64 v) W e w'):GPost v p W e w':=post_bel h ⟨hb.1,by rw [hb.2];exact Below.refl _ _⟩
theorem intoS_low {it:Itm} (h:it.ok) (v:Int):0≤intoS v it:=by
 unfold Itm.ok RightP at h
 unfold intoS
 split<;>omega
theorem wordsF_le:∀ (l:List UInt8) (was:Bool) (n:Nat),wordsF l was n≤n+l.length
 | [],_,n=>by simp [wordsF]
 |b :: l,was,n=>by
  simp only [wordsF,List.length_cons]
  refine Nat.le_trans (wordsF_le l _ _) ?_
  split<;>omega
section
variable {T:TabF} {p:MP} (L:Law T p)
include L
set_option maxRecDepth 100000 in
theorem Law.least {n:Nat} {x:ND} (hn:p.ns[n]?=some x) (K:∀ k ∈ x.kids,Kc p k) (W:World) (hW:MG p W):Calls Tryz.prog 11 #[.pointer (some ⟨p.pm,0,none⟩),.int .i64 n] W (GPost (p.f n 0 0) p W):=by
 have ok:=L.tree.node n x hn
 have hns:=L.tree.len.2
 have hkl:x.kids.length≤4096:=Nat.le_trans ok.kl hns
 have hgp:0≤x.gap∧x.gap≤4096:=by have:=ok.fields;unfold FieldsP at this;omega
 have hcl:x.cols.length≤64:=by have:=ok.items.2.2.2;unfold ColsP at this;omega
 have hE:p.f n 0 0=sideS (leastW T p.ns p.f x+fxS x):=by rw [L.eq hn];unfold workS;rw [if_pos rfl,ndF_eq hn]
 have hlr:∀ v ∈ x.kids.map (lwS p.ns p.f),0≤v∧v≤4096:=fun v hv=>by obtain⟨k,hk,rfl⟩:=List.mem_map.1 hv;exact L.lwr hn hk
 have HLW:∀ k ∈ x.kids,∀ V,MG p V→Calls Tryz.prog 40 #[.pointer (some ⟨p.pm,0,none⟩),.int .i64 k] V (GPost (lwS p.ns p.f k) p V):=fun k hk V hV=>L.lw hn hk (K k hk) V hV
 obtain⟨q,hq⟩:∃ q:Nat,x.kd=q:=⟨x.kd.toNat,by have:=ok.k1;omega⟩
 have h1:=ok.k1
 have h2:=ok.k11
 have hq12:q<12:=by omega
 have fin:∀ (F:Nat) (cap:Array Value),(∀ args w,(callFunc F args).run Tryz.prog w=.ok (.enter F args) w)→W.cell? ⟨p.bk,q*3,none⟩=some (.func (.func F) #[] cap)→∀ v0,leastW T p.ns p.f x=v0→Tame v0→
   (∀ V,MS p W V→Calls Tryz.prog F (#[.pointer (some ⟨p.pm,0,none⟩),.pointer (some ⟨p.g,n*34,none⟩),.int .i64 n] ++ cap) V (GPost v0 p V))→Calls Tryz.prog 11 #[.pointer (some ⟨p.pm,0,none⟩),.int .i64 n] W (GPost (p.f n 0 0) p W) :=
  fun F cap hf hfn v0 hv ht HF=>Least_gen p W hW n x hn hns ok.fields q hq hq12 F cap hf hfn v0 ht (by rw [hE,hv];rfl) HF
 have hq':q=1∨q=2∨q=3∨q=4∨q=5∨q=6∨q=7∨q=8∨q=9∨q=10∨q=11:=by omega
 rcases hq' with rfl|rfl|rfl|rfl|rfl|rfl|rfl|rfl|rfl|rfl|rfl
 ·refine fin 48 #[] (fun _ _=>by kernel_rfl) hW.kd.k3 (leastS x.md (flowS x.tx.data.toList)) (by unfold leastW;repeat (first|rw [if_pos (by omega)]|rw [if_neg (by omega)])) (by have:=leastS_leG x.md x.tx ok.tx;unfold Tame;omega) fun V hV=>?_
  obtain⟨kv,cv,hnd,_,_⟩:=hV.mg.node hn
  exact(text_leastG V p.g (n*34) x.md x.tx hnd.tx hnd.md _ n (by have:=ok.tx;omega)).mono fun _ _=>post_bel hV.mg
 ·exact fin 51 #[] (fun _ _=>by kernel_rfl) hW.kd.k6 (sumS (x.kids.map (lwS p.ns p.f)) x.gap) (by unfold leastW;repeat (first|rw [if_pos (by omega)]|rw [if_neg (by omega)])) (sumS_tame hgp (by rw [List.length_map];exact hkl) fun v hv=>by have:=hlr v hv;omega) fun V hV=>
   row_least p V hV.mg n x hn hkl hgp n (lwS p.ns p.f) (fun k hk=>L.lwr hn hk) (fun k hk V2 hV2=>HLW k hk V2 hV2.mg)
 ·obtain⟨b,e1,e2⟩:=hW.kd.k9
  exact fin 36 #[.pointer (some ⟨b,0,none⟩)] (fun _ _=>by kernel_rfl) e1 (greatS (x.kids.map (lwS p.ns p.f)) 0) (by unfold leastW;repeat (first|rw [if_pos (by omega)]|rw [if_neg (by omega)])) (by have:=greatS_range _ 0 (by omega) hlr;unfold Tame;omega) fun V hV=>
   widest_gen p V hV.mg n x hn hkl n b 40 (hV.cell e2) (lwS p.ns p.f) (fun _ _=>by kernel_rfl) (fun k hk V2 hV2=>HLW k hk V2 hV2.mg)
 ·exact fin 55 #[] (fun _ _=>by kernel_rfl) hW.kd.k12 (sumS (tracksM p.ns x (x.cols.map autoI) (lwS p.ns p.f) 4096) x.gap) (by unfold leastW;repeat (first|rw [if_pos (by omega)]|rw [if_neg (by omega)])) (by have:=tracksG_near (items:=x.cols.map autoI) (by rw [List.length_map];omega) (List.zipWith (fun (s:Spn) k=>(⟨s.c,s.cs,lwS p.ns p.f k⟩:Ned)) (placesM p.ns x) x.kids) 4096 x.gap;exact sumS_tame hgp this.1 this.2) fun V hV=>
   grid_least p V hV.mg n x hn hkl (L.kidsIn hn) hcl hgp n (lwS p.ns p.f) (fun k hk V2 hV2=>HLW k hk V2 hV2.mg)
 ·obtain⟨b,e1,e2⟩:=hW.kd.k15
  exact fin 36 #[.pointer (some ⟨b,0,none⟩)] (fun _ _=>by kernel_rfl) e1 (greatS (x.kids.map (lwS p.ns p.f)) 0) (by unfold leastW;repeat (first|rw [if_pos (by omega)]|rw [if_neg (by omega)])) (by have:=greatS_range _ 0 (by omega) hlr;unfold Tame;omega) fun V hV=>
   widest_gen p V hV.mg n x hn hkl n b 40 (hV.cell e2) (lwS p.ns p.f) (fun _ _=>by kernel_rfl) (fun k hk V2 hV2=>HLW k hk V2 hV2.mg)
 ·exact fin 61 #[] (fun _ _=>by kernel_rfl) hW.kd.k18 (1+barS x) (by unfold leastW;repeat (first|rw [if_pos (by omega)]|rw [if_neg (by omega)])) (by have:=barS_range x;unfold Tame;omega) fun V hV=>scroll_least p V hV.mg n x hn n
 ·obtain⟨b,e1,e2⟩:=hW.kd.k21
  exact fin 100 #[.pointer (some ⟨b,0,none⟩)] (fun _ _=>by kernel_rfl) e1 1 (by unfold leastW;repeat (first|rw [if_pos (by omega)]|rw [if_neg (by omega)])) (by unfold Tame;omega) fun V hV=>(always_one V b 1 (hV.cell e2) _ _ n).mono fun _ _=>post_ret hV.mg
 ·have:=L.tab.ls n x hn hq
  exact fin 67 #[] (fun _ _=>by kernel_rfl) hW.kd.k24 (T.ls x) (by unfold leastW;repeat (first|rw [if_pos (by omega)]|rw [if_neg (by omega)])) this.1 fun V hV=>this.2 V hV.mg
 ·obtain⟨b,e1,e2⟩:=hW.kd.k27
  exact fin 100 #[.pointer (some ⟨b,0,none⟩)] (fun _ _=>by kernel_rfl) e1 1 (by unfold leastW;repeat (first|rw [if_pos (by omega)]|rw [if_neg (by omega)])) (by unfold Tame;omega) fun V hV=>(always_one V b 1 (hV.cell e2) _ _ n).mono fun _ _=>post_ret hV.mg
 ·obtain⟨b,e1,e2⟩:=hW.kd.k30
  exact fin 100 #[.pointer (some ⟨b,0,none⟩)] (fun _ _=>by kernel_rfl) e1 1 (by unfold leastW;repeat (first|rw [if_pos (by omega)]|rw [if_neg (by omega)])) (by unfold Tame;omega) fun V hV=>(always_one V b 1 (hV.cell e2) _ _ n).mono fun _ _=>post_ret hV.mg
 ·obtain⟨b,e1,e2⟩:=hW.kd.k33
  exact fin 100 #[.pointer (some ⟨b,0,none⟩)] (fun _ _=>by kernel_rfl) e1 1 (by unfold leastW;repeat (first|rw [if_pos (by omega)]|rw [if_neg (by omega)])) (by unfold Tame;omega) fun V hV=>(always_one V b 1 (hV.cell e2) _ _ n).mono fun _ _=>post_ret hV.mg
set_option maxRecDepth 100000 in
theorem Law.most {n:Nat} {x:ND} (hn:p.ns[n]?=some x) (K:∀ k ∈ x.kids,Kc p k) (W:World) (hW:MG p W):Calls Tryz.prog 12 #[.pointer (some ⟨p.pm,0,none⟩),.int .i64 n] W (GPost (p.f n 1 0) p W):=by
 have ok:=L.tree.node n x hn
 have hns:=L.tree.len.2
 have hkl:x.kids.length≤4096:=Nat.le_trans ok.kl hns
 have hgp:0≤x.gap∧x.gap≤4096:=by have:=ok.fields;unfold FieldsP at this;omega
 have hcl:x.cols.length≤64:=by have:=ok.items.2.2.2;unfold ColsP at this;omega
 have hE:p.f n 1 0=sideS (mostW T p.ns p.f x+fxS x):=by rw [L.eq hn];unfold workS;rw [if_neg (by omega),if_pos rfl,ndF_eq hn]
 have hlr:∀ v ∈ x.kids.map (mwS p.ns p.f),0≤v∧v≤4096:=fun v hv=>by obtain⟨k,hk,rfl⟩:=List.mem_map.1 hv;exact L.mwr hn hk
 have HMW:∀ k ∈ x.kids,∀ V,MG p V→Calls Tryz.prog 41 #[.pointer (some ⟨p.pm,0,none⟩),.int .i64 k] V (GPost (mwS p.ns p.f k) p V):=fun k hk V hV=>L.mw hn hk (K k hk) V hV
 obtain⟨q,hq⟩:∃ q:Nat,x.kd=q:=⟨x.kd.toNat,by have:=ok.k1;omega⟩
 have h1:=ok.k1
 have h2:=ok.k11
 have hq12:q<12:=by omega
 have fin:∀ (F:Nat) (cap:Array Value),(∀ args w,(callFunc F args).run Tryz.prog w=.ok (.enter F args) w)→W.cell? ⟨p.bk,q*3+1,none⟩=some (.func (.func F) #[] cap)→∀ v0,mostW T p.ns p.f x=v0→Tame v0→
   (∀ V,MS p W V→Calls Tryz.prog F (#[.pointer (some ⟨p.pm,0,none⟩),.pointer (some ⟨p.g,n*34,none⟩),.int .i64 n] ++ cap) V (GPost v0 p V))→Calls Tryz.prog 12 #[.pointer (some ⟨p.pm,0,none⟩),.int .i64 n] W (GPost (p.f n 1 0) p W) :=
  fun F cap hf hfn v0 hv ht HF=>Most_gen p W hW n x hn hns ok.fields q hq hq12 F cap hf hfn v0 ht (by rw [hE,hv];rfl) HF
 have hq':q=1∨q=2∨q=3∨q=4∨q=5∨q=6∨q=7∨q=8∨q=9∨q=10∨q=11:=by omega
 rcases hq' with rfl|rfl|rfl|rfl|rfl|rfl|rfl|rfl|rfl|rfl|rfl
 ·refine fin 49 #[] (fun _ _=>by kernel_rfl) hW.kd.k4 (leastS 2 (flowS x.tx.data.toList)) (by unfold mostW;repeat (first|rw [if_pos (by omega)]|rw [if_neg (by omega)])) (by have:=leastS_leG 2 x.tx ok.tx;unfold Tame;omega) fun V hV=>?_
  obtain⟨kv,cv,hnd,_,_⟩:=hV.mg.node hn
  exact(text_mostG V p.g (n*34) x.tx hnd.tx _ n (by have:=ok.tx;omega)).mono fun _ _=>post_bel hV.mg
 ·exact fin 52 #[] (fun _ _=>by kernel_rfl) hW.kd.k7 (sumS (x.kids.map (mwS p.ns p.f)) x.gap) (by unfold mostW;repeat (first|rw [if_pos (by omega)]|rw [if_neg (by omega)])) (sumS_tame hgp (by rw [List.length_map];exact hkl) fun v hv=>by have:=hlr v hv;omega) fun V hV=>
   row_most p V hV.mg n x hn hkl hgp n (mwS p.ns p.f) (fun k hk=>L.mwr hn hk) (fun k hk V2 hV2=>HMW k hk V2 hV2.mg)
 ·obtain⟨b,e1,e2⟩:=hW.kd.k10
  exact fin 36 #[.pointer (some ⟨b,0,none⟩)] (fun _ _=>by kernel_rfl) e1 (greatS (x.kids.map (mwS p.ns p.f)) 0) (by unfold mostW;repeat (first|rw [if_pos (by omega)]|rw [if_neg (by omega)])) (by have:=greatS_range _ 0 (by omega) hlr;unfold Tame;omega) fun V hV=>
   widest_gen p V hV.mg n x hn hkl n b 41 (hV.cell e2) (mwS p.ns p.f) (fun _ _=>by kernel_rfl) (fun k hk V2 hV2=>HMW k hk V2 hV2.mg)
 ·exact fin 58 #[] (fun _ _=>by kernel_rfl) hW.kd.k13 (sumS (tracksM p.ns x (x.cols.map autoI) (mwS p.ns p.f) 4096) x.gap) (by unfold mostW;repeat (first|rw [if_pos (by omega)]|rw [if_neg (by omega)])) (by have:=tracksG_near (items:=x.cols.map autoI) (by rw [List.length_map];omega) (List.zipWith (fun (s:Spn) k=>(⟨s.c,s.cs,mwS p.ns p.f k⟩:Ned)) (placesM p.ns x) x.kids) 4096 x.gap;exact sumS_tame hgp this.1 this.2) fun V hV=>
   grid_most p V hV.mg n x hn hkl (L.kidsIn hn) hcl hgp n (mwS p.ns p.f) (fun k hk V2 hV2=>HMW k hk V2 hV2.mg)
 ·obtain⟨b,e1,e2⟩:=hW.kd.k16
  exact fin 36 #[.pointer (some ⟨b,0,none⟩)] (fun _ _=>by kernel_rfl) e1 (greatS (x.kids.map (mwS p.ns p.f)) 0) (by unfold mostW;repeat (first|rw [if_pos (by omega)]|rw [if_neg (by omega)])) (by have:=greatS_range _ 0 (by omega) hlr;unfold Tame;omega) fun V hV=>
   widest_gen p V hV.mg n x hn hkl n b 41 (hV.cell e2) (mwS p.ns p.f) (fun _ _=>by kernel_rfl) (fun k hk V2 hV2=>HMW k hk V2 hV2.mg)
 ·obtain⟨k,hk⟩:∃ k,x.kids=[k]:=List.length_eq_one_iff.1 (by have:=ok.kb;unfold KBad at this;omega)
  exact fin 63 #[] (fun _ _=>by kernel_rfl) hW.kd.k19 (p.f k 1 0+barS x) (by unfold mostW kid0;rw [hk];repeat (first|rw [if_pos (by omega)]|rw [if_neg (by omega)])) (by have:=barS_range x;have:=L.range k 1 0;unfold Tame;omega) fun V hV=>scroll_most p V hV.mg n x hn n k (p.f k 1 0) (by rw [hk];rfl) (L.range _ _ _) ((K k (by rw [hk];simp)).mo V hV.mg)
 ·obtain⟨b,e1,e2⟩:=hW.kd.k22
  exact fin 100 #[.pointer (some ⟨b,0,none⟩)] (fun _ _=>by kernel_rfl) e1 10 (by unfold mostW;repeat (first|rw [if_pos (by omega)]|rw [if_neg (by omega)])) (by unfold Tame;omega) fun V hV=>(always_one V b 10 (hV.cell e2) _ _ n).mono fun _ _=>post_ret hV.mg
 ·have:=L.tab.ms n x hn hq
  exact fin 69 #[] (fun _ _=>by kernel_rfl) hW.kd.k25 (T.ms x) (by unfold mostW;repeat (first|rw [if_pos (by omega)]|rw [if_neg (by omega)])) this.1 fun V hV=>this.2 V hV.mg
 ·obtain⟨b,e1,e2⟩:=hW.kd.k28
  exact fin 100 #[.pointer (some ⟨b,0,none⟩)] (fun _ _=>by kernel_rfl) e1 10 (by unfold mostW;repeat (first|rw [if_pos (by omega)]|rw [if_neg (by omega)])) (by unfold Tame;omega) fun V hV=>(always_one V b 10 (hV.cell e2) _ _ n).mono fun _ _=>post_ret hV.mg
 ·have hwd:=wordsF_le x.tx.data.toList false 0
  have hts:=ok.tx
  have hbl:x.tx.data.toList.length=x.tx.size:=by simp
  refine fin 74 #[] (fun _ _=>by kernel_rfl) hW.kd.k31 (max 1 (wordsF x.tx.data.toList false 0:Nat)) (by unfold mostW;repeat (first|rw [if_pos (by omega)]|rw [if_neg (by omega)])) (by unfold Tame;omega) fun V hV=>?_
  obtain⟨kv,cv,hnd,_,_⟩:=hV.mg.node hn
  exact(chart_most V p.g (n*34) x.tx hnd.tx _ n (by omega)).mono fun _ _=>post_ret hV.mg
 ·obtain⟨b,e1,e2⟩:=hW.kd.k34
  exact fin 100 #[.pointer (some ⟨b,0,none⟩)] (fun _ _=>by kernel_rfl) e1 1 (by unfold mostW;repeat (first|rw [if_pos (by omega)]|rw [if_neg (by omega)])) (by unfold Tame;omega) fun V hV=>(always_one V b 1 (hV.cell e2) _ _ n).mono fun _ _=>post_ret hV.mg
end
end Go.Proofs.YtlenbcmgjancmaaGreatDoor
namespace Go.Proofs.YtlenbcmgjancmaaGreatDoor
open Go.RowKit Go.Maps
theorem tallS_leG (md:Int) (iw:Nat) (t:ByteArray) (hs:t.size≤65536):tallS md iw t≤1000000:=by
 unfold tallS
 split
 ·omega
 ·have h2:=flowS_len t.data.toList
  rw [blen] at h2
  by_cases h0:flowS t.data.toList=[]
  ·rw [h0];simp [rowsS,linesN]
  ·rw [rowsS_eq _ h0]
   have h1:=rowsN_sum (flowS t.data.toList)
   have h3:=linesN_le md iw (rowsN (flowS t.data.toList))
   omega
section
variable {T:TabF} {p:MP} (L:Law T p)
include L
theorem Law.acr {n:Nat} {x:ND} (hn:p.ns[n]?=some x) {k:Int} (hk:k ∈ x.kids) (how iw:Int) (hw:0≤iw∧iw≤4096):0≤acrossM p.ns p.f how iw k∧acrossM p.ns p.f how iw k≤4096:=by
 obtain⟨j,y,rfl,hy,_,ok⟩:=L.kid hn hk
 unfold acrossM
 rw [ndF_eq hy]
 have:=intoS_low ok.items.1 (acrossW p.ns p.f how iw j)
 omega
set_option maxRecDepth 100000 in
theorem Law.tall {n:Nat} {x:ND} (hn:p.ns[n]?=some x) (K:∀ k ∈ x.kids,Kc p k) (z:Int) (hz:I64 z) (W:World) (hW:MG p W):Calls Tryz.prog 10 #[.pointer (some ⟨p.pm,0,none⟩),.int .i64 n,.int .i64 z] W (GPost (p.f n 2 (sideS z)) p W):=by
 have ok:=L.tree.node n x hn
 have hns:=L.tree.len.2
 have hkl:x.kids.length≤4096:=Nat.le_trans ok.kl hns
 have hgp:0≤x.gap∧x.gap≤4096:=by have:=ok.fields;unfold FieldsP at this;omega
 have hmd:x.md=0∨x.md=1∨x.md=2:=by have:=ok.fields;unfold FieldsP at this;omega
 have hcl:x.cols.length≤64:=by have:=ok.items.2.2.2;unfold ColsP at this;omega
 have hfx:=fxS_range ok.fields
 have hsz:=sideS_range z
 obtain⟨iw,hiw⟩:∃ iw:Nat,max 0 (sideS z - fxS x)=iw:=⟨(max 0 (sideS z - fxS x)).toNat,by omega⟩
 have hw4:(0:Int)≤(iw:Int)∧(iw:Int)≤4096:=by omega
 have hE:p.f n 2 (sideS z)=sideS (tallW T p.ns p.f x iw+fyS x):=by rw [L.eq hn];unfold workS;rw [if_neg (by omega),if_neg (by omega),ndF_eq hn,hiw]
 have HLW:∀ k ∈ x.kids,∀ V,MG p V→Calls Tryz.prog 40 #[.pointer (some ⟨p.pm,0,none⟩),.int .i64 k] V (GPost (lwS p.ns p.f k) p V):=fun k hk V hV=>L.lw hn hk (K k hk) V hV
 have HMW:∀ k ∈ x.kids,∀ V,MG p V→Calls Tryz.prog 41 #[.pointer (some ⟨p.pm,0,none⟩),.int .i64 k] V (GPost (mwS p.ns p.f k) p V):=fun k hk V hV=>L.mw hn hk (K k hk) V hV
 have HHI:∀ k ∈ x.kids,∀ y:Int,I64 y→∀ V,MG p V→Calls Tryz.prog 46 #[.pointer (some ⟨p.pm,0,none⟩),.int .i64 k,.int .i64 y] V (GPost (highS p.ns p.f k y) p V):=fun k hk y hy V hV=>L.high hn hk (K k hk) y hy V hV
 obtain⟨q,hq⟩:∃ q:Nat,x.kd=q:=⟨x.kd.toNat,by have:=ok.k1;omega⟩
 have h1:=ok.k1
 have h2:=ok.k11
 have hq12:q<12:=by omega
 have fin:∀ (F:Nat) (cap:Array Value),(∀ args w,(callFunc F args).run Tryz.prog w=.ok (.enter F args) w)→W.cell? ⟨p.bk,q*3+2,none⟩=some (.func (.func F) #[] cap)→∀ v0,tallW T p.ns p.f x iw=v0→Tame v0→
   (∀ V,MS p W V→Calls Tryz.prog F (#[.pointer (some ⟨p.pm,0,none⟩),.pointer (some ⟨p.g,n*34,none⟩),.int .i64 n,.int .i64 iw] ++ cap) V (GPost v0 p V))→Calls Tryz.prog 10 #[.pointer (some ⟨p.pm,0,none⟩),.int .i64 n,.int .i64 z] W (GPost (p.f n 2 (sideS z)) p W) :=
  fun F cap hf hfn v0 hv ht HF=>Tall_gen p W hW n x hn hns ok.fields q hq hq12 z (sideS z) hz rfl F cap hf hfn v0 ht (by rw [hE,hv];rfl) (by rw [hiw];exact HF)
 have hq':q=1∨q=2∨q=3∨q=4∨q=5∨q=6∨q=7∨q=8∨q=9∨q=10∨q=11:=by omega
 rcases hq' with rfl|rfl|rfl|rfl|rfl|rfl|rfl|rfl|rfl|rfl|rfl
 ·refine fin 50 #[] (fun _ _=>by kernel_rfl) hW.kd.k5 (tallS x.md (iw:Int).toNat x.tx) (by unfold tallW;repeat (first|rw [if_pos (by omega)]|rw [if_neg (by omega)])) (by have:=tallS_leG x.md (iw:Int).toNat x.tx ok.tx;unfold Tame;omega) fun V hV=>?_
  obtain⟨kv,cv,hnd,_,_⟩:=hV.mg.node hn
  exact(text_tallG V p.g (n*34) x.md x.tx hnd.tx hnd.md _ n iw hmd (by omega) (by have:=ok.tx;omega)).mono fun _ _=>post_bel hV.mg
 ·refine fin 53 #[] (fun _ _=>by kernel_rfl) hW.kd.k8 (tallRow (highS p.ns p.f) (alongS p.ns p.f x iw) x.kids 0) (by unfold tallW;repeat (first|rw [if_pos (by omega)]|rw [if_neg (by omega)])) (by have:=tallRow_range (hi:=highS p.ns p.f) (alongS p.ns p.f x iw) x.kids 0 (by omega) (fun k hk z=>L.hir hn hk z);unfold Tame;omega) fun V hV=>?_
  have h:=row_tall p V hV.mg n x hn hkl (L.kidsIn hn) n iw (mwS p.ns p.f) (lwS p.ns p.f) (highS p.ns p.f) (fun k hk V2 hV2=>HMW k hk V2 hV2.mg) (fun k hk V2 hV2=>HLW k hk V2 hV2.mg) (fun k hk y hy V2 hV2=>HHI k hk y ⟨by omega,by omega⟩ V2 hV2.mg)
  have e:alongS p.ns p.f x iw=sizesS (x.kids.map fun k=>alongJ (ndF p.ns k).wd (mwS p.ns p.f k) (lwS p.ns p.f k)) iw x.gap:=by
   unfold alongS
   rw [show (x.kids.map (alongI p.ns p.f))=x.kids.map fun k=>alongJ (ndF p.ns k).wd (mwS p.ns p.f k) (lwS p.ns p.f k) from List.map_congr_left fun k _=>alongI_eq p.ns p.f k]
  rw [e]
  exact h
 ·exact fin 42 #[] (fun _ _=>by kernel_rfl) hW.kd.k11 (sumS (x.kids.map fun k=>highS p.ns p.f k (acrossM p.ns p.f x.cr iw k)) x.gap) (by unfold tallW;repeat (first|rw [if_pos (by omega)]|rw [if_neg (by omega)])) (sumS_tame hgp (by rw [List.length_map];exact hkl) fun v hv=>by obtain⟨k,hk,rfl⟩:=List.mem_map.1 hv;have:=L.hir hn hk (acrossM p.ns p.f x.cr iw k);omega) fun V hV=>
   col_tall p V hV.mg n x hn hkl hgp n iw (by rw [hq];rfl) (acrossM p.ns p.f x.cr iw) (fun k=>highS p.ns p.f k (acrossM p.ns p.f x.cr iw k)) (fun k hk=>L.hir hn hk _) (fun k hk V2 hV2=>L.across hn hk (K k hk) x.cr iw hw4 V2 hV2.mg) (fun k hk V2 hV2=>HHI k hk _ (by have:=L.acr hn hk x.cr iw hw4;exact⟨by omega,by omega⟩) V2 hV2.mg)
 ·refine fin 59 #[] (fun _ _=>by kernel_rfl) hW.kd.k14 (sumS (rowsM p.ns p.f x iw) x.gap) (by unfold tallW;repeat (first|rw [if_pos (by omega)]|rw [if_neg (by omega)])) ?_ fun V hV=>?_
  ·have hmr:=manyS_range (placesM p.ns x) 0 (by omega)
   have:=tracksG_near (items:=List.replicate (manyS (placesM p.ns x) 0).toNat itm0) (by rw [List.length_replicate];omega) (List.zipWith (fun (s:Spn) (q:Int × Rct)=>(⟨s.r,s.rs,highS p.ns p.f q.1 q.2.w⟩:Ned)) (placesM p.ns x) (x.kids.zip (rectsG (tracksM p.ns x x.cols (mwS p.ns p.f) iw) (List.replicate (manyS (placesM p.ns x) 0).toNat 1) x.gap (placesM p.ns x)))) 4096 x.gap
   exact sumS_tame hgp this.1 this.2
  ·rw [rowsM_eq]
   exact grid_tall p V hV.mg n x hn hkl (L.kidsIn hn) hcl hgp n iw (mwS p.ns p.f) (highS p.ns p.f) (fun k hk V2 hV2=>HMW k hk V2 hV2.mg) (fun k hk y hy V2 hV2=>HHI k hk y ⟨by omega,by omega⟩ V2 hV2.mg)
 ·exact fin 42 #[] (fun _ _=>by kernel_rfl) hW.kd.k17 (greatS (x.kids.map fun k=>highS p.ns p.f k (acrossM p.ns p.f x.al iw k)) 0) (by unfold tallW;repeat (first|rw [if_pos (by omega)]|rw [if_neg (by omega)])) (by have:=greatS_range (x.kids.map fun k=>highS p.ns p.f k (acrossM p.ns p.f x.al iw k)) 0 (by omega) (fun v hv=>by obtain⟨k,hk,rfl⟩:=List.mem_map.1 hv;exact L.hir hn hk _);unfold Tame;omega) fun V hV=>
   stack_tall p V hV.mg n x hn hkl hgp n iw (by rw [hq];rfl) (acrossM p.ns p.f x.al iw) (fun k=>highS p.ns p.f k (acrossM p.ns p.f x.al iw k)) (fun k hk=>L.hir hn hk _) (fun k hk V2 hV2=>L.across hn hk (K k hk) x.al iw hw4 V2 hV2.mg) (fun k hk V2 hV2=>HHI k hk _ (by have:=L.acr hn hk x.al iw hw4;exact⟨by omega,by omega⟩) V2 hV2.mg)
 ·obtain⟨k,hk⟩:∃ k,x.kids=[k]:=List.length_eq_one_iff.1 (by have:=ok.kb;unfold KBad at this;omega)
  have hkm:k ∈ x.kids:=by rw [hk];simp
  have hb:=barS_range x
  have hlr:=L.range k 0 0
  have htr:=L.range k 2 (sideS (max (max (p.f k 0 0) ((iw:Int) - barS x)) 0))
  exact fin 64 #[] (fun _ _=>by kernel_rfl) hW.kd.k20 (p.f k 2 (sideS (max (max (p.f k 0 0) ((iw:Int) - barS x)) 0))) (by unfold tallW kid0;rw [hk];repeat (first|rw [if_pos (by omega)]|rw [if_neg (by omega)])) (by unfold Tame;omega) fun V hV=>
   scroll_tall p V hV.mg n x hn n iw hw4 k (p.f k 0 0) _ (by rw [hk];rfl) hlr (fun V2 hV2=>(K k hkm).le V2 hV2.mg) (fun V2 hV2=>(K k hkm).ta _ ⟨by omega,by omega⟩ V2 hV2.mg)
 ·obtain⟨b,e1,e2⟩:=hW.kd.k23
  exact fin 101 #[.pointer (some ⟨b,0,none⟩)] (fun _ _=>by kernel_rfl) e1 1 (by unfold tallW;repeat (first|rw [if_pos (by omega)]|rw [if_neg (by omega)])) (by unfold Tame;omega) fun V hV=>(high_one V b 1 (hV.cell e2) _ _ n _).mono fun _ _=>post_ret hV.mg
 ·have:=L.tab.hs n x hn hq iw hw4
  exact fin 72 #[] (fun _ _=>by kernel_rfl) hW.kd.k26 (T.hs x iw) (by unfold tallW;repeat (first|rw [if_pos (by omega)]|rw [if_neg (by omega)])) this.1 fun V hV=>this.2 V hV.mg
 ·obtain⟨b,e1,e2⟩:=hW.kd.k29
  exact fin 101 #[.pointer (some ⟨b,0,none⟩)] (fun _ _=>by kernel_rfl) e1 1 (by unfold tallW;repeat (first|rw [if_pos (by omega)]|rw [if_neg (by omega)])) (by unfold Tame;omega) fun V hV=>(high_one V b 1 (hV.cell e2) _ _ n _).mono fun _ _=>post_ret hV.mg
 ·obtain⟨b,e1,e2⟩:=hW.kd.k32
  exact fin 101 #[.pointer (some ⟨b,0,none⟩)] (fun _ _=>by kernel_rfl) e1 4 (by unfold tallW;repeat (first|rw [if_pos (by omega)]|rw [if_neg (by omega)])) (by unfold Tame;omega) fun V hV=>(high_one V b 4 (hV.cell e2) _ _ n _).mono fun _ _=>post_ret hV.mg
 ·obtain⟨b,e1,e2⟩:=hW.kd.k35
  exact fin 101 #[.pointer (some ⟨b,0,none⟩)] (fun _ _=>by kernel_rfl) e1 1 (by unfold tallW;repeat (first|rw [if_pos (by omega)]|rw [if_neg (by omega)])) (by unfold Tame;omega) fun V hV=>(high_one V b 1 (hV.cell e2) _ _ n _).mono fun _ _=>post_ret hV.mg
theorem Law.node:∀ (m i:Nat),i<p.ns.length→p.ns.length - i≤m→Kc p i
 | 0,i,h,hm=>by omega
 |m+1,i,h,hm=>by
  have hn:p.ns[i]?=some p.ns[i]:=List.getElem?_eq_getElem h
  have K:∀ k ∈ (p.ns[i]).kids,Kc p k:=fun k hk=>by
   obtain⟨j,y,rfl,hy,hij,_⟩:=L.kid hn hk
   have hj:=(List.getElem?_eq_some_iff.1 hy).1
   exact Law.node m j hj (by omega)
  exact⟨L.least hn K,L.most hn K,L.tall hn K⟩
theorem Law.all (i:Nat) (h:i<p.ns.length):Kc p i:=L.node _ i h (Nat.le_refl _)
end
end Go.Proofs.YtlenbcmgjancmaaGreatDoor
namespace Go.Proofs.YtlenbcmgjancmaaGreatDoor
open Go.RowKit Go.Maps
def SlX (w:World) (v:Value) (l:List ByteArray):Prop :=
 ∃ p c,v=.slice p l.length c∧l.length≤4398046511104∧∀ (i:Nat) x,l[i]?=some x→∃ g o,p=some ⟨g,o,none⟩∧g<w.heap.size∧w.cell? ⟨g,o+i,none⟩=some (.string x)
theorem SlX.below {w w':World} {v:Value} {l:List ByteArray} (h:SlX w v l) (hb:Below w.heap.size w w'):SlX w' v l:=by
 obtain⟨p,c,rfl,hl,hx⟩:=h
 refine⟨p,c,rfl,hl,fun i x hi=>?_⟩
 obtain⟨g,o,e,hg,hc⟩:=hx i x hi
 exact⟨g,o,e,Nat.lt_of_lt_of_le hg hb.size,(hb.cell (p:=⟨g,o+i,none⟩) hg).trans hc⟩
def OutX (l:List ByteArray) (w:World) (e:Ending) (w':World):Prop:=∃ v,e=.returned v∧Below w.heap.size w w'∧SlX w' v l∧∀ a n c,v=.slice (some a) n c→w.heap.size≤a.block
def partsF (c:UInt8):Nat→ByteArray→List ByteArray
 | 0,s=>[s]
 |k+1,s=>if Lib.indexByte s.data.toList c = -1 then [s] else s.extract 0 (Lib.indexByte s.data.toList c).toNat :: partsF c k (s.extract ((Lib.indexByte s.data.toList c).toNat+1) s.size)
def partsS (c:UInt8) (s:ByteArray):List ByteArray:=partsF c (Lib.countByte s.data.toList c) s
theorem partsF_len (c:UInt8):∀ (k:Nat) (s:ByteArray),(partsF c k s).length≤k+1
 | 0,s=>by simp [partsF]
 |k+1,s=>by
  simp only [partsF]
  split
  ·simp
  ·have:=partsF_len c k (s.extract ((Lib.indexByte s.data.toList c).toNat+1) s.size)
   simp only [List.length_cons]
   omega
theorem mk_strs (N:Nat) (hN:N≤1048576) (w:World):(Instr.makeSlice 101 (.int .i64 N) (.int .i64 N)).run Tryz.prog w=.ok (.slice (some ⟨w.heap.size,0,none⟩) N N) (w.alloc (.cells (madeCells #[.string ⟨#[]⟩] N) 9)):=by
 obtain⟨i0,hi,hz0,hz1,hz2⟩:=info_parts (P:=Tryz.prog) (show (Tryz.prog.info? 9).map (fun i=>(i.zero,i.size,i.bytes))=some (some (.string ⟨#[]⟩),1,16) by kernel_rfl)
 have:=run_makeSlice (P:=Tryz.prog) (w:=w) 101 9 i0 (.string ⟨#[]⟩) Tryz.underlying101 hi hz0 .i64 .i64 N N (by omega) (Int.le_refl _) (by rw [hz1];simp [maxLen];omega) (by rw [hz2];omega) (by omega)
 rw [hz1] at this
 simpa [Value.cells] using this
theorem slx_row {W:World} {b n c:Nat} {M:List Value} {e:TypeId} {R:List ByteArray} (h:Arr W b M e) (hm:∀ (j:Nat) x,R[j]?=some x→M[j]?=some (.string x)) (hn:R.length=n) (hl:R.length≤4398046511104):SlX W (.slice (some ⟨b,0,none⟩) n c) R:=by
 subst hn
 exact⟨_,c,rfl,hl,fun i x hi=>⟨b,0,rfl,h.lt,by rw [Nat.zero_add];exact h.cell (hm i x hi)⟩⟩
theorem put_more {M:List Value} {done:List ByteArray} {a:Nat} (y:ByteArray) (hd:done.length=a) (ha:a<M.length) (h:∀ (j:Nat) x,done[j]?=some x→M[j]?=some (.string x)):∀ (j:Nat) x,(done ++ [y])[j]?=some x→(M.set a (.string y))[j]?=some (.string x):=by
 intro j x hj
 by_cases e:a=j
 ·subst e
  rw [List.getElem?_append_right (by omega),hd,Nat.sub_self] at hj
  obtain rfl:y=x:=by simpa using hj
  exact List.getElem?_set_self ha
 ·rw [List.getElem?_set_ne e]
  have hlt:j<done.length:=by
   have:=(List.getElem?_eq_some_iff.1 hj).1
   simp at this
   omega
  rw [List.getElem?_append_left hlt] at hj
  exact h j x hj
set_option maxRecDepth 100000 in
set_option maxHeartbeats 4000000 in
theorem split_10 (s:ByteArray) (hs:s.size≤65536) (w:World):Calls Tryz.prog 139 #[.string s,.string ⟨#[10]⟩,.int .i64 0,.int .i64 (-1)] w (OutX (partsS 10 s) w):=by
 obtain⟨K,hK⟩:∃ K,Lib.countByte s.data.toList 10=K:=⟨_,rfl⟩
 have hKs:K≤s.size:=by rw [← hK];unfold Lib.countByte;exact Nat.le_trans (List.count_le_length) (by simp)
 have HC:=zH (Tryz.strings_Count_one s 10 w)
 rw [hK] at HC
 have hmk:=fun w=>mk_strs (K+1) (by omega) w
 simp only [Int.natCast_add,Int.natCast_one] at hmk
 have emin:min (K:Int) (s.size:Int)=(K:Int):=by omega
 obtain⟨R,hR⟩:∃ R,partsS 10 s=R:=⟨_,rfl⟩
 have HR0:Hid (R=partsF 10 K s):=zH (by rw [← hR];unfold partsS;rw [hK])
 rw [hR]
 have hRl:R.length≤K+1:=by rw [HR0.out];exact partsF_len _ _ _
 have HA0:=zH (Arr.made w (K+1) (.string ⟨#[]⟩) 9)
 clear hR hK
 go_enter Tryz.func139,Tryz.ntmps139
 go_wp2_with (go_at_call 164;((with_reducible refine HC.out.mono ?_);rintro e1' w2 ⟨rfl,hw2⟩;obtain rfl:=hw2.symm))
 clear hmk
 go_loopw [10,0] (fun i s0 wr=>∃ (a:Nat) (rest:ByteArray) (M:List Value) (done:List ByteArray),i=.int .i64 a∧a≤K∧s0=.string rest∧rest.size≤s.size∧done.length=a∧R=done ++ partsF 10 (K - a) rest∧Arr wr w.heap.size M 9∧M.length=K+1∧(∀ (j:Nat) x,done[j]?=some x→M[j]?=some (.string x))∧Below w.heap.size w wr) (fun i _ _=>K - (intOf i).toNat)
 case atStart=>exact⟨0,s,_,[],rfl,by omega,rfl,Nat.le_refl _,rfl,by simpa using HR0.out,HA0.out,by simp,fun j x h=>by simp at h,by(repeat (first|exact Below.refl _ _|assumption|refine below_drewN ?_ _|refine Below.drew ?_|(refine Below.alloc ?_ ?bs _;(case bs=>first|omega|(simp;done)|(simp;omega)))|(refine Below.setCell ?_ ?bs _;(case bs=>first|omega|(simp;done)|(simp;omega)))))⟩
 case round=>
  obtain⟨a,rest,M,done,rfl,ha,rfl,hrs,hdl,hRd,hA,hMl,hMd,hB⟩:=hrel
  have HB:=zH hB
  have HA:=zH hA
  have HMD:=zH hMd
  have HRD:=zH hRd
  have HDL:=zH hdl
  have HML:=zH hMl
  have lA:=hA.lt
  obtain⟨u,hu⟩:∃ u,M[a]?=some u:=⟨_,List.getElem?_eq_getElem (by omega)⟩
  have c0:=HA.out.cell hu
  have f0:=HA.out.froz a
  have HI:=zH (Tryz.strings_Index_one rest 10 wr)
  clear hB hA hMd hRd hdl hMl hu HA0
  by_cases hlt:a<K
  ·have hltI:(a:Int)<(K:Int):=by omega
   rcases Int.le_iff_lt_or_eq.1 (Lib.indexByte_ge rest.data.toList 10) with hm|hm
   ·obtain⟨m,hmm⟩:∃ m:Nat,Lib.indexByte rest.data.toList 10=m:=⟨(Lib.indexByte rest.data.toList 10).toNat,by omega⟩
    have hmr:m<rest.size:=by
     have:=(List.getElem?_eq_some_iff.1 (Lib.indexByte_some hmm).1).1
     simpa using this
    have HPF:Hid (partsF 10 (K - a) rest=rest.extract 0 m :: partsF 10 (K - (a+1)) (rest.extract (m+1) rest.size)):=zH (by
     rw [show K - a=(K - (a+1))+1 by omega]
     simp only [partsF]
     rw [if_neg (by omega),hmm,Int.toNat_natCast])
    rw [hmm] at HI
    clear hm hmm
    go_wp2_with (go_at_call 165;((with_reducible refine HI.out.mono ?_);rintro e1' w2 ⟨rfl,hw2⟩;obtain rfl:=hw2.symm))
    go_roundw
    case rel=>exact⟨a+1,rest.extract (m+1) rest.size,_,done ++ [rest.extract 0 m],by first|rfl|go_num,by omega,by first|rfl|simp,by simp;omega,by rw [List.length_append,HDL.out];rfl,by rw [HRD.out,HPF.out];simp,HA.out.set a (.string (rest.extract 0 m)),by simp [HML.out],put_more _ HDL.out (by rw [HML.out];omega) HMD.out,HB.out.setCell (show w.heap.size≤(⟨w.heap.size,a,none⟩:Addr).block from Nat.le_refl _) _⟩
    case measure=>simp [intOf]<;>omega
   ·rw [← hm] at HI
    have HR1:Hid (R=done ++ [rest]):=zH (by rw [HRD.out,show K - a=(K - (a+1))+1 by omega];simp only [partsF];rw [if_pos hm.symm])
    go_wp2_with (go_at_call 165;((with_reducible refine HI.out.mono ?_);rintro e1' w2 ⟨rfl,hw2⟩;obtain rfl:=hw2.symm))
    go_ret
    have hq:=fun cc=>slx_row (n:=a+1) (c:=cc) (R:=R) (HA.out.set a (.string rest)) (by rw [HR1.out];exact put_more rest HDL.out (by rw [HML.out];omega) HMD.out) (by rw [HR1.out,List.length_append,HDL.out];rfl) (by omega)
    exact⟨_,rfl,HB.out.setCell (show w.heap.size≤(⟨w.heap.size,a,none⟩:Addr).block from Nat.le_refl _) _,hq _,fun a' n' c' e=>by cases e;exact Nat.le_refl _⟩
  ·have hltI:decide ((a:Int)<(K:Int))=false:=decide_eq_false (by omega)
   obtain rfl:a=K:=by omega
   have HR1:Hid (R=done ++ [rest]):=zH (by rw [HRD.out,Nat.sub_self];rfl)
   go_wp2
   go_ret
   have hq:=fun cc=>slx_row (n:=a+1) (c:=cc) (R:=R) (HA.out.set a (.string rest)) (by rw [HR1.out];exact put_more rest HDL.out (by rw [HML.out];omega) HMD.out) (by rw [HR1.out,List.length_append,HDL.out];rfl) (by omega)
   exact⟨_,rfl,HB.out.setCell (show w.heap.size≤(⟨w.heap.size,a,none⟩:Addr).block from Nat.le_refl _) _,hq _,fun a' n' c' e=>by cases e;exact Nat.le_refl _⟩
set_option maxRecDepth 100000 in
theorem splitS_10 (s:ByteArray) (hs:s.size≤65536) (w:World):Calls Tryz.prog 104 #[.string s,.string ⟨#[10]⟩] w (OutX (partsS 10 s) w):=by
 have HS:=zH (split_10 s hs w)
 go_enter Tryz.func104,Tryz.ntmps104
 go_wp2_with (go_at_call 139;((with_reducible refine HS.out.mono ?_);rintro e1' w2 ⟨v2,rfl,hb2,hs2,hf2⟩))
 go_ret
 exact⟨v2,rfl,hb2,hs2,hf2⟩
set_option maxRecDepth 100000 in
set_option maxHeartbeats 4000000 in
theorem split_9 (s:ByteArray) (hs:s.size≤65536) (w:World):Calls Tryz.prog 139 #[.string s,.string ⟨#[9]⟩,.int .i64 0,.int .i64 (-1)] w (OutX (partsS 9 s) w):=by
 obtain⟨K,hK⟩:∃ K,Lib.countByte s.data.toList 9=K:=⟨_,rfl⟩
 have hKs:K≤s.size:=by rw [← hK];unfold Lib.countByte;exact Nat.le_trans (List.count_le_length) (by simp)
 have HC:=zH (Tryz.strings_Count_one s 9 w)
 rw [hK] at HC
 have hmk:=fun w=>mk_strs (K+1) (by omega) w
 simp only [Int.natCast_add,Int.natCast_one] at hmk
 have emin:min (K:Int) (s.size:Int)=(K:Int):=by omega
 obtain⟨R,hR⟩:∃ R,partsS 9 s=R:=⟨_,rfl⟩
 have HR0:Hid (R=partsF 9 K s):=zH (by rw [← hR];unfold partsS;rw [hK])
 rw [hR]
 have hRl:R.length≤K+1:=by rw [HR0.out];exact partsF_len _ _ _
 have HA0:=zH (Arr.made w (K+1) (.string ⟨#[]⟩) 9)
 clear hR hK
 go_enter Tryz.func139,Tryz.ntmps139
 go_wp2_with (go_at_call 164;((with_reducible refine HC.out.mono ?_);rintro e1' w2 ⟨rfl,hw2⟩;obtain rfl:=hw2.symm))
 clear hmk
 go_loopw [10,0] (fun i s0 wr=>∃ (a:Nat) (rest:ByteArray) (M:List Value) (done:List ByteArray),i=.int .i64 a∧a≤K∧s0=.string rest∧rest.size≤s.size∧done.length=a∧R=done ++ partsF 9 (K - a) rest∧Arr wr w.heap.size M 9∧M.length=K+1∧(∀ (j:Nat) x,done[j]?=some x→M[j]?=some (.string x))∧Below w.heap.size w wr) (fun i _ _=>K - (intOf i).toNat)
 case atStart=>exact⟨0,s,_,[],rfl,by omega,rfl,Nat.le_refl _,rfl,by simpa using HR0.out,HA0.out,by simp,fun j x h=>by simp at h,by(repeat (first|exact Below.refl _ _|assumption|refine below_drewN ?_ _|refine Below.drew ?_|(refine Below.alloc ?_ ?bs _;(case bs=>first|omega|(simp;done)|(simp;omega)))|(refine Below.setCell ?_ ?bs _;(case bs=>first|omega|(simp;done)|(simp;omega)))))⟩
 case round=>
  obtain⟨a,rest,M,done,rfl,ha,rfl,hrs,hdl,hRd,hA,hMl,hMd,hB⟩:=hrel
  have HB:=zH hB
  have HA:=zH hA
  have HMD:=zH hMd
  have HRD:=zH hRd
  have HDL:=zH hdl
  have HML:=zH hMl
  have lA:=hA.lt
  obtain⟨u,hu⟩:∃ u,M[a]?=some u:=⟨_,List.getElem?_eq_getElem (by omega)⟩
  have c0:=HA.out.cell hu
  have f0:=HA.out.froz a
  have HI:=zH (Tryz.strings_Index_one rest 9 wr)
  clear hB hA hMd hRd hdl hMl hu HA0
  by_cases hlt:a<K
  ·have hltI:(a:Int)<(K:Int):=by omega
   rcases Int.le_iff_lt_or_eq.1 (Lib.indexByte_ge rest.data.toList 9) with hm|hm
   ·obtain⟨m,hmm⟩:∃ m:Nat,Lib.indexByte rest.data.toList 9=m:=⟨(Lib.indexByte rest.data.toList 9).toNat,by omega⟩
    have hmr:m<rest.size:=by
     have:=(List.getElem?_eq_some_iff.1 (Lib.indexByte_some hmm).1).1
     simpa using this
    have HPF:Hid (partsF 9 (K - a) rest=rest.extract 0 m :: partsF 9 (K - (a+1)) (rest.extract (m+1) rest.size)):=zH (by
     rw [show K - a=(K - (a+1))+1 by omega]
     simp only [partsF]
     rw [if_neg (by omega),hmm,Int.toNat_natCast])
    rw [hmm] at HI
    clear hm hmm
    go_wp2_with (go_at_call 165;((with_reducible refine HI.out.mono ?_);rintro e1' w2 ⟨rfl,hw2⟩;obtain rfl:=hw2.symm))
    go_roundw
    case rel=>exact⟨a+1,rest.extract (m+1) rest.size,_,done ++ [rest.extract 0 m],by first|rfl|go_num,by omega,by first|rfl|simp,by simp;omega,by rw [List.length_append,HDL.out];rfl,by rw [HRD.out,HPF.out];simp,HA.out.set a (.string (rest.extract 0 m)),by simp [HML.out],put_more _ HDL.out (by rw [HML.out];omega) HMD.out,HB.out.setCell (show w.heap.size≤(⟨w.heap.size,a,none⟩:Addr).block from Nat.le_refl _) _⟩
    case measure=>simp [intOf]<;>omega
   ·rw [← hm] at HI
    have HR1:Hid (R=done ++ [rest]):=zH (by rw [HRD.out,show K - a=(K - (a+1))+1 by omega];simp only [partsF];rw [if_pos hm.symm])
    go_wp2_with (go_at_call 165;((with_reducible refine HI.out.mono ?_);rintro e1' w2 ⟨rfl,hw2⟩;obtain rfl:=hw2.symm))
    go_ret
    have hq:=fun cc=>slx_row (n:=a+1) (c:=cc) (R:=R) (HA.out.set a (.string rest)) (by rw [HR1.out];exact put_more rest HDL.out (by rw [HML.out];omega) HMD.out) (by rw [HR1.out,List.length_append,HDL.out];rfl) (by omega)
    exact⟨_,rfl,HB.out.setCell (show w.heap.size≤(⟨w.heap.size,a,none⟩:Addr).block from Nat.le_refl _) _,hq _,fun a' n' c' e=>by cases e;exact Nat.le_refl _⟩
  ·have hltI:decide ((a:Int)<(K:Int))=false:=decide_eq_false (by omega)
   obtain rfl:a=K:=by omega
   have HR1:Hid (R=done ++ [rest]):=zH (by rw [HRD.out,Nat.sub_self];rfl)
   go_wp2
   go_ret
   have hq:=fun cc=>slx_row (n:=a+1) (c:=cc) (R:=R) (HA.out.set a (.string rest)) (by rw [HR1.out];exact put_more rest HDL.out (by rw [HML.out];omega) HMD.out) (by rw [HR1.out,List.length_append,HDL.out];rfl) (by omega)
   exact⟨_,rfl,HB.out.setCell (show w.heap.size≤(⟨w.heap.size,a,none⟩:Addr).block from Nat.le_refl _) _,hq _,fun a' n' c' e=>by cases e;exact Nat.le_refl _⟩
set_option maxRecDepth 100000 in
theorem splitS_9 (s:ByteArray) (hs:s.size≤65536) (w:World):Calls Tryz.prog 104 #[.string s,.string ⟨#[9]⟩] w (OutX (partsS 9 s) w):=by
 have HS:=zH (split_9 s hs w)
 go_enter Tryz.func104,Tryz.ntmps104
 go_wp2_with (go_at_call 139;((with_reducible refine HS.out.mono ?_);rintro e1' w2 ⟨v2,rfl,hb2,hs2,hf2⟩))
 go_ret
 exact⟨v2,rfl,hb2,hs2,hf2⟩
end Go.Proofs.YtlenbcmgjancmaaGreatDoor
