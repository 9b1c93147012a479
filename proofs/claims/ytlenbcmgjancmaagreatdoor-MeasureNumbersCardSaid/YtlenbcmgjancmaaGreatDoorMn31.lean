import Derived.Test.YtlenbcmgjancmaaGreatDoorMn30
import Derived.Test.YtlenbcmgjancmaaGreatDoorMn28
import Derived.Test.YtlenbcmgjancmaaGreatDoorMn22
import Derived.Test.YtlenbcmgjancmaaGreatDoorMn20
set_option linter.unusedVariables false
set_option linter.unusedSimpArgs false
namespace Go.Proofs.YtlenbcmgjancmaaGreatDoor
open Go.RowKit Go.Maps
theorem tallRow_drop {hi:Int→Int→Int} {ws ks:List Int} {a:Nat} {z k v:Int} (hz:ws[a]?=some z) (hk:ks[a]?=some k):tallRow hi (ws.drop a) (ks.drop a) v=tallRow hi (ws.drop (a+1)) (ks.drop (a+1)) (max v (hi k z)):=by
 obtain⟨h1,e1⟩:=List.getElem?_eq_some_iff.1 hz
 obtain⟨h2,e2⟩:=List.getElem?_eq_some_iff.1 hk
 rw [List.drop_eq_getElem_cons h1,List.drop_eq_getElem_cons h2,e1,e2]
 rfl
set_option maxRecDepth 100000 in
set_option maxHeartbeats 4000000 in
theorem row_tall (p:MP) (w:World) (M:MG p w) (n:Nat) (x:ND) (hn:p.ns[n]?=some x) (hl:x.kids.length≤4096) (hk:KidsIn p x.kids) (nv iw:Int) (m l:Int→Int) (hi:Int→Int→Int)
  (HMW:∀ k ∈ x.kids,∀ W,MS p w W→Calls Tryz.prog 41 #[.pointer (some ⟨p.pm,0,none⟩),.int .i64 k] W (GPost (m k) p W))
  (HLW:∀ k ∈ x.kids,∀ W,MS p w W→Calls Tryz.prog 40 #[.pointer (some ⟨p.pm,0,none⟩),.int .i64 k] W (GPost (l k) p W))
  (HHI:∀ k ∈ x.kids,∀ z:Int,-34359738368≤z∧z≤34359738368→∀ W,MS p w W→Calls Tryz.prog 46 #[.pointer (some ⟨p.pm,0,none⟩),.int .i64 k,.int .i64 z] W (GPost (hi k z) p W)) :
  Calls Tryz.prog 53 #[.pointer (some ⟨p.pm,0,none⟩),.pointer (some ⟨p.g,n*34,none⟩),.int .i64 nv,.int .i64 iw] w (GPost (tallRow hi (sizesS (x.kids.map fun k=>alongJ (ndF p.ns k).wd (m k) (l k)) iw x.gap) x.kids 0) p w):=by
 have HAL:=zH (along_gen p w M n x hn hl hk iw m l HMW HLW)
 have hnear:=sizesS_near (its:=x.kids.map fun k=>alongJ (ndF p.ns k).wd (m k) (l k)) (by rw [List.length_map];exact hl) iw x.gap
 generalize sizesS (x.kids.map fun k=>alongJ (ndF p.ns k).wd (m k) (l k)) iw x.gap=WS at HAL hnear ⊢
 rw [List.length_map] at hnear
 obtain⟨R,hR⟩:∃ R,tallRow hi WS x.kids 0=R:=⟨_,rfl⟩
 rw [hR]
 obtain⟨kv,cv,hnd,hkv,_⟩:=M.node hn
 have HKV:Hid (w.cell? ⟨p.g,n*34+3,none⟩=some kv):=zH hnd.kids
 obtain⟨q,c,rfl,_,hx⟩:=hkv
 have HX:=zH hx
 have HH:=zH HHI
 obtain⟨kn,hkn⟩:∃ kn,x.kids.length=kn:=⟨_,rfl⟩
 have HKN:=zH hkn
 rw [hkn] at hl HKV hnear
 have HNR:=zH hnear
 have lg:=M.lg hn
 have HM:=zH (MS.start M)
 have HR:=zH hR
 clear hnd hx hk M hn hkn HMW HLW HHI hnear hR
 go_enter Tryz.func53,Tryz.ntmps53
 go_wp2_with (go_at_call 54;((with_reducible refine(HAL.out).mono ?_);rintro e1' w5 ⟨v5,rfl,hg5,hM5,hs5⟩;obtain⟨q5,c5,rfl,_,hx5⟩:=hs5;rw [HNR.out.1];have H5:Hid (MS p w w5):=zH (HM.out.calls hg5 hM5);have HX5:=zH hx5;clear hg5 hM5 hx5))
 go_loopw [17,9] (fun i h wr=>∃ (a:Nat) (v:Int),i=.int .i64 a∧a≤kn∧h=.int .i64 v∧tallRow hi (WS.drop a) (x.kids.drop a) v=R∧MS p w5 wr) (fun i _ _=>kn - (intOf i).toNat)
 case atStart=>exact⟨0,0,rfl,by omega,rfl,by simpa using HR.out,MS.start H5.out.mg⟩
 case round=>
  obtain⟨a,v,rfl,ha,rfl,hT,hS⟩:=hrel
  have HS:=zH hS
  have HW:Hid (MS p w wr):=zH ⟨HM.out.m0,World.grownBy.trans H5.out.gr hS.gr,hS.mg⟩
  have lgr:p.g<wr.heap.size:=Nat.lt_of_lt_of_le lg HW.out.size
  clear hS
  by_cases hlt:a<kn
  ·have hltI:(a:Int)<(kn:Int):=by omega
   obtain⟨k,hka⟩:∃ k,x.kids[a]?=some k:=⟨_,List.getElem?_eq_getElem (by rw [HKN.out];exact hlt)⟩
   obtain⟨z,hza⟩:∃ z,WS[a]?=some z:=⟨_,List.getElem?_eq_getElem (by rw [HNR.out.1];exact hlt)⟩
   rw [tallRow_drop hza hka] at hT
   have HT:=zH hT
   have hkm:=List.mem_of_getElem? hka
   have hzr:=HNR.out.2 z (List.mem_of_getElem? hza)
   obtain⟨g,o,rfl,hg,hck⟩:=HX.out a _ hka
   obtain⟨g5,o5,rfl,hgz,hcz⟩:=HX5.out a _ hza
   have c1:=HW.out.cell hck
   have c2:=HW.out.cell HKV.out
   have c3:=HS.out.cell hcz
   have lgk:g<wr.heap.size:=Nat.lt_of_lt_of_le hg HW.out.size
   have lgz:g5<wr.heap.size:=Nat.lt_of_lt_of_le hgz HS.out.size
   have HCA:=zH (HH.out k hkm z hzr wr HW.out)
   clear hT hka hza hkm hck hcz
   go_wp2_with (go_at_call 46;((with_reducible refine(HCA.out).mono ?_);rintro e1' w8 ⟨rfl,hg3,hM3⟩;have HS3:=zH (HS.out.calls hg3 hM3);clear hg3 hM3))
   go_roundw
   case rel=>exact⟨a+1,max v (hi k z),by first|rfl|go_num,by omega,by first|rfl|simp,HT.out,HS3.out⟩
   case measure=>simp [intOf]<;>omega
  ·have hltI:decide ((a:Int)<(kn:Int))=false:=decide_eq_false (by omega)
   obtain rfl:a=kn:=by omega
   have HT:Hid (v=R):=zH (by rw [← hT,List.drop_of_length_le (by rw [HNR.out.1];exact Nat.le_refl _)];simp [tallRow])
   clear hT
   go_wp2
   go_ret
   exact⟨by rw [HT.out];rfl,HW.out.gr,HW.out.mg⟩
end Go.Proofs.YtlenbcmgjancmaaGreatDoor
namespace Go.Proofs.YtlenbcmgjancmaaGreatDoor
open Go.RowKit Go.Maps
set_option maxRecDepth 100000 in
theorem widest_one (p:MP) (W:World) (k v:Int) (bo b1 F:Nat) (h0:W.cell? ⟨bo,0,none⟩=some (.func (.func F) #[] #[])) (h1:W.cell? ⟨b1,0,none⟩=some (.pointer (some ⟨p.pm,0,none⟩)))
  (hf:∀ args w,(callFunc F args).run Tryz.prog w=.ok (.enter F args) w)
  (HC:Calls Tryz.prog F #[.pointer (some ⟨p.pm,0,none⟩),.int .i64 k] W (GPost v p W)) :
  Calls Tryz.prog 39 #[.int .i64 k,.pointer (some ⟨bo,0,none⟩),.pointer (some ⟨b1,0,none⟩)] W (GPost v p W):=by
 have HH:=zH HC
 clear HC
 go_enter Tryz.func39,Tryz.ntmps39
 go_wp2_with ((with_reducible refine(HH.out).mono ?_);rintro e1' w2 ⟨rfl,hg2,hM2⟩)
 go_ret
 exact⟨rfl,hg2,hM2⟩
set_option maxRecDepth 100000 in
theorem widest_gen (p:MP) (w:World) (M:MG p w) (n:Nat) (x:ND) (hn:p.ns[n]?=some x) (hl:x.kids.length≤4096) (nv:Int) (bo F:Nat) (h0:w.cell? ⟨bo,0,none⟩=some (.func (.func F) #[] #[])) (h:Int→Int)
  (hf:∀ args w,(callFunc F args).run Tryz.prog w=.ok (.enter F args) w)
  (HC:∀ k ∈ x.kids,∀ W,MS p w W→Calls Tryz.prog F #[.pointer (some ⟨p.pm,0,none⟩),.int .i64 k] W (GPost (h k) p W)) :
  Calls Tryz.prog 36 #[.pointer (some ⟨p.pm,0,none⟩),.pointer (some ⟨p.g,n*34,none⟩),.int .i64 nv,.pointer (some ⟨bo,0,none⟩)] w (GPost (greatS (x.kids.map h) 0) p w):=by
 obtain⟨kv,cv,hnd,hkv,_⟩:=M.node hn
 have hS:MS p w (w.alloc (.cells #[.pointer (some ⟨p.pm,0,none⟩)] 27)):=(MS.start M).below (Below.alloc (Below.refl _ _) (Nat.le_refl _) _)
 have hc1:(w.alloc (.cells #[.pointer (some ⟨p.pm,0,none⟩)] 27)).cell? ⟨w.heap.size,0,none⟩=some (.pointer (some ⟨p.pm,0,none⟩)):=cell_newC _ _ _ _ _ rfl
 have HE:=zH (each_gen (w.alloc (.cells #[.pointer (some ⟨p.pm,0,none⟩)] 27)) p hS.mg p.g (n*34) kv x.kids (hS.cell hnd.kids) (hkv.below (Below.alloc (Below.refl _ _) (Nat.le_refl _) _)) hl 39 #[] #[.pointer (some ⟨bo,0,none⟩),.pointer (some ⟨w.heap.size,0,none⟩)] (fun _ _=>by kernel_rfl) h
  (fun k hk W hW=>widest_one p W k (h k) bo w.heap.size F (hW.cell (hS.cell h0)) (hW.cell hc1) hf (HC k hk W ⟨M,World.grownBy.trans hS.gr hW.gr,hW.mg⟩)))
 have HS:=zH hS
 have HLL:Hid ((x.kids.map h).length≤1048576):=zH (by rw [List.length_map];omega)
 generalize x.kids.map h=L at HE HLL ⊢
 clear hnd hkv hS hc1 HC hn hl M h0 hf
 go_enter Tryz.func36,Tryz.ntmps36
 go_wp2_with (first|(go_at_call 38;((with_reducible refine(HE.out).mono ?_);rintro e1' w2 ⟨b,rfl,hb1,hA,hg2,hM2⟩;have HG:=zH (greatest_any _ L w2 (ArrI.sl hA (by have:=HLL.out;omega) L.length) HLL.out)))|(go_at_call 37;((with_reducible refine(HG.out).mono ?_);rintro e1' w3 ⟨rfl,hw3⟩;obtain rfl:=hw3.symm)))
 go_ret
 exact⟨rfl,World.grownBy.trans HS.out.gr hg2,hM2⟩
set_option maxRecDepth 100000 in
theorem stack_sum (p:MP) (W:World) (n:Nat) (gap:Int) (hgp:0≤gap∧gap≤4096) (bx:Nat) (h0:W.cell? ⟨bx,0,none⟩=some (.pointer (some ⟨p.g,n*34,none⟩))) (h1:W.cell? ⟨p.g,n*34+14,none⟩=some (.int .i64 gap)) (v:Value) (L:List Int) (hv:SlI W v L) (hl:L.length≤4096) (hb:∀ x ∈ L,-34359738368≤x∧x≤34359738368) :
  Calls Tryz.prog 43 #[v,.pointer (some ⟨bx,0,none⟩)] W (VRet (.int .i64 (sumS L gap)) W):=by
 have HSM:=zH (sum_near v L gap W hv hgp hl hb)
 have lx:=World.block_lt_of_cell? W _ h0
 have lg:=World.block_lt_of_cell? W _ h1
 clear hv hb
 go_enter Tryz.func43,Tryz.ntmps43
 go_wp2_with (go_at_call 44;((with_reducible refine HSM.out.mono ?_);rintro e1' w6 ⟨rfl,hw6⟩;obtain rfl:=hw6.symm))
 go_ret
 exact⟨rfl,rfl⟩
abbrev StK (w:World) (p:MP) (b1 b2 b3:Nat) (how iw:Int) (W:World):Prop :=
 W.cell? ⟨b1,0,none⟩=some (.pointer (some ⟨p.pm,0,none⟩))∧W.cell? ⟨b2,0,none⟩=some (.int .i8 how)∧W.cell? ⟨b3,0,none⟩=some (.int .i64 iw)∧MS p w W
theorem StK.drew {w:World} {p:MP} {b1 b2 b3:Nat} {how iw:Int} {W:World} (h:StK w p b1 b2 b3 how iw W):StK w p b1 b2 b3 how iw W.drew:=⟨h.1,h.2.1,h.2.2.1,h.2.2.2.drew⟩
set_option maxRecDepth 100000 in
set_option maxHeartbeats 4000000 in
theorem stack_one (p:MP) (w W:World) (k ac v how iw:Int) (b1 b2 b3:Nat) (hS:StK w p b1 b2 b3 how iw w) (hW:MS p w W)
  (HA:∀ W,MS p w W→Calls Tryz.prog 47 #[.pointer (some ⟨p.pm,0,none⟩),.int .i64 k,.int .i8 how,.int .i64 iw] W (GPost ac p W))
  (HH:∀ W,MS p w W→Calls Tryz.prog 46 #[.pointer (some ⟨p.pm,0,none⟩),.int .i64 k,.int .i64 ac] W (GPost v p W)) :
  Calls Tryz.prog 45 #[.int .i64 k,.pointer (some ⟨b1,0,none⟩),.pointer (some ⟨b2,0,none⟩),.pointer (some ⟨b3,0,none⟩)] W (GPost v p W):=by
 have HK:Hid (∀ V,MS p w V→StK w p b1 b2 b3 how iw V):=zH fun V hV=>⟨hV.cell hS.1,hV.cell hS.2.1,hV.cell hS.2.2.1,hV⟩
 have HA:=zH (HA W.drew hW.drew)
 have HH:=zH HH
 have HS0:=zH (HK.out _ hW).drew
 obtain⟨s1,s2,s3,s4⟩:=HK.out _ hW
 have HW:=zH hW
 have l1:=World.block_lt_of_cell? W _ s1
 have l2:=World.block_lt_of_cell? W _ s2
 have l3:=World.block_lt_of_cell? W _ s3
 clear hS hW
 go_enter Tryz.func45,Tryz.ntmps45
 go_upto_region 1 with (fail)
 go_region_held3 (fun V=>V.cell? ⟨b1,0,none⟩=some (.pointer (some ⟨p.pm,0,none⟩))∧V.cell? ⟨b2,0,none⟩=some (.int .i8 how)∧V.cell? ⟨b3,0,none⟩=some (.int .i64 iw)∧MS p w V)
  ((first|(refine StK.drew ?_;(refine⟨?_,?_,?_,?_⟩<;>assumption))|(refine⟨?_,?_,?_,?_⟩<;>assumption)))
  (first|(go_at_call 47;((with_reducible refine HA.out.mono ?_);rintro e1' w5 ⟨rfl,hg5,hM5⟩;have HM5:Hid (MS p w w5):=zH (HW.out.drew.calls hg5 hM5);have HHC:=zH (HH.out w5 HM5.out);obtain⟨u1,u2,u3,u4⟩:=HK.out _ HM5.out))|(go_at_call 46;((with_reducible refine HHC.out.mono ?_);rintro e1' w6 ⟨rfl,hg6,hM6⟩;have HM6:Hid (MS p w w6):=zH (HM5.out.calls hg6 hM6);have HG56:Hid (W.grownBy w6 (some p.bm)):=zH (World.grownBy.trans (World.grownBy.trans (grownBy_drew _ _) hg5) hg6);obtain⟨v1,v2,v3,v4⟩:=HK.out _ HM6.out)))
 all_goals
  go_wp2
  go_ret
  exact⟨rfl,HG56.out,HM6.out.mg⟩
end Go.Proofs.YtlenbcmgjancmaaGreatDoor
namespace Go.Proofs.YtlenbcmgjancmaaGreatDoor
open Go.RowKit Go.Maps
theorem box4 (w:World) (v0 v1 v2 v3:Value) (t0 t1 t2 t3:Nat) {W:World} (e:(((w.alloc (.cells #[v0] t0)).alloc (.cells #[v1] t1)).alloc (.cells #[v2] t2)).alloc (.cells #[v3] t3)=W) :
  Below w.heap.size w W∧W.cell? ⟨w.heap.size,0,none⟩=some v0∧W.cell? ⟨w.heap.size+1,0,none⟩=some v1∧W.cell? ⟨w.heap.size+1+1,0,none⟩=some v2∧W.cell? ⟨w.heap.size+1+1+1,0,none⟩=some v3∧w.heap.size+4=W.heap.size:=by
 subst e
 have z1:(w.alloc (.cells #[v0] t0)).heap.size=w.heap.size+1:=by simp
 have z2:((w.alloc (.cells #[v0] t0)).alloc (.cells #[v1] t1)).heap.size=w.heap.size+1+1:=by simp
 have z3:(((w.alloc (.cells #[v0] t0)).alloc (.cells #[v1] t1)).alloc (.cells #[v2] t2)).heap.size=w.heap.size+1+1+1:=by simp
 refine⟨?_,?_,?_,?_,?_,?_⟩
 ·exact Below.alloc (Below.alloc (Below.alloc (Below.alloc (Below.refl _ _) (Nat.le_refl _) _) (by omega) _) (by omega) _) (by omega) _
 ·rw [World.cell?_alloc_lt _ _ _ (by rw [z3];dsimp only;omega),World.cell?_alloc_lt _ _ _ (by rw [z2];dsimp only;omega),World.cell?_alloc_lt _ _ _ (by rw [z1];dsimp only;omega)]
  exact cell_newC _ _ _ _ _ rfl
 ·rw [World.cell?_alloc_lt _ _ _ (by rw [z3];dsimp only;omega),World.cell?_alloc_lt _ _ _ (by rw [z2];dsimp only;omega)]
  exact cell_newC _ _ _ _ _ z1.symm
 ·rw [World.cell?_alloc_lt _ _ _ (by rw [z3];dsimp only;omega)]
  exact cell_newC _ _ _ _ _ z2.symm
 ·exact cell_newC _ _ _ _ _ z3.symm
 ·simp
set_option maxRecDepth 100000 in
set_option maxHeartbeats 4000000 in
theorem stack_tall (p:MP) (w:World) (M:MG p w) (n:Nat) (x:ND) (hn:p.ns[n]?=some x) (hl:x.kids.length≤4096) (hgp:0≤x.gap∧x.gap≤4096) (nv iw:Int) (hkd:x.kd=5) (ac h:Int→Int) (hh:∀ k ∈ x.kids,0≤h k∧h k≤4096)
  (HA:∀ k ∈ x.kids,∀ W,MS p w W→Calls Tryz.prog 47 #[.pointer (some ⟨p.pm,0,none⟩),.int .i64 k,.int .i8 x.al,.int .i64 iw] W (GPost (ac k) p W))
  (HHI:∀ k ∈ x.kids,∀ W,MS p w W→Calls Tryz.prog 46 #[.pointer (some ⟨p.pm,0,none⟩),.int .i64 k,.int .i64 (ac k)] W (GPost (h k) p W)) :
  Calls Tryz.prog 42 #[.pointer (some ⟨p.pm,0,none⟩),.pointer (some ⟨p.g,n*34,none⟩),.int .i64 nv,.int .i64 iw] w (GPost (greatS (x.kids.map h) 0) p w):=by
 obtain⟨kv,cv,hnd,hkv,_⟩:=M.node hn
 have c1:=hnd.kd
 rw [hkd] at c1
 have c2:=hnd.al
 have c3:=hnd.cr
 have lg:=M.lg hn
 have lg1:p.g<w.heap.size+1:=by omega
 have lg2:p.g<w.heap.size+1+1:=by omega
 have lg3:p.g<w.heap.size+1+1+1:=by omega
 obtain⟨how,hhow⟩:∃ how,x.al=how:=⟨_,rfl⟩
 rw [hhow] at c2 HA
 obtain⟨gap,hgap⟩:∃ gap,x.gap=gap:=⟨_,rfl⟩
 have HGP:Hid (w.cell? ⟨p.g,n*34+14,none⟩=some (.int .i64 gap)):=zH (by rw [← hgap];exact hnd.gap)
 rw [hgap] at hgp
 try rw [hgap]
 obtain⟨L,hL⟩:∃ L,x.kids.map h=L:=⟨_,rfl⟩
 rw [hL]
 have HLX:=zH hL
 have HKD:=zH hnd.kids
 have HKV:=zH hkv
 have HM:=zH (MS.start M)
 have HA:=zH HA
 have HH:=zH HHI
 have HB:=zH hh
 clear hnd hkv M hn HHI hh hhow hgap hL
 go_enter Tryz.func42,Tryz.ntmps42
 go_upto_region 4 with (fail)
 generalize hW4:World.alloc (World.alloc (World.alloc (World.alloc w _) _) _) _=W4
 obtain⟨q0,q1,q2,q3,q4,q5⟩:=box4 w _ _ _ _ _ _ _ _ hW4
 have HS:Hid (MS p w W4):=zH (HM.out.below q0)
 have HE:=zH (each_gen W4 p HS.out.mg p.g (n*34) kv x.kids (HS.out.cell HKD.out) (HKV.out.below q0) hl 45 #[] #[.pointer (some ⟨w.heap.size,0,none⟩),.pointer (some ⟨w.heap.size+1+1+1,0,none⟩),.pointer (some ⟨w.heap.size+1+1,0,none⟩)] (fun _ _=>by kernel_rfl) h
  (fun k hk W hW=>stack_one p W4 W k (ac k) (h k) how iw w.heap.size (w.heap.size+1+1+1) (w.heap.size+1+1) ⟨q1,q4,q3,MS.start HS.out.mg⟩ hW
   (fun V hV=>HA.out k hk V ⟨HM.out.m0,World.grownBy.trans HS.out.gr hV.gr,hV.mg⟩)
   (fun V hV=>HH.out k hk V ⟨HM.out.m0,World.grownBy.trans HS.out.gr hV.gr,hV.mg⟩)))
 have HLR:Hid (∀ v ∈ x.kids.map h,-34359738368≤v∧v≤34359738368):=zH fun v hv=>by
  obtain⟨k,hk,rfl⟩:=List.mem_map.1 hv
  have:=HB.out k hk;omega
 have HLL:Hid ((x.kids.map h).length≤4096):=zH (by rw [List.length_map];exact hl)
 have HQ2:=zH q2
 rw [HLX.out] at HE HLR HLL
 clear hW4 q0 q1 q3 q4 c1 c2 c3 lg lg1 lg2 lg3 HH HA HB HKD HKV
 go_wp2_with (first|(go_at_call 38;((with_reducible refine(HE.out).mono ?_);rintro e1' w2 ⟨b,rfl,hb1,hA,hg2,hM2⟩;have HG:=zH (greatest_any _ L w2 (ArrI.sl hA (by have:=HLL.out;omega) L.length) (by have:=HLL.out;omega))))|(go_at_call 37;((with_reducible refine(HG.out).mono ?_);rintro e1' w3 ⟨rfl,hw3⟩;obtain rfl:=hw3.symm)))
 go_ret
 exact⟨rfl,World.grownBy.trans HS.out.gr hg2,hM2⟩
set_option maxRecDepth 100000 in
set_option maxHeartbeats 4000000 in
theorem col_tall (p:MP) (w:World) (M:MG p w) (n:Nat) (x:ND) (hn:p.ns[n]?=some x) (hl:x.kids.length≤4096) (hgp:0≤x.gap∧x.gap≤4096) (nv iw:Int) (hkd:(x.kd == 5)=false) (ac h:Int→Int) (hh:∀ k ∈ x.kids,0≤h k∧h k≤4096)
  (HA:∀ k ∈ x.kids,∀ W,MS p w W→Calls Tryz.prog 47 #[.pointer (some ⟨p.pm,0,none⟩),.int .i64 k,.int .i8 x.cr,.int .i64 iw] W (GPost (ac k) p W))
  (HHI:∀ k ∈ x.kids,∀ W,MS p w W→Calls Tryz.prog 46 #[.pointer (some ⟨p.pm,0,none⟩),.int .i64 k,.int .i64 (ac k)] W (GPost (h k) p W)) :
  Calls Tryz.prog 42 #[.pointer (some ⟨p.pm,0,none⟩),.pointer (some ⟨p.g,n*34,none⟩),.int .i64 nv,.int .i64 iw] w (GPost (sumS (x.kids.map h) x.gap) p w):=by
 obtain⟨kv,cv,hnd,hkv,_⟩:=M.node hn
 have c1:=hnd.kd
 have hkd:=hkd
 have c2:=hnd.al
 have c3:=hnd.cr
 have lg:=M.lg hn
 have lg1:p.g<w.heap.size+1:=by omega
 have lg2:p.g<w.heap.size+1+1:=by omega
 have lg3:p.g<w.heap.size+1+1+1:=by omega
 obtain⟨how,hhow⟩:∃ how,x.cr=how:=⟨_,rfl⟩
 rw [hhow] at c3 HA
 obtain⟨gap,hgap⟩:∃ gap,x.gap=gap:=⟨_,rfl⟩
 have HGP:Hid (w.cell? ⟨p.g,n*34+14,none⟩=some (.int .i64 gap)):=zH (by rw [← hgap];exact hnd.gap)
 rw [hgap] at hgp
 try rw [hgap]
 obtain⟨L,hL⟩:∃ L,x.kids.map h=L:=⟨_,rfl⟩
 rw [hL]
 have HLX:=zH hL
 have HKD:=zH hnd.kids
 have HKV:=zH hkv
 have HM:=zH (MS.start M)
 have HA:=zH HA
 have HH:=zH HHI
 have HB:=zH hh
 clear hnd hkv M hn HHI hh hhow hgap hL
 go_enter Tryz.func42,Tryz.ntmps42
 go_upto_region 4 with (fail)
 generalize hW4:World.alloc (World.alloc (World.alloc (World.alloc w _) _) _) _=W4
 obtain⟨q0,q1,q2,q3,q4,q5⟩:=box4 w _ _ _ _ _ _ _ _ hW4
 have HS:Hid (MS p w W4):=zH (HM.out.below q0)
 have HE:=zH (each_gen W4 p HS.out.mg p.g (n*34) kv x.kids (HS.out.cell HKD.out) (HKV.out.below q0) hl 45 #[] #[.pointer (some ⟨w.heap.size,0,none⟩),.pointer (some ⟨w.heap.size+1+1+1,0,none⟩),.pointer (some ⟨w.heap.size+1+1,0,none⟩)] (fun _ _=>by kernel_rfl) h
  (fun k hk W hW=>stack_one p W4 W k (ac k) (h k) how iw w.heap.size (w.heap.size+1+1+1) (w.heap.size+1+1) ⟨q1,q4,q3,MS.start HS.out.mg⟩ hW
   (fun V hV=>HA.out k hk V ⟨HM.out.m0,World.grownBy.trans HS.out.gr hV.gr,hV.mg⟩)
   (fun V hV=>HH.out k hk V ⟨HM.out.m0,World.grownBy.trans HS.out.gr hV.gr,hV.mg⟩)))
 have HLR:Hid (∀ v ∈ x.kids.map h,-34359738368≤v∧v≤34359738368):=zH fun v hv=>by
  obtain⟨k,hk,rfl⟩:=List.mem_map.1 hv
  have:=HB.out k hk;omega
 have HLL:Hid ((x.kids.map h).length≤4096):=zH (by rw [List.length_map];exact hl)
 have HQ2:=zH q2
 rw [HLX.out] at HE HLR HLL
 clear hW4 q0 q1 q3 q4 c1 c2 c3 lg lg1 lg2 lg3 HH HA HB HKD HKV
 go_wp2_with (first|(go_at_call 38;((with_reducible refine(HE.out).mono ?_);rintro e1' w2 ⟨b,rfl,hb1,hA,hg2,hM2⟩;have HS2:Hid (MS p W4 w2):=zH ((MS.start HS.out.mg).calls hg2 hM2);have HG:=zH (stack_sum p w2 n gap hgp (w.heap.size+1) (HS2.out.cell HQ2.out) (HS2.out.cell (HS.out.cell HGP.out)) _ L (ArrI.sl hA (by have:=HLL.out;omega) L.length) HLL.out HLR.out)))|(go_at_call 43;((with_reducible refine(HG.out).mono ?_);rintro e1' w3 ⟨rfl,hw3⟩;obtain rfl:=hw3.symm)))
 go_ret
 exact⟨rfl,World.grownBy.trans HS.out.gr hg2,hM2⟩
end Go.Proofs.YtlenbcmgjancmaaGreatDoor
namespace Go.Proofs.YtlenbcmgjancmaaGreatDoor
open Go.RowKit Go.Maps
noncomputable def rowsG (ns:List ND) (x:ND) (m:Int→Int) (hi:Int→Int→Int) (iw:Int):List Int :=
 tracksG (List.replicate (manyS (placesM ns x) 0).toNat itm0)
  (List.zipWith (fun (s:Spn) (q:Int × Rct)=>(⟨s.r,s.rs,hi q.1 q.2.w⟩:Ned)) (placesM ns x) (x.kids.zip (rectsG (tracksM ns x x.cols m iw) (List.replicate (manyS (placesM ns x) 0).toNat 1) x.gap (placesM ns x)))) 4096 x.gap
theorem rowsM_eq (ns:List ND) (f:FN) (x:ND) (iw:Int):rowsM ns f x iw=rowsG ns x (mwS ns f) (highS ns f) iw:=by unfold rowsM rowsG;rfl
abbrev HdR (w:World) (p:MP) (n:Nat) (gap:Int) (cv:Value) (ob:Nat) (L1:List Int) (vp:Value) (pl:List Spn) (W:World):Prop :=
 W.cell? ⟨p.g,n*34+14,none⟩=some (.int .i64 gap)∧W.cell? ⟨p.g,n*34+28,none⟩=some cv∧RwI w p vp pl W∧ArrI W ob L1
theorem HdR.mk' {w W:World} {p:MP} {n:Nat} {gap:Int} {cv:Value} {ob:Nat} {L1:List Int} {vp:Value} {pl:List Spn} (h:RwI w p vp pl W) (ha:ArrI W ob L1) (hg:w.cell? ⟨p.g,n*34+14,none⟩=some (.int .i64 gap)) (hc:w.cell? ⟨p.g,n*34+28,none⟩=some cv):HdR w p n gap cv ob L1 vp pl W :=
 ⟨h.ms.cell hg,h.ms.cell hc,h,ha⟩
theorem HdR.drew {w W:World} {p:MP} {n:Nat} {gap:Int} {cv:Value} {ob:Nat} {L1:List Int} {vp:Value} {pl:List Spn} (h:HdR w p n gap cv ob L1 vp pl W):HdR w p n gap cv ob L1 vp pl W.drew :=
 ⟨h.1,h.2.1,h.2.2.1.below (Below.drew (Below.refl _ _)),h.2.2.2⟩
theorem SlRc.w {W:World} {gr orr a c:Nat} {RC:List Rct} (h:SlRc W (.slice (some ⟨gr,orr,none⟩) a c) RC) {d:Nat} {r:Rct} (hr:RC[d]?=some r):W.cell? ⟨gr,orr+d*4+2,none⟩=some (.int .i64 r.w):=by
 obtain⟨p4,c4,e4,_,hpr⟩:=h
 obtain⟨rfl,-,rfl⟩:some ⟨gr,orr,none⟩=p4∧a=RC.length∧c=c4:=by simpa using e4
 obtain⟨g2,o2,e,_,_,_,t2,_⟩:=hpr d r hr
 obtain⟨rfl,rfl⟩:gr=g2∧orr=o2:=by simpa using e
 exact t2
theorem set3_cell {W:World} {g o b i j k:Nat} {v x y z:Value} (h:W.cell? ⟨g,o,none⟩=some v) (hne:g ≠ b):(((W.setCell ⟨b,i,none⟩ x).setCell ⟨b,j,none⟩ y).setCell ⟨b,k,none⟩ z).cell? ⟨g,o,none⟩=some v:=by
 rw [World.cell?_setCell_other _ _ _ _ (by rintro e;cases e;exact hne rfl),World.cell?_setCell_other _ _ _ _ (by rintro e;cases e;exact hne rfl),World.cell?_setCell_other _ _ _ _ (by rintro e;cases e;exact hne rfl)]
 exact h
abbrev HdH (w:World) (p:MP) (vp:Value) (PL:List Spn) (vr:Value) (RC:List Rct) (nb:Nat) (q n g j gr i:Nat) (s:Spn) (k:Int) (z:Int) (kv:Value) (W:World):Prop :=
 W.cell? ⟨q,1,none⟩=some (.int .i64 s.r)∧W.cell? ⟨q,3,none⟩=some (.int .i64 s.rs)∧W.cell? ⟨p.g,n*34+3,none⟩=some kv∧W.cell? ⟨g,j,none⟩=some (.int .i64 k)∧W.cell? ⟨gr,i,none⟩=some (.int .i64 z)∧∃ L,Rw3 w p vp PL vr RC nb L W
theorem HdH.drew {w:World} {p:MP} {vp:Value} {PL:List Spn} {vr:Value} {RC:List Rct} {nb:Nat} {q n g j gr i:Nat} {s:Spn} {k:Int} {z:Int} {kv:Value} {W:World} (h:HdH w p vp PL vr RC nb q n g j gr i s k z kv W):HdH w p vp PL vr RC nb q n g j gr i s k z kv W.drew :=
 ⟨h.1,h.2.1,h.2.2.1,h.2.2.2.1,h.2.2.2.2.1,h.2.2.2.2.2.elim fun L h=>⟨L,h.below (Below.drew (Below.refl _ _))⟩⟩
set_option maxRecDepth 100000 in
set_option maxHeartbeats 16000000 in
theorem rows_gen (p:MP) (w:World) (M:MG p w) (n:Nat) (x:ND) (hn:p.ns[n]?=some x) (hl:x.kids.length≤4096) (hk:KidsIn p x.kids) (hc:x.cols.length≤64) (hgp:0≤x.gap∧x.gap≤4096) (iw:Int) (m:Int→Int) (hi:Int→Int→Int)
  (HMW:∀ k ∈ x.kids,∀ W,MS p w W→Calls Tryz.prog 41 #[.pointer (some ⟨p.pm,0,none⟩),.int .i64 k] W (GPost (m k) p W))
  (HHI:∀ k ∈ x.kids,∀ z:Int,-1000000000≤z∧z≤1000000000→∀ W,MS p w W→Calls Tryz.prog 46 #[.pointer (some ⟨p.pm,0,none⟩),.int .i64 k,.int .i64 z] W (GPost (hi k z) p W)) :
  Calls Tryz.prog 60 #[.pointer (some ⟨p.pm,0,none⟩),.pointer (some ⟨p.g,n*34,none⟩),.int .i64 iw] w (OutM (rowsG p.ns x m hi iw) p w):=by
 obtain⟨PL,hPL⟩:∃ PL,placesM p.ns x=PL:=⟨_,rfl⟩
 have hPl:PL.length=x.kids.length:=by rw [← hPL];unfold placesM;rw [gflow_len (by rw [List.length_map];exact hl),List.length_map]
 have hPok:∀ s ∈ PL,SpR s∧s.r+s.rs≤25000000:=by rw [← hPL];unfold placesM;exact gflow_ok (by rw [List.length_map];exact hl) _
 obtain⟨mn,hmn⟩:∃ mn:Nat,(manyS PL 0).toNat=mn:=⟨_,rfl⟩
 have hmr:=manyS_range PL 0 (by omega)
 have hmI:manyS PL 0=(mn:Int):=by omega
 have hm4:mn≤4096:=by omega
 obtain⟨TL,hTL⟩:∃ TL,tracksM p.ns x x.cols m iw=TL:=⟨_,rfl⟩
 have hTl:TL.length≤4096:=by rw [← hTL];unfold tracksM;exact(tracksG_near (by omega) _ _ _).1
 obtain⟨L1,hL1⟩:∃ L1:List Int,List.replicate mn 1=L1:=⟨_,rfl⟩
 have hL1l:L1.length=mn:=by rw [← hL1,List.length_replicate]
 have HL1X:Hid (∀ i,i<mn→L1[i]?=some 1):=zH fun i h=>by rw [← hL1,List.getElem?_replicate,if_pos h]
 obtain⟨RC,hRC⟩:∃ RC,rectsG TL L1 x.gap PL=RC:=⟨_,rfl⟩
 have hRn:=rectsG_near (cols:=TL) (rows:=L1) hTl (by rw [hL1l];exact hm4) x.gap (spans:=PL) (by rw [hPl];exact hl)
 rw [hRC] at hRn
 obtain⟨L,hL⟩:∃ L,List.zipWith (fun (s:Spn) (q:Int × Rct)=>(⟨s.r,s.rs,hi q.1 q.2.w⟩:Ned)) PL (x.kids.zip RC)=L:=⟨_,rfl⟩
 have HR:Hid (rowsG p.ns x m hi iw=tracksG (List.replicate mn itm0) L 4096 x.gap):=zH (by unfold rowsG;rw [hPL,hmn,hTL,hL1,hRC,hL])
 have hLl:L.length=x.kids.length:=by rw [← hL,List.length_zipWith,List.length_zip,hPl,hRn.1,hPl];omega
 have HLX:Hid (∀ (i:Nat) s k r,PL[i]?=some s→x.kids[i]?=some k→RC[i]?=some r→L[i]?=some ⟨s.r,s.rs,hi k r.w⟩):=zH fun i s k r hs hk2 hr=>by
  rw [← hL,List.getElem?_zipWith,hs]
  have:(x.kids.zip RC)[i]?=some (k,r):=by rw [List.getElem?_zip_eq_some];exact⟨hk2,hr⟩
  rw [this]
 have hpc:=(places_gen p w M n x hn hl hk hc).mono fun e w' h=>FlowP.pla h (show (placesM p.ns x).length=x.kids.length by rw [hPL,hPl])
 rw [hPL] at hpc
 have HTC:=zH (fun W (hM:MS p w W) (vc:Value) (hv:SlT W vc x.cols)=>tracks_gen p W hM.mg n x hn hl hk hc vc x.cols hv (by omega) 41 #[.pointer (some ⟨p.pm,0,none⟩)] #[] (fun _ _=>by kernel_rfl) iw m (fun k hkm W2 hW2=>HMW k hkm W2 ⟨hM.m0,World.grownBy.trans hM.gr hW2.gr,hW2.mg⟩))
 rw [hTL] at HTC
 obtain⟨kv,cv,hnd,hkv,hcv⟩:=M.node hn
 have HKV:Hid (w.cell? ⟨p.g,n*34+3,none⟩=some kv):=zH hnd.kids
 have HCC:Hid (w.cell? ⟨p.g,n*34+28,none⟩=some cv):=zH hnd.cols
 have HGP:Hid (w.cell? ⟨p.g,n*34+14,none⟩=some (.int .i64 x.gap)):=zH hnd.gap
 have HCV:=zH hcv
 obtain⟨q,c,rfl,_,hx⟩:=hkv
 have HX:=zH hx
 have HH:=zH HHI
 obtain⟨kn,hkn⟩:∃ kn,x.kids.length=kn:=⟨_,rfl⟩
 obtain⟨gap,hgap⟩:∃ gap,x.gap=gap:=⟨_,rfl⟩
 have HKN:=zH hkn
 rw [hkn] at hl HKV hLl hPl hpc
 rw [hgap] at HGP HR hRC hgp
 have HPC:=zH hpc
 have HLN:=zH hLl
 have HPN:=zH hPl
 have HPOK:=zH hPok
 have HTL:=zH hTl
 have HL1L:=zH hL1l
 have HRC:=zH hRC
 have HRN:=zH hRn
 have HMI:=zH hmI
 have lg:=M.lg hn
 have lp:=M.lp
 have lm:=M.lm
 have HM:=zH (MS.start M)
 clear hnd hx hk M hn hkn hLl hPl hL hPL hgap HMW HHI hpc hPok hTl hTL hL1 hL1l hRC hRn hmn hmr hmI hcv
 go_enter Tryz.func60,Tryz.ntmps60
 go_wp2_with (go_at_call 97;((with_reducible refine(HPC.out).mono ?_);rintro e1' w2 ⟨pp,pc,rfl,hb2,hs2,hlo2⟩;have HB0:Hid (RwI w p (.slice pp kn pc) PL w2):=zH ⟨HM.out.below hb2,hs2⟩;clear hb2 hs2 hlo2))
 clear HPC
 go_loopw [22,8] (fun i ve wr=>∃ (a:Nat) (v:Int),i=.int .i64 a∧a≤kn∧ve=.int .i64 v∧0≤v∧v≤4096∧manyS (PL.drop a) v=(mn:Int)∧RwI w p (.slice pp kn pc) PL wr) (fun i _ _=>kn - (intOf i).toNat)
 case atStart=>exact⟨0,0,rfl,by omega,rfl,by omega,by omega,HMI.out,HB0.out⟩
 case round=>
  obtain⟨a,v,rfl,ha,rfl,hv0,hv4,hman,hB⟩:=hrel
  have HB:=zH hB
  clear hB HB0
  by_cases hlt:a<kn
  ·as_aux_lemma=>
   have hltI:(a:Int)<(kn:Int):=by omega
   obtain⟨s,hs⟩:∃ s,PL[a]?=some s:=⟨_,List.getElem?_eq_getElem (by rw [HPN.out];exact hlt)⟩
   obtain⟨p3,c3,e3,_,hpx⟩:=HB.out.ps
   obtain⟨rfl,-,rfl⟩:pp=p3∧kn=PL.length∧pc=c3:=by simpa using e3
   obtain⟨gs,os,rfl,hgs,d0,d1,d2,d3⟩:=hpx a s hs
   obtain⟨⟨o1,o2,o3,o4,o5,o6,o7,o8⟩,o9⟩:=HPOK.out s (List.mem_of_getElem? hs)
   rw [manyS_drop hs] at hman
   have HMN:=zH hman
   have HJ:=zH (HB.out.below (Below.alloc (Below.refl _ _) (Nat.le_refl _) (.cells #[.int .i64 s.c,.int .i64 s.r,.int .i64 s.cs,.int .i64 s.rs] 135)))
   clear hs hpx hman e3
   go_wp2
   go_roundw
   case rel=>exact⟨a+1,min (max v (s.r+s.rs)) 4096,by first|rfl|go_num,by omega,rfl,by omega,by omega,HMN.out,HJ.out⟩
   case measure=>simp [intOf]<;>omega
  ·have hltI:decide ((a:Int)<(kn:Int))=false:=decide_eq_false (by omega)
   obtain rfl:a=kn:=by omega
   have hvm:v=(mn:Int):=by rw [← hman,List.drop_of_length_le (by rw [HPN.out];exact Nat.le_refl _)];rfl
   subst hvm
   have hmk:=mk_ints mn (by omega)
   have HO0:=zH (ArrI.made wr mn)
   have hob:w.heap.size≤wr.heap.size:=HB.out.ms.size
   have HNE:Hid (∀ a' n c,Value.slice pp a pc=.slice (some a') n c→PL ≠ []→a'.block ≠ wr.heap.size):=zH fun a' n c e h=>by have:=HB.out.ps.lt a' n c e h;omega
   clear hman
   go_wp2
   have HO1:Hid (ArrI (wr.alloc (.cells (madeCells #[.int .i64 0] mn) 3)) wr.heap.size (part L1 0)):=zH (by rw [part_zero,HL1L.out];exact HO0.out)
   have HJ0:=zH (HB.out.below (Below.alloc (Below.refl _ _) (Nat.le_refl _) (.cells (madeCells #[.int .i64 0] mn) 3)))
   have hobm:wr.heap.size ≠ p.bm:=by omega
   generalize wr.alloc (.cells (madeCells #[.int .i64 0] mn) 3)=w5 at HO1 HJ0 ⊢
   generalize wr.heap.size=ob at HO0 HO1 hob HNE hobm ⊢
   clear HO0 HB hmk
   go_loopw [39] (fun i wr=>∃ b:Nat,i=.int .i64 b∧b≤mn∧RwI w p (.slice pp a pc) PL wr∧ArrI wr ob (part L1 b)) (fun i _=>mn - (intOf i).toNat)
   case atStart=>exact⟨0,rfl,by omega,HJ0.out,HO1.out⟩
   case round=>
    obtain⟨b,rfl,hb,hJ,hO⟩:=hrel
    have HJ:=zH hJ
    have HO:=zH hO
    have lo:=hO.lt
    clear hJ hO HJ0 HO1
    by_cases hlt2:b<mn
    ·as_aux_lemma=>
     have hlt2I:(b:Int)<(mn:Int):=by omega
     have c0:=HO.out.at (part_get (l:=L1) (k:=b) (by rw [HL1L.out];exact hlt2))
     have f0:=HO.out.froz b
     have HJ2:=zH (HJ.out.set hob HNE.out b (.int .i64 1))
     have HO2:=zH ((HO.out.put b 1).to (part_set (HL1X.out b hlt2)))
     go_wp2
     go_roundw
     case rel=>exact⟨b+1,by first|rfl|go_num,by omega,HJ2.out,HO2.out⟩
     case measure=>simp [intOf]<;>omega
    ·have hlt2I:decide ((b:Int)<(mn:Int))=false:=decide_eq_false (by omega)
     obtain rfl:b=mn:=by omega
     have hOO:=HO.out
     rw [part_full2 HL1L.out.symm] at hOO
     have hD:HdR w p n gap cv ob L1 (.slice pp a pc) PL wr:=HdR.mk' HJ.out hOO HGP.out HCC.out
     have HD:=zH hD.drew
     have HTR:=zH (HTC.out wr.drew hD.drew.2.2.1.ms cv (HCV.out.keeps (hD.drew.2.2.1.ms.m0.keeps hD.drew.2.2.1.ms.gr) hD.drew.2.2.1.ms.size))
     obtain⟨s1,s2,s3,s4⟩:=hD
     have lgr:p.g<wr.heap.size:=Nat.lt_of_lt_of_le lg HJ.out.ms.size
     have lpr:p.pm<wr.heap.size:=Nat.lt_of_lt_of_le lp HJ.out.ms.size
     clear hOO HO HJ HTC
     go_upto_region 14 with (fail)
     go_region_held3 (fun W=>W.cell? ⟨p.g,n*34+14,none⟩=some (.int .i64 gap)∧W.cell? ⟨p.g,n*34+28,none⟩=some cv∧RwI w p (.slice pp a pc) PL W∧ArrI W ob L1)
      ((first|(refine HdR.drew ?_;(refine⟨?_,?_,?_,?_⟩<;>assumption))|(refine⟨?_,?_,?_,?_⟩<;>assumption)))
      (first|(go_at_call 56;((with_reducible refine(HTR.out).mono ?_);rintro e1' w6 ⟨v6,rfl,hg6,hM6,hs6⟩;have HO6:Hid (ArrI w6 ob L1):=zH (Arr.grown HD.out.2.2.2 hg6 (by simpa using hobm));have HJ6:=zH (HD.out.2.2.1.calls hg6 hM6);have HD6:=zH (HdR.mk' HJ6.out HO6.out HGP.out HCC.out);have hos:=ArrI.sl HO6.out (by rw [HL1L.out];omega) b;have HRX:=zH (rects_any hs6 hos HJ6.out.ps HTL.out (by rw [HL1L.out];exact hm4) (by rw [HPN.out];exact hl) (fun s hs=>(HPOK.out s hs).1) gap);rw [HL1L.out,HRC.out] at HRX;obtain⟨u1,u2,u3,u4⟩:=HD6.out;clear hg6 hM6 hs6 hos))|(go_at_call 99;((with_reducible refine(HRX.out).mono ?_);rintro e1' w7 ⟨vr,rfl,hb7,hs7⟩;have HJ7:=zH (HJ6.out.below hb7);have HS7:=zH hs7;obtain⟨v1,v2,v3,v4⟩:=HdR.mk' HJ7.out (Arr.below HO6.out hb7) HGP.out HCC.out;clear hb7 hs7)))
     have hsz7:=HJ7.out.ms.size
     obtain⟨pr,cr,hvr,hrl,hrx⟩:=HS7.out
     have hRl:RC.length=a:=by rw [HRN.out.1,HPN.out]
     rw [hRl] at hvr
     subst hvr
     have HRX7:=zH hrx
     have HRL:=zH hRl
     have hmk:=mk_needs a hl
     have HA0:=zH (ArrN.made w7 a)
     have HNE1:Hid (∀ a' n c,Value.slice pp a pc=.slice (some a') n c→PL ≠ []→a'.block ≠ w7.heap.size):=zH fun a' n c e h=>by have:=HJ7.out.ps.lt a' n c e h;omega
     have HNE2:Hid (∀ a' n c,Value.slice pr a cr=.slice (some a') n c→RC ≠ []→a'.block ≠ w7.heap.size):=zH fun a' n c e h=>by have:=HS7.out.lt a' n c e h;omega
     have HT0:Hid (Rw3 w p (.slice pp a pc) PL (.slice pr a cr) RC w7.heap.size (partZ ned0 L 0) (w7.alloc (.cells (madeCells #[.int .i64 0,.int .i64 0,.int .i64 0] (a*3)) 137))):=zH ⟨HJ7.out.below (Below.alloc (Below.refl _ _) (Nat.le_refl _) _),HS7.out.below (Below.alloc (Below.refl _ _) (Nat.le_refl _) _),by rw [partZ_zero,HLN.out];exact HA0.out⟩
     have hnb:w7.heap.size ≠ p.bm:=by omega
     clear hrl hrx hRl v1 v2 v3 v4 u1 u2 u3 u4 s1 s2 s3 s4
     go_wp2
     generalize w7.heap.size=nb at HT0 HA0 HNE1 HNE2 hnb hsz7 ⊢
     clear HA0 HJ7 HS7 HJ6 HO6 HD6 HRX HTR HD hmk
     go_loopw [68] (fun i wr=>∃ d:Nat,i=.int .i64 d∧d≤a∧Rw3 w p (.slice pp a pc) PL (.slice pr a cr) RC nb (partZ ned0 L d) wr) (fun i _=>a - (intOf i).toNat)
     case atStart=>exact⟨0,rfl,by omega,HT0.out⟩
     case round=>
      obtain⟨d,rfl,hd,hT⟩:=hrel
      have HT:=zH hT
      have lw:=hT.ar.lt
      have lgr2:p.g<wr.heap.size:=Nat.lt_of_lt_of_le lg hT.base.ms.size
      have lpr2:p.pm<wr.heap.size:=Nat.lt_of_lt_of_le lp hT.base.ms.size
      clear hT HT0
      by_cases hlt3:d<a
      ·have hlt3I:(d:Int)<(a:Int):=by omega
       obtain⟨k,hka⟩:∃ k,x.kids[d]?=some k:=⟨_,List.getElem?_eq_getElem (by rw [HKN.out];exact hlt3)⟩
       obtain⟨s,hs⟩:∃ s,PL[d]?=some s:=⟨_,List.getElem?_eq_getElem (by rw [HPN.out];exact hlt3)⟩
       obtain⟨r,hr⟩:∃ r,RC[d]?=some r:=⟨_,List.getElem?_eq_getElem (by rw [HRL.out];exact hlt3)⟩
       have hkm:=List.mem_of_getElem? hka
       have hrw:=HRN.out.2 r (List.mem_of_getElem? hr)
       obtain⟨g,o,rfl,hg,hck⟩:=HX.out d _ hka
       obtain⟨p3,c3,e3,_,hpx⟩:=HT.out.base.ps
       obtain⟨rfl,-,rfl⟩:pp=p3∧a=PL.length∧pc=c3:=by simpa using e3
       obtain⟨gs,os,rfl,hgs,d0,d1,d2,d3⟩:=hpx d s hs
       obtain⟨p4,c4,e4,_,hpr⟩:=HT.out.rc
       obtain⟨rfl,-,rfl⟩:pr=p4∧a=RC.length∧cr=c4:=by simpa using e4
       obtain⟨gr,orr,rfl,hgr,t0,t1,t2,t3⟩:=hpr d r hr
       have HLA:=zH (HLX.out d s k r hs hka hr)
       have c1:=HT.out.base.ms.cell hck
       have c2:=HT.out.base.ms.cell HKV.out
       have lgk:g<wr.heap.size:=Nat.lt_of_lt_of_le hg HT.out.base.ms.size
       have HPL2:Hid (d<(partZ ned0 L d).length):=zH (by rw [partZ_len (by rw [HLN.out];omega),HLN.out];exact hlt3)
       have HPG:Hid ((partZ ned0 L d)[d]?=some ned0):=zH (partZ_get (by rw [HLN.out];exact hlt3))
       have hJ:Rw3 w p (.slice (some ⟨gs,os,none⟩) a pc) PL (.slice (some ⟨gr,orr,none⟩) a cr) RC nb (partZ ned0 L d) (wr.alloc (.cells #[.int .i64 s.c,.int .i64 s.r,.int .i64 s.cs,.int .i64 s.rs] 135)):=HT.out.below (Below.alloc (Below.refl _ _) (Nat.le_refl _) _)
       have hQ:Arr (wr.alloc (.cells #[.int .i64 s.c,.int .i64 s.r,.int .i64 s.cs,.int .i64 s.rs] 135)) wr.heap.size [.int .i64 s.c,.int .i64 s.r,.int .i64 s.cs,.int .i64 s.rs] 135:=by unfold Arr;rw [heap_alloc_new]
       have t2':(wr.alloc (.cells #[.int .i64 s.c,.int .i64 s.r,.int .i64 s.cs,.int .i64 s.rs] 135)).cell? ⟨gr,orr+d*4+2,none⟩=some (.int .i64 r.w):=by rw [World.cell?_alloc_lt _ _ ⟨gr,orr+d*4+2,none⟩ hgr];exact t2
       have lgr3:gr<(wr.alloc (.cells #[.int .i64 s.c,.int .i64 s.r,.int .i64 s.cs,.int .i64 s.rs] 135)).heap.size:=by simp;omega
       obtain⟨W1,hW1⟩:∃ W1,wr.alloc (.cells #[.int .i64 s.c,.int .i64 s.r,.int .i64 s.cs,.int .i64 s.rs] 135)=W1:=⟨_,rfl⟩
       rw [hW1] at hJ hQ t2' lgr3
       have hlq:wr.heap.size<W1.heap.size:=hQ.lt
       have hqb:wr.heap.size ≠ p.bm:=by have:=HT.out.base.ms.size;omega
       have HW1:=zH hW1
       have HJD:Hid (Rw3 w p (.slice (some ⟨gs,os,none⟩) a pc) PL (.slice (some ⟨gr,orr,none⟩) a cr) RC nb (partZ ned0 L d) W1.drew):=zH (hJ.below (Below.drew (Below.refl _ _)))
       have HQ:=zH hQ
       have HQD:Hid (Arr W1.drew wr.heap.size [.int .i64 s.c,.int .i64 s.r,.int .i64 s.cs,.int .i64 s.rs] 135):=zH (Arr.drew hQ 1)
       have HCA:=zH (HH.out k hkm r.w (by omega) W1.drew HJD.out.base.ms)
       have c5:=hJ.base.ms.cell hck
       have c6:=hJ.base.ms.cell HKV.out
       have l5:g<W1.heap.size:=Nat.lt_of_lt_of_le hg hJ.base.ms.size
       have l6:p.g<W1.heap.size:=Nat.lt_of_lt_of_le lg hJ.base.ms.size
       have HC5:=zH (And.intro c5 (And.intro c6 t2'))
       have HJ5:=zH hJ
       have HCK:=zH hck
       have HRR:=zH hr
       have hgrn:gr ≠ nb:=HNE2.out ⟨gr,orr,none⟩ a cr rfl (fun e=>by rw [e] at hr;simp at hr)
       clear hka hs hr hkm hpx hpr e3 e4 hW1 hJ hck c5 c6 t2' t0 t1 t2 t3
       go_upto_region 19 with (fail)
       rw [HW1.out]
       obtain⟨c5,c6,t2⟩:=HC5.out
       have q1:=HQ.out.cell (j:=1) rfl
       have q3:=HQ.out.cell (j:=3) rfl
       clear c1 c2 d0 d1 d2 d3 hQ HW1
       have j5:=HJ5.out
       go_region_held3 (fun W=>W.cell? ⟨wr.heap.size,1,none⟩=some (.int .i64 s.r)∧W.cell? ⟨wr.heap.size,3,none⟩=some (.int .i64 s.rs)∧W.cell? ⟨p.g,n*34+3,none⟩=some (.slice (some ⟨g,o,none⟩) a c)∧W.cell? ⟨g,o+d,none⟩=some (.int .i64 k)∧W.cell? ⟨gr,orr+d*4+2,none⟩=some (.int .i64 r.w)∧∃ L',Rw3 w p (.slice (some ⟨gs,os,none⟩) a pc) PL (.slice (some ⟨gr,orr,none⟩) a cr) RC nb L' W)
        ((first|(refine HdH.drew ?_;(refine⟨?_,?_,?_,?_,?_,?_⟩<;>first|assumption|exact⟨_,HJ5.out⟩))|(refine⟨?_,?_,?_,?_,?_,?_⟩<;>first|assumption|exact⟨_,HX2.out⟩|exact⟨_,HT3.out⟩|exact set3_cell (by assumption) (by omega))))
        (first|(go_at_call 46;((with_reducible refine(HCA.out).mono ?_);rintro e1' w8 ⟨rfl,hg3,hM3⟩;have HT3:=zH (HJD.out.calls hnb hg3 hM3);have HQ3:Hid (Arr w8 wr.heap.size [.int .i64 s.c,.int .i64 s.r,.int .i64 s.cs,.int .i64 s.rs] 135):=zH (Arr.grown HQD.out hg3 (by simpa using hqb));have r1:=HQ3.out.cell (j:=1) rfl;have r3:=HQ3.out.cell (j:=3) rfl;have r4:=HT3.out.base.ms.cell HKV.out;have r5:=HT3.out.base.ms.cell HCK.out;have r6:=SlRc.w HT3.out.rc HRR.out;have HX2:=zH ((HT3.out.put (by omega) HNE1.out HNE2.out HPL2.out ⟨s.r,s.rs,hi k r.w⟩).to (partZ_set HLA.out));have l7:=HQ3.out.lt;obtain⟨z0,z1,z2⟩:=HT3.out.ar.at HPG.out;have f0:=HT3.out.ar.froz (d*3);have f1:=HT3.out.ar.froz (d*3+1);have f2:=HT3.out.ar.froz (d*3+2);have l8:=HT3.out.ar.lt;clear hg3 hM3)))
       all_goals
        clear z0 z1 z2 f0 f1 f2 r1 r3 HT3 HQ3
        go_wp2
        go_roundw
        case rel=>exact⟨d+1,by first|rfl|go_num,by omega,by first|exact HX2.out|exact HX2.out.below (Below.drew (Below.refl _ _))⟩
        case measure=>simp [intOf]<;>omega
      ·have hlt3I:decide ((d:Int)<(a:Int))=false:=decide_eq_false (by omega)
       obtain rfl:d=a:=by omega
       have hfull:partZ ned0 L d=L:=partZ_full HLN.out.symm
       have hTT:=HT.out
       rw [hfull] at hTT
       have c4:=hTT.base.ms.cell HGP.out
       have HTT:=zH hTT
       have hmk2:=mk_items b hm4
       have hsi:=ArrT.sl (ArrT.made wr b) (by rw [List.length_replicate];omega) b
       rw [List.length_replicate] at hsi
       have hTD:=hTT.below (Below.drew (Below.alloc (Below.refl _ _) (Nat.le_refl _) (.cells (madeCells #[.int .i8 0,.int .i64 0,.int .i64 0,.int .i64 0,.int .i64 0] (b*5)) 40)))
       have hsn:=ArrN.sl hTD.ar (by rw [HLN.out];omega) d
       rw [HLN.out] at hsn
       have HTK:=zH (tracks_any (w:=(wr.alloc (.cells (madeCells #[.int .i8 0,.int .i64 0,.int .i64 0,.int .i64 0,.int .i64 0] (b*5)) 40)).drew) (hsi.below (Below.drew (Below.refl _ _))) (by rw [List.length_replicate];exact hm4) hsn (by rw [HLN.out];exact hl) 4096 gap)
       have HTD:=zH hTD
       clear hfull hTT HT hsi hTD hsn
       go_upto_region 21 with (fail)
       go_region_with (go_at_call 98;((with_reducible refine(HTK.out).mono ?_);rintro e1' w9 ⟨v9,rfl,hb9,hs9⟩;have HM9:=zH (HTD.out.base.ms.below hb9);have HS9:=zH hs9;clear hb9 hs9))
       all_goals
        go_wp2
        go_ret
        rw [HR.out]
        exact⟨v9,rfl,HM9.out.gr,HM9.out.mg,HS9.out⟩
end Go.Proofs.YtlenbcmgjancmaaGreatDoor
namespace Go.Proofs.YtlenbcmgjancmaaGreatDoor
open Go.RowKit Go.Maps
abbrev GrS (w:World) (p:MP) (n:Nat) (gap:Int) (cv:Value) (W:World):Prop :=
 W.cell? ⟨p.g,n*34+14,none⟩=some (.int .i64 gap)∧W.cell? ⟨p.g,n*34+28,none⟩=some cv∧MS p w W
theorem GrS.drew {w:World} {p:MP} {n:Nat} {gap:Int} {cv:Value} {W:World} (h:GrS w p n gap cv W):GrS w p n gap cv W.drew:=⟨h.1,h.2.1,h.2.2.drew⟩
set_option maxRecDepth 100000 in
set_option maxHeartbeats 4000000 in
theorem grid_least (p:MP) (w:World) (M:MG p w) (n:Nat) (x:ND) (hn:p.ns[n]?=some x) (hl:x.kids.length≤4096) (hk:KidsIn p x.kids) (hc:x.cols.length≤64) (hgp:0≤x.gap∧x.gap≤4096) (nv:Int) (h:Int→Int)
  (HC:∀ k ∈ x.kids,∀ W,MS p w W→Calls Tryz.prog 40 #[.pointer (some ⟨p.pm,0,none⟩),.int .i64 k] W (GPost (h k) p W)) :
  Calls Tryz.prog 55 #[.pointer (some ⟨p.pm,0,none⟩),.pointer (some ⟨p.g,n*34,none⟩),.int .i64 nv] w (GPost (sumS (tracksM p.ns x (x.cols.map autoI) h 4096) x.gap) p w):=by
 obtain⟨kv,cv,hnd,hkv,hcv⟩:=M.node hn
 obtain⟨gap,hgap⟩:∃ gap,x.gap=gap:=⟨_,rfl⟩
 have s1:w.cell? ⟨p.g,n*34+14,none⟩=some (.int .i64 gap):=by rw [← hgap];exact hnd.gap
 have s2:=hnd.cols
 have s3:MS p w w:=MS.start M
 rw [hgap] at hgp ⊢
 have HS0:Hid (GrS w p n gap cv w.drew):=zH (GrS.drew ⟨s1,s2,s3⟩)
 have HAU:=zH (auto_any (w:=w.drew) (hcv.below (Below.drew (Below.refl _ _))) (by omega))
 have HTR:=zH (fun W (hW:MS p w W) v hv=>tracks_gen p W hW.mg n x hn hl hk hc v (x.cols.map autoI) hv (by rw [List.length_map];omega) 40 #[.pointer (some ⟨p.pm,0,none⟩)] #[] (fun _ _=>by kernel_rfl) 4096 h
  (fun k hkm V hV=>HC k hkm V ⟨M,World.grownBy.trans hW.gr hV.gr,hV.mg⟩))
 have hnr:=tracksG_near (items:=x.cols.map autoI) (by rw [List.length_map];omega) (List.zipWith (fun (s:Spn) k=>(⟨s.c,s.cs,h k⟩:Ned)) (placesM p.ns x) x.kids) 4096 x.gap
 change (tracksM p.ns x (x.cols.map autoI) h 4096).length≤4096∧∀ z ∈ tracksM p.ns x (x.cols.map autoI) h 4096,_ at hnr
 generalize tracksM p.ns x (x.cols.map autoI) h 4096=L at HTR hnr ⊢
 generalize x.cols.map autoI=IL at HAU HTR
 have HNR:=zH hnr
 have lg:=M.lg hn
 have HSG:=zH s1
 have HSC:=zH s2
 clear hnd hkv M hn hl HC hgap hcv hk hc hnr
 go_enter Tryz.func55,Tryz.ntmps55
 go_upto_region 1 with (fail)
 go_region_held3 (fun W=>W.cell? ⟨p.g,n*34+14,none⟩=some (.int .i64 gap)∧W.cell? ⟨p.g,n*34+28,none⟩=some cv∧MS p w W)
  ((first|(refine GrS.drew ?_;(refine⟨?_,?_,?_⟩<;>assumption))|(refine⟨?_,?_,?_⟩<;>assumption)))
  (first|(go_at_call 57;((with_reducible refine HAU.out.mono ?_);rintro e1' w5 ⟨v5,rfl,hb5,hs5⟩;have HM5:Hid (MS p w w5):=zH (HS0.out.2.2.below hb5);have u1:=HM5.out.cell HSG.out;have u2:=HM5.out.cell HSC.out;have u3:=HM5.out;have HTC:=zH (HTR.out w5 HM5.out v5 hs5);clear hb5 hs5))|(go_at_call 56;((with_reducible refine HTC.out.mono ?_);rintro e1' w6 ⟨v6,rfl,hg6,hM6,hs6⟩;have HM6:Hid (MS p w w6):=zH (HM5.out.calls hg6 hM6);have t1:=HM6.out.cell HSG.out;have t2:=HM6.out.cell HSC.out;have t3:=HM6.out;have HSM:=zH (sum_near _ L gap w6 hs6 hgp HNR.out.1 HNR.out.2);clear hg6 hM6 hs6))|(go_at_call 44;((with_reducible refine HSM.out.mono ?_);rintro e1' w7 ⟨rfl,hw7⟩;obtain rfl:=hw7.symm)))
 all_goals
  go_wp2
  go_ret
  exact⟨rfl,HM6.out.gr,HM6.out.mg⟩
set_option maxRecDepth 100000 in
set_option maxHeartbeats 4000000 in
theorem grid_most (p:MP) (w:World) (M:MG p w) (n:Nat) (x:ND) (hn:p.ns[n]?=some x) (hl:x.kids.length≤4096) (hk:KidsIn p x.kids) (hc:x.cols.length≤64) (hgp:0≤x.gap∧x.gap≤4096) (nv:Int) (h:Int→Int)
  (HC:∀ k ∈ x.kids,∀ W,MS p w W→Calls Tryz.prog 41 #[.pointer (some ⟨p.pm,0,none⟩),.int .i64 k] W (GPost (h k) p W)) :
  Calls Tryz.prog 58 #[.pointer (some ⟨p.pm,0,none⟩),.pointer (some ⟨p.g,n*34,none⟩),.int .i64 nv] w (GPost (sumS (tracksM p.ns x (x.cols.map autoI) h 4096) x.gap) p w):=by
 obtain⟨kv,cv,hnd,hkv,hcv⟩:=M.node hn
 obtain⟨gap,hgap⟩:∃ gap,x.gap=gap:=⟨_,rfl⟩
 have s1:w.cell? ⟨p.g,n*34+14,none⟩=some (.int .i64 gap):=by rw [← hgap];exact hnd.gap
 have s2:=hnd.cols
 have s3:MS p w w:=MS.start M
 rw [hgap] at hgp ⊢
 have HS0:Hid (GrS w p n gap cv w.drew):=zH (GrS.drew ⟨s1,s2,s3⟩)
 have HAU:=zH (auto_any (w:=w.drew) (hcv.below (Below.drew (Below.refl _ _))) (by omega))
 have HTR:=zH (fun W (hW:MS p w W) v hv=>tracks_gen p W hW.mg n x hn hl hk hc v (x.cols.map autoI) hv (by rw [List.length_map];omega) 41 #[.pointer (some ⟨p.pm,0,none⟩)] #[] (fun _ _=>by kernel_rfl) 4096 h
  (fun k hkm V hV=>HC k hkm V ⟨M,World.grownBy.trans hW.gr hV.gr,hV.mg⟩))
 have hnr:=tracksG_near (items:=x.cols.map autoI) (by rw [List.length_map];omega) (List.zipWith (fun (s:Spn) k=>(⟨s.c,s.cs,h k⟩:Ned)) (placesM p.ns x) x.kids) 4096 x.gap
 change (tracksM p.ns x (x.cols.map autoI) h 4096).length≤4096∧∀ z ∈ tracksM p.ns x (x.cols.map autoI) h 4096,_ at hnr
 generalize tracksM p.ns x (x.cols.map autoI) h 4096=L at HTR hnr ⊢
 generalize x.cols.map autoI=IL at HAU HTR
 have HNR:=zH hnr
 have lg:=M.lg hn
 have HSG:=zH s1
 have HSC:=zH s2
 clear hnd hkv M hn hl HC hgap hcv hk hc hnr
 go_enter Tryz.func58,Tryz.ntmps58
 go_upto_region 1 with (fail)
 go_region_held3 (fun W=>W.cell? ⟨p.g,n*34+14,none⟩=some (.int .i64 gap)∧W.cell? ⟨p.g,n*34+28,none⟩=some cv∧MS p w W)
  ((first|(refine GrS.drew ?_;(refine⟨?_,?_,?_⟩<;>assumption))|(refine⟨?_,?_,?_⟩<;>assumption)))
  (first|(go_at_call 57;((with_reducible refine HAU.out.mono ?_);rintro e1' w5 ⟨v5,rfl,hb5,hs5⟩;have HM5:Hid (MS p w w5):=zH (HS0.out.2.2.below hb5);have u1:=HM5.out.cell HSG.out;have u2:=HM5.out.cell HSC.out;have u3:=HM5.out;have HTC:=zH (HTR.out w5 HM5.out v5 hs5);clear hb5 hs5))|(go_at_call 56;((with_reducible refine HTC.out.mono ?_);rintro e1' w6 ⟨v6,rfl,hg6,hM6,hs6⟩;have HM6:Hid (MS p w w6):=zH (HM5.out.calls hg6 hM6);have t1:=HM6.out.cell HSG.out;have t2:=HM6.out.cell HSC.out;have t3:=HM6.out;have HSM:=zH (sum_near _ L gap w6 hs6 hgp HNR.out.1 HNR.out.2);clear hg6 hM6 hs6))|(go_at_call 44;((with_reducible refine HSM.out.mono ?_);rintro e1' w7 ⟨rfl,hw7⟩;obtain rfl:=hw7.symm)))
 all_goals
  go_wp2
  go_ret
  exact⟨rfl,HM6.out.gr,HM6.out.mg⟩
set_option maxRecDepth 100000 in
set_option maxHeartbeats 4000000 in
theorem grid_tall (p:MP) (w:World) (M:MG p w) (n:Nat) (x:ND) (hn:p.ns[n]?=some x) (hl:x.kids.length≤4096) (hk:KidsIn p x.kids) (hc:x.cols.length≤64) (hgp:0≤x.gap∧x.gap≤4096) (nv iw:Int) (m:Int→Int) (hi:Int→Int→Int)
  (HMW:∀ k ∈ x.kids,∀ W,MS p w W→Calls Tryz.prog 41 #[.pointer (some ⟨p.pm,0,none⟩),.int .i64 k] W (GPost (m k) p W))
  (HHI:∀ k ∈ x.kids,∀ z:Int,-1000000000≤z∧z≤1000000000→∀ W,MS p w W→Calls Tryz.prog 46 #[.pointer (some ⟨p.pm,0,none⟩),.int .i64 k,.int .i64 z] W (GPost (hi k z) p W)) :
  Calls Tryz.prog 59 #[.pointer (some ⟨p.pm,0,none⟩),.pointer (some ⟨p.g,n*34,none⟩),.int .i64 nv,.int .i64 iw] w (GPost (sumS (rowsG p.ns x m hi iw) x.gap) p w):=by
 obtain⟨kv,cv,hnd,hkv,hcv⟩:=M.node hn
 obtain⟨gap,hgap⟩:∃ gap,x.gap=gap:=⟨_,rfl⟩
 have s1:w.cell? ⟨p.g,n*34+14,none⟩=some (.int .i64 gap):=by rw [← hgap];exact hnd.gap
 have s2:MS p w w:=MS.start M
 have hgp2:=hgp
 rw [hgap] at hgp ⊢
 have HS0:Hid (GpS w p n gap w.drew):=zH (GpS.drew ⟨s1,s2⟩)
 have HRO:=zH (rows_gen p w.drew HS0.out.2.mg n x hn hl hk hc hgp2 iw m hi (fun k hkm V hV=>HMW k hkm V ⟨M,World.grownBy.trans HS0.out.2.gr hV.gr,hV.mg⟩) (fun k hkm z hz V hV=>HHI k hkm z hz V ⟨M,World.grownBy.trans HS0.out.2.gr hV.gr,hV.mg⟩))
 have hmr:=manyS_range (placesM p.ns x) 0 (by omega)
 have hnr:(rowsG p.ns x m hi iw).length≤4096∧∀ z ∈ rowsG p.ns x m hi iw,-34359738368≤z∧z≤34359738368:=by
  unfold rowsG
  exact tracksG_near (by rw [List.length_replicate];omega) _ _ _
 generalize rowsG p.ns x m hi iw=L at HRO hnr ⊢
 have HNR:=zH hnr
 have lg:=M.lg hn
 have HSG:=zH s1
 clear hnd hkv M hn hl HMW HHI hgap hcv hk hc hnr hgp2 hmr
 go_enter Tryz.func59,Tryz.ntmps59
 go_upto_region 1 with (fail)
 go_region_held3 (fun W=>W.cell? ⟨p.g,n*34+14,none⟩=some (.int .i64 gap)∧MS p w W)
  ((first|(refine GpS.drew ?_;(refine⟨?_,?_⟩<;>assumption))|(refine⟨?_,?_⟩<;>assumption)))
  (first|(go_at_call 60;((with_reducible refine HRO.out.mono ?_);rintro e1' w6 ⟨v6,rfl,hg6,hM6,hs6⟩;have HM6:Hid (MS p w w6):=zH (HS0.out.2.calls hg6 hM6);have t1:=HM6.out.cell HSG.out;have t3:=HM6.out;have HSM:=zH (sum_near _ L gap w6 hs6 hgp HNR.out.1 HNR.out.2);clear hg6 hM6 hs6))|(go_at_call 44;((with_reducible refine HSM.out.mono ?_);rintro e1' w7 ⟨rfl,hw7⟩;obtain rfl:=hw7.symm)))
 all_goals
  go_wp2
  go_ret
  exact⟨rfl,HM6.out.gr,HM6.out.mg⟩
end Go.Proofs.YtlenbcmgjancmaaGreatDoor
namespace Go.Proofs.YtlenbcmgjancmaaGreatDoor
open Go.RowKit Go.Maps
abbrev CSg (w:World) (p:MP) (b1 b2 n q r:Nat) (fn:Value) (W:World):Prop :=
 W.cell? ⟨b1,0,none⟩=some (.pointer (some ⟨p.pm,0,none⟩))∧W.cell? ⟨b2,0,none⟩=some (.int .i64 n)∧W.cell? ⟨p.pm,1,none⟩=some (.slice (some ⟨p.bk,0,none⟩) 12 12)∧W.cell? ⟨p.g,n*34,none⟩=some (.int .i8 q)∧W.cell? ⟨p.bk,r,none⟩=some fn∧MS p w W
theorem CSg.drew {w:World} {p:MP} {b1 b2 n q r:Nat} {fn:Value} {W:World} (h:CSg w p b1 b2 n q r fn W):CSg w p b1 b2 n q r fn W.drew:=⟨h.1,h.2.1,h.2.2.1,h.2.2.2.1,h.2.2.2.2.1,h.2.2.2.2.2.drew⟩
theorem CSg.to {w:World} {p:MP} {b1 b2 n q r:Nat} {fn:Value} {W:World} (h:CSg w p b1 b2 n q r fn w) (hW:MS p w W):CSg w p b1 b2 n q r fn W:=⟨hW.cell h.1,hW.cell h.2.1,hW.cell h.2.2.1,hW.cell h.2.2.2.1,hW.cell h.2.2.2.2.1,hW⟩
theorem fxS_range {x:ND} (h:FieldsP x):0≤fxS x∧fxS x≤8194:=by unfold fxS lineS;unfold FieldsP at h;split<;>(try split)<;>omega
theorem fyS_range {x:ND} (h:FieldsP x):0≤fyS x∧fyS x≤8194:=by unfold fyS lineS;unfold FieldsP at h;split<;>(try split)<;>omega
set_option maxRecDepth 100000 in
set_option maxHeartbeats 4000000 in
theorem least1_gen (p:MP) (w:World) (M:MG p w) (n:Nat) (x:ND) (hn:p.ns[n]?=some x) (hx:FieldsP x) (q:Nat) (hq:x.kd=(q:Int)) (hq12:q<12) (b1 b2:Nat) (hc1:w.cell? ⟨b1,0,none⟩=some (.pointer (some ⟨p.pm,0,none⟩))) (hc2:w.cell? ⟨b2,0,none⟩=some (.int .i64 n))
  (F:Nat) (cap:Array Value) (hf:∀ args w,(callFunc F args).run Tryz.prog w=.ok (.enter F args) w) (hfn:w.cell? ⟨p.bk,q*3,none⟩=some (.func (.func F) #[] cap)) (v0:Int) (hv0 : -1125899906842624≤v0∧v0≤1125899906842624)
  (HF:∀ W,MS p w W→Calls Tryz.prog F (#[.pointer (some ⟨p.pm,0,none⟩),.pointer (some ⟨p.g,n*34,none⟩),.int .i64 n] ++ cap) W (GPost v0 p W)) :
  Calls Tryz.prog 25 #[.pointer (some ⟨p.g,n*34,none⟩),.pointer (some ⟨b1,0,none⟩),.pointer (some ⟨b2,0,none⟩)] w (GPost (v0+fxS x) p w):=by
 obtain⟨kv,cv,hnd,_,_⟩:=M.node hn
 have hfr:=fxS_range hx
 have HFR:=zH (frame_any w p.g (n*34) x kv cv hnd (by unfold FieldsP at hx;omega) (by unfold FieldsP at hx;omega) (by unfold FieldsP at hx;omega) (by unfold FieldsP at hx;omega))
 generalize fxS x=fx at HFR hfr ⊢
 generalize fyS x=fy at HFR
 have HM:=zH (MS.start M)
 have hkd:=hnd.kd
 rw [hq] at hkd
 have HS0:Hid (CSg w p b1 b2 n q (q*3) (.func (.func F) #[] cap) w):=zH ⟨hc1,hc2,M.c1,hkd,hfn,MS.start M⟩
 have HH:=zH HF
 have hwr:IntKind.i64.wrap (v0+fx)=v0+fx:=IntWalk.i64_in _ (by omega)
 have lg:=M.lg hn
 have hqI:(q:Int)<12:=by omega
 clear HF hn hx M hc1 hc2 hnd hkd hq hfn
 go_enter Tryz.func25,Tryz.ntmps25
 go_upto_region 2 with (go_at_call 24;((with_reducible refine(HFR.out).mono ?_);rintro e1' w2 ⟨rfl,hb2⟩))
 have HM2:Hid (MS p w w2):=zH (HM.out.below hb2)
 have S1:=HS0.out.to HM2.out
 have HCALL:=zH (HH.out w2.drew HM2.out.drew)
 have HSK:Hid (∀ W,MS p w W→CSg w p b1 b2 n q (q*3) (.func (.func F) #[] cap) W):=zH fun W hW=>HS0.out.to hW
 clear HS0 HH HFR hb2
 obtain⟨s1,s2,s3,s4,s5,s6⟩:=S1
 have l1:=World.block_lt_of_cell? w2 _ s1
 have l2:=World.block_lt_of_cell? w2 _ s2
 have l3:=World.block_lt_of_cell? w2 _ s3
 have l4:=World.block_lt_of_cell? w2 _ s4
 have l5:=World.block_lt_of_cell? w2 _ s5
 go_region_held3 (fun W=>W.cell? ⟨b1,0,none⟩=some (.pointer (some ⟨p.pm,0,none⟩))∧W.cell? ⟨b2,0,none⟩=some (.int .i64 n)∧W.cell? ⟨p.pm,1,none⟩=some (.slice (some ⟨p.bk,0,none⟩) 12 12)∧W.cell? ⟨p.g,n*34,none⟩=some (.int .i8 q)∧W.cell? ⟨p.bk,q*3,none⟩=some (.func (.func F) #[] cap)∧MS p w W)
  ((first|(refine CSg.drew ?_;(refine⟨?_,?_,?_,?_,?_,?_⟩<;>assumption))|(refine⟨?_,?_,?_,?_,?_,?_⟩<;>assumption)))
  (first|((with_reducible refine HCALL.out.mono ?_);rintro e1' w3 ⟨rfl,hg3,hM3⟩;have HM3:Hid (MS p w w3):=zH (HM2.out.drew.calls hg3 hM3);obtain⟨u1,u2,u3,u4,u5,u6⟩:=HSK.out _ HM3.out))
 all_goals
  go_wp2
  go_ret
  exact⟨rfl,HM3.out.gr,HM3.out.mg⟩
set_option maxRecDepth 100000 in
set_option maxHeartbeats 4000000 in
theorem most1_gen (p:MP) (w:World) (M:MG p w) (n:Nat) (x:ND) (hn:p.ns[n]?=some x) (hx:FieldsP x) (q:Nat) (hq:x.kd=(q:Int)) (hq12:q<12) (b1 b2:Nat) (hc1:w.cell? ⟨b1,0,none⟩=some (.pointer (some ⟨p.pm,0,none⟩))) (hc2:w.cell? ⟨b2,0,none⟩=some (.int .i64 n))
  (F:Nat) (cap:Array Value) (hf:∀ args w,(callFunc F args).run Tryz.prog w=.ok (.enter F args) w) (hfn:w.cell? ⟨p.bk,q*3+1,none⟩=some (.func (.func F) #[] cap)) (v0:Int) (hv0 : -1125899906842624≤v0∧v0≤1125899906842624)
  (HF:∀ W,MS p w W→Calls Tryz.prog F (#[.pointer (some ⟨p.pm,0,none⟩),.pointer (some ⟨p.g,n*34,none⟩),.int .i64 n] ++ cap) W (GPost v0 p W)) :
  Calls Tryz.prog 26 #[.pointer (some ⟨p.g,n*34,none⟩),.pointer (some ⟨b1,0,none⟩),.pointer (some ⟨b2,0,none⟩)] w (GPost (v0+fxS x) p w):=by
 obtain⟨kv,cv,hnd,_,_⟩:=M.node hn
 have hfr:=fxS_range hx
 have HFR:=zH (frame_any w p.g (n*34) x kv cv hnd (by unfold FieldsP at hx;omega) (by unfold FieldsP at hx;omega) (by unfold FieldsP at hx;omega) (by unfold FieldsP at hx;omega))
 generalize fxS x=fx at HFR hfr ⊢
 generalize fyS x=fy at HFR
 have HM:=zH (MS.start M)
 have hkd:=hnd.kd
 rw [hq] at hkd
 have HS0:Hid (CSg w p b1 b2 n q (q*3+1) (.func (.func F) #[] cap) w):=zH ⟨hc1,hc2,M.c1,hkd,hfn,MS.start M⟩
 have HH:=zH HF
 have hwr:IntKind.i64.wrap (v0+fx)=v0+fx:=IntWalk.i64_in _ (by omega)
 have lg:=M.lg hn
 have hqI:(q:Int)<12:=by omega
 clear HF hn hx M hc1 hc2 hnd hkd hq hfn
 go_enter Tryz.func26,Tryz.ntmps26
 go_upto_region 2 with (go_at_call 24;((with_reducible refine(HFR.out).mono ?_);rintro e1' w2 ⟨rfl,hb2⟩))
 have HM2:Hid (MS p w w2):=zH (HM.out.below hb2)
 have S1:=HS0.out.to HM2.out
 have HCALL:=zH (HH.out w2.drew HM2.out.drew)
 have HSK:Hid (∀ W,MS p w W→CSg w p b1 b2 n q (q*3+1) (.func (.func F) #[] cap) W):=zH fun W hW=>HS0.out.to hW
 clear HS0 HH HFR hb2
 obtain⟨s1,s2,s3,s4,s5,s6⟩:=S1
 have l1:=World.block_lt_of_cell? w2 _ s1
 have l2:=World.block_lt_of_cell? w2 _ s2
 have l3:=World.block_lt_of_cell? w2 _ s3
 have l4:=World.block_lt_of_cell? w2 _ s4
 have l5:=World.block_lt_of_cell? w2 _ s5
 go_region_held3 (fun W=>W.cell? ⟨b1,0,none⟩=some (.pointer (some ⟨p.pm,0,none⟩))∧W.cell? ⟨b2,0,none⟩=some (.int .i64 n)∧W.cell? ⟨p.pm,1,none⟩=some (.slice (some ⟨p.bk,0,none⟩) 12 12)∧W.cell? ⟨p.g,n*34,none⟩=some (.int .i8 q)∧W.cell? ⟨p.bk,q*3+1,none⟩=some (.func (.func F) #[] cap)∧MS p w W)
  ((first|(refine CSg.drew ?_;(refine⟨?_,?_,?_,?_,?_,?_⟩<;>assumption))|(refine⟨?_,?_,?_,?_,?_,?_⟩<;>assumption)))
  (first|((with_reducible refine HCALL.out.mono ?_);rintro e1' w3 ⟨rfl,hg3,hM3⟩;have HM3:Hid (MS p w w3):=zH (HM2.out.drew.calls hg3 hM3);obtain⟨u1,u2,u3,u4,u5,u6⟩:=HSK.out _ HM3.out))
 all_goals
  go_wp2
  go_ret
  exact⟨rfl,HM3.out.gr,HM3.out.mg⟩
end Go.Proofs.YtlenbcmgjancmaaGreatDoor
