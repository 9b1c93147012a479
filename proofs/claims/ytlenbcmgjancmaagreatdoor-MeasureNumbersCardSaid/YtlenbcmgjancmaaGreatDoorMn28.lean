import Derived.Test.YtlenbcmgjancmaaGreatDoorMn22
import Derived.Test.YtlenbcmgjancmaaGreatDoorMn21
import Derived.Deep.DeepCutAuto
import Derived.Deep.RegionHeld3
import Derived.IntWalk
import Derived.Test.YtlenbcmgjancmaaGreatDoorMn24
import Derived.Deep.RegionWith
import Derived.Test.YtlenbcmgjancmaaGreatDoorMn27
set_option linter.unusedVariables false
set_option linter.unusedSimpArgs false
namespace Go.Proofs.YtlenbcmgjancmaaGreatDoor
open Go.RowKit Go.Maps
theorem cell_newC (w:World) (cs:Array Value) (t b j:Nat) (hb:b=w.heap.size):(w.alloc (.cells cs t)).cell? ⟨b,j,none⟩=cs[j]?:=by subst hb;exact World.cell?_alloc_new _ _ _ _
abbrev WSg (w:World) (b:Nat) (it:Itm) (p:MP) (W:World):Prop :=
 W.cell? ⟨b,0,none⟩=some (.int .i8 it.k)∧W.cell? ⟨b,1,none⟩=some (.int .i64 it.n)∧W.cell? ⟨b,2,none⟩=some (.int .i64 it.d)∧W.cell? ⟨b,3,none⟩=some (.int .i64 it.mn)∧W.cell? ⟨b,4,none⟩=some (.int .i64 it.mx)∧w.grownBy W (some p.bm)∧MG p W
theorem WSg.call {w:World} {b:Nat} {it:Itm} {p:MP} {W W':World} (h:WSg w b it p W) (hb:b ≠ p.bm) (hg:W.grownBy W' (some p.bm)) (hA:MG p W'):WSg w b it p W' :=
 ⟨hg.cell h.1 (by simpa using hb),hg.cell h.2.1 (by simpa using hb),hg.cell h.2.2.1 (by simpa using hb),hg.cell h.2.2.2.1 (by simpa using hb),hg.cell h.2.2.2.2.1 (by simpa using hb),World.grownBy.trans h.2.2.2.2.2.1 hg,hA⟩
theorem WSg.bel {w:World} {b:Nat} {it:Itm} {p:MP} {W W':World} (h:WSg w b it p W) (hb:b ≠ p.bm) (hg:Below W.heap.size W W'):WSg w b it p W':=h.call hb (grownBy_below hg _) (h.2.2.2.2.2.2.below hg)
theorem WSg.drew {w:World} {b:Nat} {it:Itm} {p:MP} {W:World} (h:WSg w b it p W):WSg w b it p W.drew :=
 ⟨h.1,h.2.1,h.2.2.1,h.2.2.2.1,h.2.2.2.2.1,World.grownBy.trans h.2.2.2.2.2.1 (grownBy_drew _ _),h.2.2.2.2.2.2.below (Below.drew (Below.refl _ _))⟩
theorem WSg.ms {w:World} {b:Nat} {it:Itm} {p:MP} {W:World} (h:WSg w b it p W) (hM:MG p w):MS p w W:=⟨hM,h.2.2.2.2.2.1,h.2.2.2.2.2.2⟩
theorem MG.node {p:MP} {w:World} (M:MG p w) {k:Nat} {x:ND} (hk:p.ns[k]?=some x):∃ kv cv,NodeV w p.g (k*34) x kv cv∧SlI w kv x.kids∧SlT w cv x.cols:=by
 obtain⟨g,o,e,hg,kv,cv,h1,h2,h3⟩:=M.nd k x hk
 obtain⟨rfl,rfl⟩:p.g=g∧0=o:=by simpa using e
 rw [Nat.zero_add] at h1
 exact⟨kv,cv,h1,h2,h3⟩
theorem MG.lg {p:MP} {w:World} (M:MG p w) {k:Nat} {x:ND} (hk:p.ns[k]?=some x):p.g<w.heap.size:=by
 obtain⟨kv,cv,h1,_⟩:=M.node hk
 exact h1.lt
set_option maxRecDepth 100000 in
set_option maxHeartbeats 4000000 in
theorem wish_gen (p:MP) (w:World) (M:MG p w) (k:Nat) (x:ND) (hk:p.ns[k]?=some x) (F:Nat) (pre cap:Array Value) (hf:∀ args w,(callFunc F args).run Tryz.prog w=.ok (.enter F args) w) (v:Int) (hv:0≤v∧v≤4096)
  (HC:∀ W,MS p w W→Calls Tryz.prog F (pre.push (.int .i64 k) ++ cap) W (GPost v p W)) :
  Calls Tryz.prog 94 #[.pointer (some ⟨p.pm,0,none⟩),.int .i64 k,.func (.func F) pre cap] w (GPost (wishS x.wd v) p w):=by
 have c0:=M.c0
 obtain⟨kv,cv,hnd,_,_⟩:=M.node hk
 have y0:=hnd.w0
 have y1:=hnd.w1
 have y2:=hnd.w2
 have y3:=hnd.w3
 have y4:=hnd.w4
 clear hnd
 have lg:=M.lg hk
 have lp:=M.lp
 have hklt:k<p.ns.length:=(List.getElem?_eq_some_iff.1 hk).1
 have hbm:w.heap.size ≠ p.bm:=Nat.ne_of_gt M.lm
 have HI:=zH fun n W=>into_any n x.wd W
 unfold Itm.val at HI
 have HLL:=zH HC
 have HM:=zH M
 obtain⟨it,hit⟩:∃ it,x.wd=it:=⟨_,rfl⟩
 rw [hit] at y0 y1 y2 y3 y4 HI ⊢
 clear HC M hk hit
 by_cases hk1:it.k=1
 ·go_enter Tryz.func94,Tryz.ntmps94
  have HS0:Hid (MG p (w.alloc (.cells #[.int .i8 1,.int .i64 it.n,.int .i64 it.d,.int .i64 it.mn,.int .i64 it.mx] 40))):=zH (HM.out.below (Below.alloc (Below.refl _ _) (Nat.le_refl _) _))
  rw [hk1] at y0 HI
  have HK:=zH hk1
  clear hk1
  go_wp2_with (go_at_call 95;((with_reducible refine(HI.out _ _).mono ?_);rintro e1' w6 ⟨rfl,hb6⟩))
  go_ret
  exact⟨by unfold wishS;rw [if_pos HK.out];rfl,World.grownBy.trans (World.grownBy_alloc _ _ _) (grownBy_below hb6 _),HS0.out.below hb6⟩
 ·have hk0:(it.k == 1)=false:=by rw [beq_eq_false_iff_ne];exact hk1
  have HK:=zH hk1
  clear hk1
  go_enter Tryz.func94,Tryz.ntmps94
  go_upto_region 4 with (fail)
  have S0:WSg w w.heap.size it p (w.alloc (.cells #[.int .i8 it.k,.int .i64 it.n,.int .i64 it.d,.int .i64 it.mn,.int .i64 it.mx] 40)):=⟨cell_newC _ _ _ _ _ rfl,cell_newC _ _ _ _ _ rfl,cell_newC _ _ _ _ _ rfl,cell_newC _ _ _ _ _ rfl,cell_newC _ _ _ _ _ rfl,World.grownBy_alloc _ _ _,HM.out.below (Below.alloc (Below.refl _ _) (Nat.le_refl _) _)⟩
  have hlt:w.heap.size<(w.alloc (.cells #[.int .i8 it.k,.int .i64 it.n,.int .i64 it.d,.int .i64 it.mn,.int .i64 it.mx] 40)).heap.size:=by simp
  generalize w.alloc (.cells #[.int .i8 it.k,.int .i64 it.n,.int .i64 it.d,.int .i64 it.mn,.int .i64 it.mx] 40)=w1 at S0 hlt ⊢
  have HS0:=zH S0.drew
  have HCALL:=zH (HLL.out w1.drew (S0.drew.ms HM.out))
  obtain⟨s0,s1,s2,s3,s4,s5,s6⟩:=S0
  clear c0 y0 y1 y2 y3 y4 HLL HM lg lp
  go_region_held3 (fun W'=>W'.cell? ⟨w.heap.size,0,none⟩=some (.int .i8 it.k)∧W'.cell? ⟨w.heap.size,1,none⟩=some (.int .i64 it.n)∧W'.cell? ⟨w.heap.size,2,none⟩=some (.int .i64 it.d)∧W'.cell? ⟨w.heap.size,3,none⟩=some (.int .i64 it.mn)∧W'.cell? ⟨w.heap.size,4,none⟩=some (.int .i64 it.mx)∧w.grownBy W' (some p.bm)∧MG p W')
   ((first|(refine WSg.drew ?_;(refine⟨?_,?_,?_,?_,?_,?_,?_⟩<;>assumption))|(refine⟨?_,?_,?_,?_,?_,?_,?_⟩<;>assumption)))
   (first|(go_at_call 95;((with_reducible refine(HI.out _ _).mono ?_);rintro e1' w6 ⟨rfl,hb6⟩;have HS6:=zH (WSg.bel HS5.out hbm hb6);obtain⟨v0,v1,v2,v3,v4,v5,v6⟩:=HS6.out))|((with_reducible refine HCALL.out.mono ?_);rintro e1' w5 ⟨rfl,hg5,hA5⟩;have HS5:=zH (WSg.call HS0.out hbm hg5 hA5);obtain⟨u0,u1,u2,u3,u4,u5,u6⟩:=HS5.out;have hl5:w.heap.size<w5.heap.size:=Nat.lt_of_lt_of_le hlt hg5.size))
  all_goals
   go_wp2
   go_ret
   exact⟨by unfold wishS;rw [if_neg HK.out];rfl,HS6.out.2.2.2.2.2.1,HS6.out.2.2.2.2.2.2⟩
set_option maxRecDepth 100000 in
set_option maxHeartbeats 4000000 in
theorem high_gen (p:MP) (w:World) (M:MG p w) (k:Nat) (x:ND) (hk:p.ns[k]?=some x) (z:Int) (v:Int) (hv:0≤v∧v≤4096)
  (HC:∀ W,MS p w W→Calls Tryz.prog 10 #[.pointer (some ⟨p.pm,0,none⟩),.int .i64 k,.int .i64 z] W (GPost v p W)) :
  Calls Tryz.prog 46 #[.pointer (some ⟨p.pm,0,none⟩),.int .i64 k,.int .i64 z] w (GPost (wishS x.ht v) p w):=by
 have c0:=M.c0
 obtain⟨kv,cv,hnd,_,_⟩:=M.node hk
 have y0:=hnd.h0
 have y1:=hnd.h1
 have y2:=hnd.h2
 have y3:=hnd.h3
 have y4:=hnd.h4
 clear hnd
 have lg:=M.lg hk
 have lp:=M.lp
 have hklt:k<p.ns.length:=(List.getElem?_eq_some_iff.1 hk).1
 have hbm:w.heap.size ≠ p.bm:=Nat.ne_of_gt M.lm
 have HI:=zH fun n W=>into_any n x.ht W
 unfold Itm.val at HI
 have HLL:=zH HC
 have HM:=zH M
 obtain⟨it,hit⟩:∃ it,x.ht=it:=⟨_,rfl⟩
 rw [hit] at y0 y1 y2 y3 y4 HI ⊢
 clear HC M hk hit
 by_cases hk1:it.k=1
 ·go_enter Tryz.func46,Tryz.ntmps46
  have HS0:Hid (MG p (w.alloc (.cells #[.int .i8 1,.int .i64 it.n,.int .i64 it.d,.int .i64 it.mn,.int .i64 it.mx] 40))):=zH (HM.out.below (Below.alloc (Below.refl _ _) (Nat.le_refl _) _))
  rw [hk1] at y0 HI
  have HK:=zH hk1
  clear hk1
  go_wp2_with (go_at_call 95;((with_reducible refine(HI.out _ _).mono ?_);rintro e1' w6 ⟨rfl,hb6⟩))
  go_ret
  exact⟨by unfold wishS;rw [if_pos HK.out];rfl,World.grownBy.trans (World.grownBy_alloc _ _ _) (grownBy_below hb6 _),HS0.out.below hb6⟩
 ·have hk0:(it.k == 1)=false:=by rw [beq_eq_false_iff_ne];exact hk1
  have HK:=zH hk1
  clear hk1
  go_enter Tryz.func46,Tryz.ntmps46
  go_upto_region 4 with (fail)
  have S0:WSg w w.heap.size it p (w.alloc (.cells #[.int .i8 it.k,.int .i64 it.n,.int .i64 it.d,.int .i64 it.mn,.int .i64 it.mx] 40)):=⟨cell_newC _ _ _ _ _ rfl,cell_newC _ _ _ _ _ rfl,cell_newC _ _ _ _ _ rfl,cell_newC _ _ _ _ _ rfl,cell_newC _ _ _ _ _ rfl,World.grownBy_alloc _ _ _,HM.out.below (Below.alloc (Below.refl _ _) (Nat.le_refl _) _)⟩
  have hlt:w.heap.size<(w.alloc (.cells #[.int .i8 it.k,.int .i64 it.n,.int .i64 it.d,.int .i64 it.mn,.int .i64 it.mx] 40)).heap.size:=by simp
  generalize w.alloc (.cells #[.int .i8 it.k,.int .i64 it.n,.int .i64 it.d,.int .i64 it.mn,.int .i64 it.mx] 40)=w1 at S0 hlt ⊢
  have HS0:=zH S0.drew
  have HCALL:=zH (HLL.out w1.drew (S0.drew.ms HM.out))
  obtain⟨s0,s1,s2,s3,s4,s5,s6⟩:=S0
  clear c0 y0 y1 y2 y3 y4 HLL HM lg lp
  go_region_held3 (fun W'=>W'.cell? ⟨w.heap.size,0,none⟩=some (.int .i8 it.k)∧W'.cell? ⟨w.heap.size,1,none⟩=some (.int .i64 it.n)∧W'.cell? ⟨w.heap.size,2,none⟩=some (.int .i64 it.d)∧W'.cell? ⟨w.heap.size,3,none⟩=some (.int .i64 it.mn)∧W'.cell? ⟨w.heap.size,4,none⟩=some (.int .i64 it.mx)∧w.grownBy W' (some p.bm)∧MG p W')
   ((first|(refine WSg.drew ?_;(refine⟨?_,?_,?_,?_,?_,?_,?_⟩<;>assumption))|(refine⟨?_,?_,?_,?_,?_,?_,?_⟩<;>assumption)))
   (first|(go_at_call 95;((with_reducible refine(HI.out _ _).mono ?_);rintro e1' w6 ⟨rfl,hb6⟩;have HS6:=zH (WSg.bel HS5.out hbm hb6);obtain⟨v0,v1,v2,v3,v4,v5,v6⟩:=HS6.out))|((with_reducible refine HCALL.out.mono ?_);rintro e1' w5 ⟨rfl,hg5,hA5⟩;have HS5:=zH (WSg.call HS0.out hbm hg5 hA5);obtain⟨u0,u1,u2,u3,u4,u5,u6⟩:=HS5.out;have hl5:w.heap.size<w5.heap.size:=Nat.lt_of_lt_of_le hlt hg5.size))
  all_goals
   go_wp2
   go_ret
   exact⟨by unfold wishS;rw [if_neg HK.out];rfl,HS6.out.2.2.2.2.2.1,HS6.out.2.2.2.2.2.2⟩
set_option maxRecDepth 100000 in
theorem lw_gen (p:MP) (w:World) (M:MG p w) (k:Nat) (x:ND) (hk:p.ns[k]?=some x) (v:Int) (hv:0≤v∧v≤4096)
  (HC:∀ W,MS p w W→Calls Tryz.prog 11 #[.pointer (some ⟨p.pm,0,none⟩),.int .i64 k] W (GPost v p W)) :
  Calls Tryz.prog 40 #[.pointer (some ⟨p.pm,0,none⟩),.int .i64 k] w (GPost (wishS x.wd v) p w):=by
 have HW:=zH (wish_gen p w M k x hk 11 #[.pointer (some ⟨p.pm,0,none⟩)] #[] (fun _ _=>by kernel_rfl) v hv (fun W hW=>HC W hW))
 clear M HC hk
 go_enter Tryz.func40,Tryz.ntmps40
 go_wp2_with (go_at_call 94;((with_reducible refine HW.out.mono ?_);rintro e1' w2 ⟨rfl,hg2,hA2⟩))
 go_ret
 exact⟨rfl,hg2,hA2⟩
set_option maxRecDepth 100000 in
theorem mw_gen (p:MP) (w:World) (M:MG p w) (k:Nat) (x:ND) (hk:p.ns[k]?=some x) (v:Int) (hv:0≤v∧v≤4096)
  (HC:∀ W,MS p w W→Calls Tryz.prog 12 #[.pointer (some ⟨p.pm,0,none⟩),.int .i64 k] W (GPost v p W)) :
  Calls Tryz.prog 41 #[.pointer (some ⟨p.pm,0,none⟩),.int .i64 k] w (GPost (wishS x.wd v) p w):=by
 have HW:=zH (wish_gen p w M k x hk 12 #[.pointer (some ⟨p.pm,0,none⟩)] #[] (fun _ _=>by kernel_rfl) v hv (fun W hW=>HC W hW))
 clear M HC hk
 go_enter Tryz.func41,Tryz.ntmps41
 go_wp2_with (go_at_call 94;((with_reducible refine HW.out.mono ?_);rintro e1' w2 ⟨rfl,hg2,hA2⟩))
 go_ret
 exact⟨rfl,hg2,hA2⟩
end Go.Proofs.YtlenbcmgjancmaaGreatDoor
namespace Go.Proofs.YtlenbcmgjancmaaGreatDoor
open Go.RowKit Go.Maps
def acrossI (it:Itm) (how iw mw:Int):Int :=
 min (intoS (if it.k=0∧how ≠ 5 then mw else if it.k=1 then it.n else if it.k=2 then it.n*iw / it.d else iw) it) iw
theorem acrossM_eq (ns:List ND) (f:FN) (how iw k:Int):acrossM ns f how iw k=acrossI (ndF ns k).wd how iw (mwS ns f k):=by unfold acrossM acrossW acrossI;rfl
set_option maxRecDepth 100000 in
set_option maxHeartbeats 4000000 in
theorem across_gen (p:MP) (w:World) (M:MG p w) (k:Nat) (x:ND) (hk:p.ns[k]?=some x) (hok:x.wd.ok) (how iw:Int) (hw:0≤iw∧iw≤4096) (v:Int)
  (HC:∀ W,MS p w W→Calls Tryz.prog 41 #[.pointer (some ⟨p.pm,0,none⟩),.int .i64 k] W (GPost v p W)) :
  Calls Tryz.prog 47 #[.pointer (some ⟨p.pm,0,none⟩),.int .i64 k,.int .i8 how,.int .i64 iw] w (GPost (acrossI x.wd how iw v) p w):=by
 have c0:=M.c0
 obtain⟨kv,cv,hnd,_,_⟩:=M.node hk
 have y0:=hnd.w0
 have y1:=hnd.w1
 have y2:=hnd.w2
 have y3:=hnd.w3
 have y4:=hnd.w4
 clear hnd
 have lg:=M.lg hk
 have lp:=M.lp
 have hklt:k<p.ns.length:=(List.getElem?_eq_some_iff.1 hk).1
 have hbm:w.heap.size ≠ p.bm:=Nat.ne_of_gt M.lm
 have HI:=zH fun n W=>into_any n x.wd W
 unfold Itm.val at HI
 have HLL:=zH HC
 have HM:=zH M
 obtain⟨it,hit⟩:∃ it,x.wd=it:=⟨_,rfl⟩
 rw [hit] at y0 y1 y2 y3 y4 HI hok ⊢
 clear HC M hk hit
 have hkr:it.k=0∨it.k=1∨it.k=2∨it.k=3:=by unfold Itm.ok RightP at hok;omega
 have hd2:it.k=2→0≤it.n∧it.n≤1000∧1≤it.d∧it.d≤1000:=by intro h;unfold Itm.ok RightP at hok;omega
 clear hok
 rcases hkr with h0|h0|h0|h0
 ·have hkz:(it.k == 0)=true:=by rw [beq_iff_eq];exact h0
  have hk1:(it.k == 1)=false:=by rw [beq_eq_false_iff_ne];omega
  have hk2:(it.k == 2)=false:=by rw [beq_eq_false_iff_ne];omega
  by_cases h5:how=5
  ·as_aux_lemma=>
    have h5b:(how != 5)=false:=by simp [h5]
    have HK:Hid ((if it.k=0∧how ≠ 5 then v else if it.k=1 then it.n else if it.k=2 then it.n*iw / it.d else iw)=iw):=zH (by rw [if_neg (by omega),if_neg (by omega),if_neg (by omega)])
    have HS0:Hid (MG p (w.alloc (.cells #[.int .i8 it.k,.int .i64 it.n,.int .i64 it.d,.int .i64 it.mn,.int .i64 it.mx] 40))):=zH (HM.out.below (Below.alloc (Below.refl _ _) (Nat.le_refl _) _))
    have HI1:=zH (fun W=>HI.out (iw) W)
    obtain⟨r,hr⟩:∃ r,intoS (iw) it=r:=⟨_,rfl⟩
    rw [hr] at HI1
    have HKR:Hid (min (intoS (if it.k=0∧how ≠ 5 then v else if it.k=1 then it.n else if it.k=2 then it.n*iw / it.d else iw) it) iw=min r iw):=zH (by rw [HK.out,hr])
    clear HK hr HI h0 h5 hd2 HLL
    go_enter Tryz.func47,Tryz.ntmps47
    go_wp2_with (go_at_call 95;((with_reducible refine(HI1.out _).mono ?_);rintro e1' w6 ⟨rfl,hb6⟩))
    go_ret
    exact⟨by unfold acrossI;rw [HKR.out];rfl,World.grownBy.trans (World.grownBy_alloc _ _ _) (grownBy_below hb6 _),HS0.out.below hb6⟩
  ·as_aux_lemma=>
    have h5b:(how != 5)=true:=by simp [h5]
    have HK:Hid ((if it.k=0∧how ≠ 5 then v else if it.k=1 then it.n else if it.k=2 then it.n*iw / it.d else iw)=v):=zH (by rw [if_pos ⟨h0,h5⟩])
    have HS0:Hid (MG p (w.alloc (.cells #[.int .i8 it.k,.int .i64 it.n,.int .i64 it.d,.int .i64 it.mn,.int .i64 it.mx] 40))):=zH (HM.out.below (Below.alloc (Below.refl _ _) (Nat.le_refl _) _))
    have HI1:=zH (fun W=>HI.out (v) W)
    obtain⟨r,hr⟩:∃ r,intoS (v) it=r:=⟨_,rfl⟩
    rw [hr] at HI1
    have HKR:Hid (min (intoS (if it.k=0∧how ≠ 5 then v else if it.k=1 then it.n else if it.k=2 then it.n*iw / it.d else iw) it) iw=min r iw):=zH (by rw [HK.out,hr])
    have S0:WSg w w.heap.size it p (w.alloc (.cells #[.int .i8 it.k,.int .i64 it.n,.int .i64 it.d,.int .i64 it.mn,.int .i64 it.mx] 40)):=⟨cell_newC _ _ _ _ _ rfl,cell_newC _ _ _ _ _ rfl,cell_newC _ _ _ _ _ rfl,cell_newC _ _ _ _ _ rfl,cell_newC _ _ _ _ _ rfl,World.grownBy_alloc _ _ _,HM.out.below (Below.alloc (Below.refl _ _) (Nat.le_refl _) _)⟩
    have HS9:=zH S0
    have HCALL:=zH (HLL.out _ (S0.ms HM.out))
    clear HK hr HI h0 h5 hd2 HLL S0
    go_enter Tryz.func47,Tryz.ntmps47
    go_wp2_with (first|(go_at_call 95;((with_reducible refine(HI1.out _).mono ?_);rintro e1' w6 ⟨rfl,hb6⟩;have HS6:=zH (WSg.bel HS5.out hbm hb6)))|(go_at_call 41;((with_reducible refine HCALL.out.mono ?_);rintro e1' w5 ⟨rfl,hg5,hA5⟩;have HS5:=zH (WSg.call HS9.out hbm hg5 hA5);obtain⟨u0,u1,u2,u3,u4,u5,u6⟩:=HS5.out;have hl5:w.heap.size<w5.heap.size:=Nat.lt_of_lt_of_le (by simp) hg5.size;clear u5 u6)))
    go_ret
    exact⟨by unfold acrossI;rw [HKR.out];rfl,HS6.out.2.2.2.2.2.1,HS6.out.2.2.2.2.2.2⟩
 ·as_aux_lemma=>
  have hkz:(it.k == 0)=false:=by rw [beq_eq_false_iff_ne];omega
  have hk1:(it.k == 1)=true:=by rw [beq_iff_eq];exact h0
  have HK:Hid ((if it.k=0∧how ≠ 5 then v else if it.k=1 then it.n else if it.k=2 then it.n*iw / it.d else iw)=it.n):=zH (by rw [if_neg (by omega),if_pos h0])
  have HS0:Hid (MG p (w.alloc (.cells #[.int .i8 it.k,.int .i64 it.n,.int .i64 it.d,.int .i64 it.mn,.int .i64 it.mx] 40))):=zH (HM.out.below (Below.alloc (Below.refl _ _) (Nat.le_refl _) _))
  have HI1:=zH (fun W=>HI.out (it.n) W)
  obtain⟨r,hr⟩:∃ r,intoS (it.n) it=r:=⟨_,rfl⟩
  rw [hr] at HI1
  have HKR:Hid (min (intoS (if it.k=0∧how ≠ 5 then v else if it.k=1 then it.n else if it.k=2 then it.n*iw / it.d else iw) it) iw=min r iw):=zH (by rw [HK.out,hr])
  clear HK hr HI h0 hd2 HLL
  go_enter Tryz.func47,Tryz.ntmps47
  go_wp2_with (go_at_call 95;((with_reducible refine(HI1.out _).mono ?_);rintro e1' w6 ⟨rfl,hb6⟩))
  go_ret
  exact⟨by unfold acrossI;rw [HKR.out];rfl,World.grownBy.trans (World.grownBy_alloc _ _ _) (grownBy_below hb6 _),HS0.out.below hb6⟩
 ·as_aux_lemma=>
  have hkz:(it.k == 0)=false:=by rw [beq_eq_false_iff_ne];omega
  have hk1:(it.k == 1)=false:=by rw [beq_eq_false_iff_ne];omega
  have hk2:(it.k == 2)=true:=by rw [beq_iff_eq];exact h0
  have HK:Hid ((if it.k=0∧how ≠ 5 then v else if it.k=1 then it.n else if it.k=2 then it.n*iw / it.d else iw)=it.n*iw / it.d):=zH (by rw [if_neg (by omega),if_neg (by omega),if_pos h0])
  have HS0:Hid (MG p (w.alloc (.cells #[.int .i8 it.k,.int .i64 it.n,.int .i64 it.d,.int .i64 it.mn,.int .i64 it.mx] 40))):=zH (HM.out.below (Below.alloc (Below.refl _ _) (Nat.le_refl _) _))
  have HI1:=zH (fun W=>HI.out (it.n*iw / it.d) W)
  obtain⟨r,hr⟩:∃ r,intoS (it.n*iw / it.d) it=r:=⟨_,rfl⟩
  rw [hr] at HI1
  have HKR:Hid (min (intoS (if it.k=0∧how ≠ 5 then v else if it.k=1 then it.n else if it.k=2 then it.n*iw / it.d else iw) it) iw=min r iw):=zH (by rw [HK.out,hr])
  obtain⟨d1,d2,d3,d4⟩:=hd2 h0
  have hm0:0≤it.n*iw:=Int.mul_nonneg d1 hw.1
  have hm1:it.n*iw≤4096000:=Int.le_trans (Int.mul_le_mul_of_nonneg_right d2 hw.1) (by omega)
  obtain⟨X,hX⟩:∃ X,it.n*iw=X:=⟨_,rfl⟩
  rw [hX] at hm0 hm1 HI1
  have hwX:IntKind.i64.wrap X=X:=IntWalk.i64_in _ (by omega)
  have hq:X.tdiv it.d=X / it.d:=Int.tdiv_eq_ediv_of_nonneg hm0
  have hqr:0≤X / it.d∧X / it.d≤X:=⟨Int.ediv_nonneg hm0 (by omega),Int.ediv_le_self _ hm0⟩
  have hdz:(it.d == 0)=false:=by rw [beq_eq_false_iff_ne];omega
  clear HK hr HI h0 hd2 HLL
  go_enter Tryz.func47,Tryz.ntmps47
  go_wp2_with (go_at_call 95;((with_reducible refine(HI1.out _).mono ?_);rintro e1' w6 ⟨rfl,hb6⟩))
  go_ret
  exact⟨by unfold acrossI;rw [HKR.out];rfl,World.grownBy.trans (World.grownBy_alloc _ _ _) (grownBy_below hb6 _),HS0.out.below hb6⟩
 ·as_aux_lemma=>
  have hkz:(it.k == 0)=false:=by rw [beq_eq_false_iff_ne];omega
  have hk1:(it.k == 1)=false:=by rw [beq_eq_false_iff_ne];omega
  have hk2:(it.k == 2)=false:=by rw [beq_eq_false_iff_ne];omega
  have HK:Hid ((if it.k=0∧how ≠ 5 then v else if it.k=1 then it.n else if it.k=2 then it.n*iw / it.d else iw)=iw):=zH (by rw [if_neg (by omega),if_neg (by omega),if_neg (by omega)])
  have HS0:Hid (MG p (w.alloc (.cells #[.int .i8 it.k,.int .i64 it.n,.int .i64 it.d,.int .i64 it.mn,.int .i64 it.mx] 40))):=zH (HM.out.below (Below.alloc (Below.refl _ _) (Nat.le_refl _) _))
  have HI1:=zH (fun W=>HI.out (iw) W)
  obtain⟨r,hr⟩:∃ r,intoS (iw) it=r:=⟨_,rfl⟩
  rw [hr] at HI1
  have HKR:Hid (min (intoS (if it.k=0∧how ≠ 5 then v else if it.k=1 then it.n else if it.k=2 then it.n*iw / it.d else iw) it) iw=min r iw):=zH (by rw [HK.out,hr])
  clear HK hr HI h0 hd2 HLL
  go_enter Tryz.func47,Tryz.ntmps47
  go_wp2_with (go_at_call 95;((with_reducible refine(HI1.out _).mono ?_);rintro e1' w6 ⟨rfl,hb6⟩))
  go_ret
  exact⟨by unfold acrossI;rw [HKR.out];rfl,World.grownBy.trans (World.grownBy_alloc _ _ _) (grownBy_below hb6 _),HS0.out.below hb6⟩
end Go.Proofs.YtlenbcmgjancmaaGreatDoor
namespace Go.Proofs.YtlenbcmgjancmaaGreatDoor
open Go.RowKit Go.Maps
def OutI (l:List Int) (w:World) (e:Ending) (w':World):Prop:=∃ v,e=.returned v∧Below w.heap.size w w'∧SlI w' v l
theorem NewI.out {l:List Int} {w w':World} {e:Ending} (h:NewI l w e w') (hl:l.length≤17592186044416):OutI l w e w':=by
 obtain⟨b,rfl,hb,ha,hB⟩:=h
 exact⟨_,rfl,hB,ArrI.sl ha hl _⟩
set_option maxRecDepth 100000 in
theorem sizes_zero (p:Option Addr) (c:Nat) (ext gap:Int) (W:World):Calls Tryz.prog 96 #[.slice p 0 c,.int .i64 ext,.int .i64 gap] W (OutI [] W):=by
 go_enter Tryz.func96,Tryz.ntmps96
 go_wp2
 go_ret
 exact⟨_,rfl,Below.refl _ _,none,0,rfl,by simp,fun i x h=>by simp at h⟩
end Go.Proofs.YtlenbcmgjancmaaGreatDoor
namespace Go.Proofs.YtlenbcmgjancmaaGreatDoor
open Go.RowKit
theorem bump_near (is:List Int):∀ (out:List Int) (B:Int),(∀ x ∈ out,0≤x∧x≤B)→∀ x ∈ bump out is,0≤x∧x≤B+is.length:=by
 induction is with
 |nil=>intro out B h x hx;have:=h x hx;simp;omega
 |cons i is ih=>
  intro out B h x hx
  simp only [bump] at hx
  have:=ih (out.set i.toNat (gd out i.toNat+1)) (B+1) (fun y hy=>by
   by_cases hlt:i.toNat<out.length
   ·rcases List.mem_or_eq_of_mem_set hy with hy|rfl
    ·have:=h y hy;omega
    ·have:=h (gd out i.toNat) (by simp [gd,List.getElem?_eq_getElem hlt])
     omega
   ·rw [List.set_eq_of_length_le (by omega)] at hy
    have:=h y hy;omega) x hx
  rw [List.length_cons];push_cast;omega
theorem topped_near {out rests:List Int} {left:Nat} {B:Int} (h:∀ x ∈ out,0≤x∧x≤B):∀ x ∈ toppedS out rests left,0≤x∧x≤B+out.length:=by
 intro x hx
 have:=bump_near _ _ B h x hx
 have hl:((stableS (ltR rests) (iota out.length)).take left).length≤out.length:=by
  rw [List.length_take,(kin_stable (ltR rests) (iota out.length)).1,iota_len];omega
 omega
theorem floor_le {t w a:Int} (ht:0≤t) (hw:0≤w) (ha:w≤a):0≤t*w / a∧t*w / a≤t:=by
 by_cases h0:a=0
 ·subst h0;simp;exact ht
 ·have hp:0<a:=by omega
  refine⟨Int.ediv_nonneg (Int.mul_nonneg ht hw) (by omega),?_⟩
  have h1:t*w≤t*a:=Int.mul_le_mul_of_nonneg_left ha ht
  exact Int.le_trans (Int.ediv_le_ediv hp h1) (by rw [Int.mul_ediv_cancel _ h0];exact Int.le_refl _)
theorem sumL_mem {l:List Int} (h:∀ x ∈ l,0≤x) {x:Int} (hx:x ∈ l):0≤x∧x≤sumL l:=by
 have:=sumF_mem (f:=fun x=>x) h hx
 have e:sumF (fun x=>x) l=sumL l:=by rw [← sumL_map];simp
 exact⟨h x hx,by rw [← e];exact this⟩
theorem shareS_near {t:Int} {ws:List Int} (ht:0≤t) (h:∀ x ∈ ws,0≤x):∀ x ∈ shareS t ws,0≤x∧x≤t+ws.length:=by
 intro x hx
 unfold shareS at hx
 split at hx
 ·have:=List.eq_of_mem_replicate hx;omega
 ·have:=topped_near (B:=t) (fun y hy=>by
   obtain⟨w,hw,rfl⟩:=List.mem_map.1 hy
   have:=sumL_mem h hw
   exact floor_le ht this.1 this.2) x hx
  rw [List.length_map] at this
  exact this
theorem assign_near {B:Int}:∀ (o r sz:List Int),(∀ x ∈ r,0≤x∧x≤B)→(∀ x ∈ sz,0≤x∧x≤B)→∀ x ∈ assign o r sz,0≤x∧x≤B
 | [],r,sz,_,h,x,hx=>h x (by simpa [assign] using hx)
 |_ :: _,[],sz,_,h,x,hx=>h x (by simpa [assign] using hx)
 |i :: o,y :: r,sz,h1,h2,x,hx=>by
  simp only [assign] at hx
  refine assign_near o r _ (fun z hz=>h1 z (by simp [hz])) (fun z hz=>?_) x hx
  rcases List.mem_or_eq_of_mem_set hz with hz|rfl
  ·exact h2 z hz
  ·exact h1 z (by simp)
theorem setMax_near {l:List Itm} (hl:∀ x ∈ l,FItm x):∀ (o sz:List Int),(∀ i ∈ o,0≤i∧i<(l.length:Int))→(∀ x ∈ sz,0≤x∧x≤4096)→∀ x ∈ setMax l o sz,0≤x∧x≤4096
 | [],_,_,h,x,hx=>h x hx
 |i :: o,sz,h1,h2,x,hx=>by
  simp only [setMax] at hx
  refine setMax_near hl o _ (fun j hj=>h1 j (by simp [hj])) (fun z hz=>?_) x hx
  rcases List.mem_or_eq_of_mem_set hz with hz|rfl
  ·exact h2 z hz
  ·have:=hl _ (gi_mem (h1 i (by simp)))
   exact⟨this.2.2.1,this.2.2.2.1⟩
theorem fillS_near {l:List Itm} (hl:∀ x ∈ l,FItm x) (hn:l.length≤4096) {sz:List Int} (hz:SzOk l.length sz) {room:Int} (hr:room≤4096)
  (hm:sumF (fun i=>(gi l i).mn) (fill0 l sz room l.length).opn≤(fill0 l sz room l.length).rest) :
  (fillS l sz room).length=l.length∧∀ x ∈ fillS l sz room,0≤x∧x≤8192:=by
 obtain⟨a1,a2,a3,a4,a5,a6,a7,a8⟩:=fill0_ok hl hz room l.length (Nat.le_refl _)
 have hw:=fill0_w l sz room l.length (Nat.le_refl _)
 unfold fillS fillE
 generalize fill0 l sz room l.length=s0 at *
 split
 ·refine⟨by rw [setMax_len];exact hz.1,fun x hx=>?_⟩
  have:=setMax_near hl s0.opn sz (fun i hi=>⟨(a8 i hi).1,(a8 i hi).2.1⟩) hz.2 x hx
  omega
 ·have h0:FI l ⟨s0.opn,s0.rest,s0.weight,sz⟩:=⟨a8,a7,hw,hm,by dsimp only;omega,hz⟩
  have hI:=rounds_inv hl l.length _ h0
  unfold tailS
  generalize rounds l l.length ⟨s0.opn,s0.rest,s0.weight,sz⟩=g at *
  refine⟨by rw [assign_len];exact hI.sz.1,fun x hx=>?_⟩
  have hmn:0≤sumF (fun i=>(gi l i).mn) g.opn:=sumF_nonneg fun i hi=>(hl _ (gi_mem ⟨(hI.op i hi).1,(hI.op i hi).2.1⟩)).1
  have hrest:0≤g.rest:=Int.le_trans hmn hI.rest
  refine assign_near g.opn _ g.sz (fun y hy=>?_) (fun y hy=>by have:=hI.sz.2 y hy;omega) x hx
  split at hy
  ·simp at hy
  ·have:=topped_near (B:=4096) (fun z hz=>by
    obtain⟨i,hi,rfl⟩:=List.mem_map.1 hz
    have hi1:=(hl _ (gi_mem ⟨(hI.op i hi).1,(hI.op i hi).2.1⟩)).2.2.2.2.2 (hI.op i hi).2.2
    have hiw:(gi l i).n≤g.weight:=by
     rw [hI.w]
     exact sumF_mem (f:=fun i=>(gi l i).n) (fun j hj=>by
      have:=(hl _ (gi_mem ⟨(hI.op j hj).1,(hI.op j hj).2.1⟩)).2.2.2.2.2 (hI.op j hj).2.2
      omega) hi
    have:=floor_le hrest (show 0≤(gi l i).n by omega) hiw
    have:=hI.rt
    omega) y hy
   have hl2:(shO l g.rest g.weight g.opn).length≤4096:=by unfold shO;rw [List.length_map];have:=hI.ol;omega
   omega
theorem normI_n (it:Itm):((normI it).k=2→0≤(normI it).n∧(normI it).n≤1000∧1≤(normI it).d)∧((normI it).k ≠ 2→(normI it).k ≠ 3→0≤(normI it).n∧(normI it).n≤4096):=by
 unfold normI
 split
 ·rename_i h
  unfold Itm.ok RightP at h
  constructor<;>intros<;>omega
 ·constructor
  ·intro h;cases h
  ·intros;decide
theorem wantS_range {room:Int} (hr:0≤room∧room≤4096) (it:Itm):(normI it).mn≤wantS room (normI it)∧wantS room (normI it)≤4096000:=by
 have hf:=normI_fitm it
 have hn:=normI_n it
 unfold wantS
 by_cases h2:(normI it).k=2
 ·rw [if_pos h2]
  obtain⟨b1,b2,b3⟩:=hn.1 h2
  have hm0:0≤(normI it).n*room:=Int.mul_nonneg b1 hr.1
  have hm1:(normI it).n*room≤1000*4096:=Int.le_trans (Int.mul_le_mul_of_nonneg_right b2 hr.1) (by omega)
  have hq:(normI it).n*room / (normI it).d≤(normI it).n*room:=Int.ediv_le_self _ hm0
  obtain⟨c1,c2,c3,c4,c5,_⟩:=hf
  unfold intoS
  split
  ·have:=c5 (by assumption);omega
  ·omega
 ·rw [if_neg h2]
  by_cases h3:(normI it).k=3
  ·rw [if_pos h3];have:=hf.2.1;omega
  ·rw [if_neg h3]
   have:=intoS_range hf (hn.2 h2 h3).2
   omega
theorem sizesS_near {its:List Itm} (h:its.length≤4096) (ext gap:Int):(sizesS its ext gap).length=its.length∧∀ x ∈ sizesS its ext gap,-34359738368≤x∧x≤34359738368:=by
 unfold sizesS
 split
 ·rename_i h0
  have:its.length=0:=by omega
  exact⟨by simp [this],fun x hx=>by simp at hx⟩
 ·obtain⟨room,hroom⟩:∃ room,max 0 (sideS ext - sideS gap*((its.length:Int) - 1))=room:=⟨_,rfl⟩
  have hr:0≤room∧room≤4096:=by
   have h1:=sideS_range ext
   have h2:0≤sideS gap*((its.length:Int) - 1):=Int.mul_nonneg (sideS_range gap).1 (by omega)
   omega
  simp only [hroom]
  have hmin:∀ x ∈ (its.map normI).map Itm.mn,0≤x∧x≤4096:=fun x hx=>by
   obtain⟨y,hy,rfl⟩:=List.mem_map.1 hx
   obtain⟨z,_,rfl⟩:=List.mem_map.1 hy
   have:=normI_fitm z
   exact⟨this.1,this.2.1⟩
  have hwant:∀ x ∈ (its.map normI).map (wantS room),0≤x∧x≤4096000:=fun x hx=>by
   obtain⟨y,hy,rfl⟩:=List.mem_map.1 hx
   obtain⟨z,_,rfl⟩:=List.mem_map.1 hy
   have:=wantS_range hr z
   have:=(normI_fitm z).1
   omega
  have hlm:((its.map normI).map Itm.mn).length=its.length:=by simp
  have hlw:((its.map normI).map (wantS room)).length=its.length:=by simp
  have hover:∀ x ∈ List.zipWith (· - ·) ((its.map normI).map (wantS room)) ((its.map normI).map Itm.mn),0≤x:=fun x hx=>by
   rw [List.map_map,List.map_map,List.zipWith_map] at hx
   obtain⟨i,hi⟩:=List.mem_iff_getElem?.1 hx
   rw [List.getElem?_zipWith] at hi
   cases hz:its[i]? with
   |none=>simp [hz] at hi
   |some z=>
    simp [hz] at hi
    have:=wantS_range hr z
    omega
  have hfl:∀ x ∈ its.map normI,FItm x:=fun x hx=>by
   obtain⟨z,_,rfl⟩:=List.mem_map.1 hx
   exact normI_fitm z
  have hsw:=sumL_bound _ 4096000 hwant
  rw [hlw] at hsw
  have hsw2:sumL ((its.map normI).map (wantS room))≤4096000*4096:=Int.le_trans hsw.2 (Int.mul_le_mul_of_nonneg_left (by omega) (by omega))
  split
  ·refine⟨by rw [shareS_len,hlm],fun x hx=>?_⟩
   have:=shareS_near hr.1 (fun y hy=>(hmin y hy).1) x hx
   rw [hlm] at this
   omega
  ·split
   ·have hlo:(List.zipWith (· - ·) ((its.map normI).map (wantS room)) ((its.map normI).map Itm.mn)).length=its.length:=by simp
    refine⟨by rw [List.length_zipWith,shareS_len,hlo,hlw];omega,fun x hx=>?_⟩
    have hsn:=shareS_near (t:=sumL ((its.map normI).map (wantS room)) - room) (by omega) hover
    rw [hlo] at hsn
    obtain⟨i,hi⟩:=List.mem_iff_getElem?.1 hx
    rw [List.getElem?_zipWith] at hi
    cases hz:((its.map normI).map (wantS room))[i]? with
    |none=>rw [hz] at hi;cases hi
    |some z=>
     cases hy:(shareS (sumL ((its.map normI).map (wantS room)) - room) (List.zipWith (· - ·) ((its.map normI).map (wantS room)) ((its.map normI).map Itm.mn)))[i]? with
     |none=>rw [hz,hy] at hi;cases hi
     |some y=>
      rw [hz,hy] at hi
      have e:z - y=x:=Option.some.inj hi
      have h1:=hwant z (List.mem_of_getElem? hz)
      have h2:=hsn y (List.mem_of_getElem? hy)
      omega
   ·have hs:sumL ((its.map normI).map (wantS room))≤room:=by omega
    have hsz:SzOk (its.map normI).length ((its.map normI).map (wantS room)):=⟨by simp,fun x hx=>by
     have:=sumL_mem (fun y hy=>(hwant y hy).1) hx
     omega⟩
    have:=fillS_near hfl (by simp;omega) hsz hr.2 (fill0_min (room0:=room) rfl hs)
    refine⟨by rw [this.1];simp,fun x hx=>?_⟩
    have:=this.2 x hx
    omega
theorem sizes_all {p:Option Addr} {n c:Nat} {its:List Itm} {W:World} (hv:n=0∨∃ b,p=some ⟨b,0,none⟩∧b<W.heap.size∧∀ (i:Nat) x,its[i]?=some x→ItmAt W b (i*5) x) (hn:its.length=n) (h4:n≤4096) (ext gap:Int) :
  Calls Tryz.prog 96 #[.slice p n c,.int .i64 ext,.int .i64 gap] W (OutI (sizesS its ext gap) W):=by
 rcases Nat.eq_zero_or_pos n with rfl|hp
 ·have e:sizesS its ext gap=[]:=by unfold sizesS;rw [if_pos (.inl hn)]
  rw [e]
  exact sizes_zero p c ext gap W
 ·rcases hv with h|⟨b,rfl,hb,hi⟩
  ·omega
  ·exact(sizes_any hi hb hn hp h4 ext gap).mono fun e w h=>NewI.out h (by have:=(sizesS_near (its:=its) (by omega) ext gap).1;omega)
end Go.Proofs.YtlenbcmgjancmaaGreatDoor
namespace Go.Proofs.YtlenbcmgjancmaaGreatDoor
open Go.RowKit Go.Maps
def alongJ (it:Itm) (m l:Int):Itm:=if it.k=0 then ⟨1,m,0,min l m,it.mx⟩ else it
theorem alongI_eq (ns:List ND) (f:FN) (k:Int):alongI ns f k=alongJ (ndF ns k).wd (mwS ns f k) (lwS ns f k):=by unfold alongI alongJ;rfl
def OutM (l:List Int) (p:MP) (w:World) (e:Ending) (w':World):Prop:=∃ v,e=.returned v∧w.grownBy w' (some p.bm)∧MG p w'∧SlI w' v l
def KidsIn (p:MP) (kids:List Int):Prop:=∀ k ∈ kids,∃ (j:Nat) (y:ND),k=(j:Int)∧p.ns[j]?=some y∧y.wd.ok∧y.ht.ok∧FieldsP y
theorem set_setL {α:Type} (l:List α) (i:Nat) (a b:α):(l.set i a).set i b=l.set i b:=by
 apply List.ext_getElem?
 intro j
 by_cases e:i=j
 ·subst e
  by_cases h:i<l.length
  ·rw [List.getElem?_set_self (by simpa using h),List.getElem?_set_self h]
  ·rw [List.getElem?_eq_none (by simp;omega),List.getElem?_eq_none (by simp;omega)]
 ·rw [List.getElem?_set_ne e,List.getElem?_set_ne e,List.getElem?_set_ne e]
structure AlI (w:World) (p:MP) (b:Nat) (l:List Itm) (W:World):Prop where
 ms:MS p w W
 ar:ArrT W b l
theorem AlI.put {w:World} {p:MP} {b:Nat} {l:List Itm} {W:World} (h:AlI w p b l W) (hb:w.heap.size≤b) {i:Nat} (hi:i<l.length) (x:Itm) :
  AlI w p b (l.set i x) (((((W.setCell ⟨b,i*5,none⟩ (.int .i8 x.k)).setCell ⟨b,i*5+1,none⟩ (.int .i64 x.n)).setCell ⟨b,i*5+2,none⟩ (.int .i64 x.d)).setCell ⟨b,i*5+3,none⟩ (.int .i64 x.mn)).setCell ⟨b,i*5+4,none⟩ (.int .i64 x.mx)) :=
 ⟨((((h.ms.set hb _ _).set hb _ _).set hb _ _).set hb _ _).set hb _ _,h.ar.put hi x⟩
theorem AlI.drew {w:World} {p:MP} {b:Nat} {l:List Itm} {W:World} (h:AlI w p b l W):AlI w p b l W.drew:=⟨h.ms.drew,h.ar⟩
theorem AlI.drewN {w:World} {p:MP} {b:Nat} {l:List Itm} {W:World} (h:AlI w p b l W) (n:Nat):AlI w p b l (W.drewN n):=⟨h.ms.drewN n,h.ar⟩
theorem AlI.calls {w:World} {p:MP} {b:Nat} {l:List Itm} {W W':World} (h:AlI w p b l W) (hb:b ≠ p.bm) (hg:W.grownBy W' (some p.bm)) (hM:MG p W'):AlI w p b l W':=⟨h.ms.calls hg hM,h.ar.grown hg (by simpa using hb)⟩
set_option maxRecDepth 100000 in
set_option maxHeartbeats 8000000 in
theorem along_gen (p:MP) (w:World) (M:MG p w) (n:Nat) (x:ND) (hn:p.ns[n]?=some x) (hl:x.kids.length≤4096) (hk:KidsIn p x.kids) (iw:Int) (m l:Int→Int)
  (HMW:∀ k ∈ x.kids,∀ W,MS p w W→Calls Tryz.prog 41 #[.pointer (some ⟨p.pm,0,none⟩),.int .i64 k] W (GPost (m k) p W))
  (HLW:∀ k ∈ x.kids,∀ W,MS p w W→Calls Tryz.prog 40 #[.pointer (some ⟨p.pm,0,none⟩),.int .i64 k] W (GPost (l k) p W)) :
  Calls Tryz.prog 54 #[.pointer (some ⟨p.pm,0,none⟩),.pointer (some ⟨p.g,n*34,none⟩),.int .i64 iw] w (OutM (sizesS (x.kids.map fun k=>alongJ (ndF p.ns k).wd (m k) (l k)) iw x.gap) p w):=by
 obtain⟨L,hL⟩:∃ L,(x.kids.map fun k=>alongJ (ndF p.ns k).wd (m k) (l k))=L:=⟨_,rfl⟩
 rw [hL]
 have hLl:L.length=x.kids.length:=by rw [← hL,List.length_map]
 have HLX:Hid (∀ (i:Nat) k,x.kids[i]?=some k→L[i]?=some (alongJ (ndF p.ns k).wd (m k) (l k))):=zH fun i k hi=>by rw [← hL,List.getElem?_map,hi];rfl
 obtain⟨kv,cv,hnd,hkv,_⟩:=M.node hn
 have HGP:Hid (w.cell? ⟨p.g,n*34+14,none⟩=some (.int .i64 x.gap)):=zH hnd.gap
 have HKV:Hid (w.cell? ⟨p.g,n*34+3,none⟩=some kv):=zH hnd.kids
 obtain⟨q,c,rfl,_,hx⟩:=hkv
 obtain⟨gap,hgap⟩:∃ gap,x.gap=gap:=⟨_,rfl⟩
 rw [hgap] at HGP ⊢
 have HX:=zH hx
 have HK:=zH hk
 have HM:=zH HMW
 have HLL:=zH HLW
 obtain⟨kn,hkn⟩:∃ kn,x.kids.length=kn:=⟨_,rfl⟩
 have HKN:=zH hkn
 rw [hkn] at hl HKV hLl
 have HLN:=zH hLl
 have lg:=M.lg hn
 have lp:=M.lp
 have hbm:w.heap.size ≠ p.bm:=Nat.ne_of_gt M.lm
 have HS0:=zH (MS.start M)
 have hmk:=mk_items kn hl
 have HA0:=zH (ArrT.made w kn)
 have k0:=HKV.out
 clear hnd hx hk HMW HLW M hn hkn hLl hL hgap
 go_enter Tryz.func54,Tryz.ntmps54
 go_wp2
 clear k0
 go_loopw [22] (fun i wr=>∃ a:Nat,i=.int .i64 a∧a≤kn∧AlI w p w.heap.size (partZ itm0 L a) wr) (fun i _=>kn - (intOf i).toNat)
 case atStart=>exact⟨0,rfl,by omega,⟨HS0.out.below (by(repeat (first|exact Below.refl _ _|assumption|refine below_drewN ?_ _|refine Below.drew ?_|(refine Below.alloc ?_ ?bs _;(case bs=>first|omega|(simp;done)|(simp;omega)))|(refine Below.setCell ?_ ?bs _;(case bs=>first|omega|(simp;done)|(simp;omega)))))),by rw [partZ_zero,HLN.out];exact HA0.out⟩⟩
 case round=>
  obtain⟨a,rfl,ha,hA⟩:=hrel
  have HA:=zH hA
  have lw:=hA.ar.lt
  have lgr:p.g<wr.heap.size:=Nat.lt_of_lt_of_le lg hA.ms.size
  have lpr:p.pm<wr.heap.size:=Nat.lt_of_lt_of_le lp hA.ms.size
  clear hA hmk HA0
  by_cases hlt:a<kn
  ·have hltI:(a:Int)<(kn:Int):=by omega
   obtain⟨k,hka⟩:∃ k,x.kids[a]?=some k:=⟨_,List.getElem?_eq_getElem (by rw [HKN.out];exact hlt)⟩
   have hkm:=List.mem_of_getElem? hka
   obtain⟨j,y,rfl,hy,hok,_⟩:=HK.out k hkm
   obtain⟨g,o,rfl,hg,hck⟩:=HX.out a _ hka
   have hLa:=HLX.out a _ hka
   rw [ndF_eq hy] at hLa
   have HLA:=zH hLa
   have HMC:=zH (HM.out _ hkm)
   have HLC:=zH (HLL.out _ hkm)
   have c1:=HA.out.ms.cell hck
   have c2:=HA.out.ms.cell HKV.out
   have c3:=HA.out.ms.mg.c0
   obtain⟨kv2,cv2,hnd,_,_⟩:=HA.out.ms.mg.node hy
   have y0:=hnd.w0
   have y1:=hnd.w1
   have y2:=hnd.w2
   have y3:=hnd.w3
   have y4:=hnd.w4
   have hjl:j<p.ns.length:=(List.getElem?_eq_some_iff.1 hy).1
   have lgk:g<wr.heap.size:=Nat.lt_of_lt_of_le hg HA.out.ms.size
   obtain⟨it,hit⟩:∃ it,y.wd=it:=⟨_,rfl⟩
   rw [hit] at y0 y1 y2 y3 y4 HLA
   have hpl:a<(partZ itm0 L a).length:=by rw [partZ_len (by rw [HLN.out];omega),HLN.out];exact hlt
   have HPL:=zH hpl
   obtain⟨z0,z1,z2,z3,z4⟩:=HA.out.ar.at (partZ_get (z:=itm0) (l:=L) (by rw [HLN.out];exact hlt))
   have f0:=HA.out.ar.froz (a*5)
   have f1:=HA.out.ar.froz (a*5+1)
   have f2:=HA.out.ar.froz (a*5+2)
   have f3:=HA.out.ar.froz (a*5+3)
   have f4:=HA.out.ar.froz (a*5+4)
   have HB:=zH (HA.out.put (Nat.le_refl _) hpl it)
   clear hka hkm hck hLa hnd hy hok hit hpl
   obtain⟨mj,hmj⟩:∃ mj,m (j:Int)=mj:=⟨_,rfl⟩
   obtain⟨lj,hlj⟩:∃ lj,l (j:Int)=lj:=⟨_,rfl⟩
   rw [hmj] at HMC HLA
   rw [hlj] at HLC HLA
   clear hmj hlj
   by_cases h0:it.k=0
   ·have h0b:(it.k == 0)=true:=by rw [beq_iff_eq];exact h0
    have HM1:=zH (HMC.out _ HB.out.ms)
    have HE:Hid ((partZ itm0 L a).set a (⟨1,mj,0,min lj mj,it.mx⟩:Itm)=partZ itm0 L (a+1)):=zH (partZ_set (by rw [HLA.out];unfold alongJ;rw [if_pos h0]))
    have HSG:Hid (((partZ itm0 L a).set a it)[a]?=some it):=zH (List.getElem?_set_self HPL.out)
    have HP2:Hid (a<((partZ itm0 L a).set a it).length):=zH (by rw [List.length_set];exact HPL.out)
    clear h0
    go_upto_region 8 with (go_at_call 41;((with_reducible refine HM1.out.mono ?_);rintro e1' w2 ⟨rfl,hg2,hM2⟩))
    have HC2:=zH (HB.out.calls hbm hg2 hM2)
    have HCD:=zH HC2.out.drew
    have HL1:=zH (HLC.out w2.drew HCD.out.ms)
    have l2:=HC2.out.ar.lt
    obtain⟨s0,s1,s2,s3,s4⟩:=HC2.out.ar.at HSG.out
    clear c1 c2 c3 y0 y1 y2 y3 y4 z0 z1 z2 z3 z4 f0 f1 f2 f3 f4 hg2 hM2 HM1 HB HA s0 s1 s2 s3 HLC HMC
    go_region_with (go_at_call 40;((with_reducible refine HL1.out.mono ?_);rintro e1' w3 ⟨rfl,hg3,hM3⟩;have HC3:=zH (HCD.out.calls hbm hg3 hM3);obtain⟨t0,t1,t2,t3,t4⟩:=HC3.out.ar.at HSG.out;have f0:=HC3.out.ar.froz (a*5);have f1:=HC3.out.ar.froz (a*5+1);have f2:=HC3.out.ar.froz (a*5+2);have f3:=HC3.out.ar.froz (a*5+3);have f4:=HC3.out.ar.froz (a*5+4);have l3:=HC3.out.ar.lt))
    all_goals
     have hX:=HC3.out.put (Nat.le_refl _) HP2.out ⟨1,mj,0,min lj mj,it.mx⟩
     rw [set_setL,HE.out] at hX
     have HX2:=zH hX
     clear hX t0 t1 t2 t3 t4 f0 f1 f2 f3 f4 HC3
     go_wp2
     go_roundw
     case rel=>exact⟨a+1,by first|rfl|go_num,by omega,by first|exact HX2.out|exact HX2.out.drew⟩
     case measure=>simp [intOf]<;>omega
   ·as_aux_lemma=>
    have h0b:(it.k == 0)=false:=by rw [beq_eq_false_iff_ne];exact h0
    have HE:Hid ((partZ itm0 L a).set a it=partZ itm0 L (a+1)):=zH (partZ_set (by rw [HLA.out];unfold alongJ;rw [if_neg h0]))
    clear h0
    go_wp2
    go_roundw
    case rel=>exact⟨a+1,by first|rfl|go_num,by omega,by rw [← HE.out];exact HB.out⟩
    case measure=>simp [intOf]<;>omega
  ·as_aux_lemma=>
   have hltI:decide ((a:Int)<(kn:Int))=false:=decide_eq_false (by omega)
   obtain rfl:a=kn:=by omega
   have c4:=HA.out.ms.cell HGP.out
   have hfull:partZ itm0 L a=L:=partZ_full HLN.out.symm
   have hAA:=HA.out
   rw [hfull] at hAA
   have HAA:=zH hAA
   have HSZ:=zH (fun ext=>sizes_all (p:=some ⟨w.heap.size,0,none⟩) (n:=a) (c:=a) (its:=L) (W:=wr) (.inr ⟨_,rfl,hAA.ar.lt,fun i x hx=>hAA.ar.at hx⟩) HLN.out hl ext gap)
   clear hfull hAA
   go_wp2_with (go_at_call 96;((with_reducible refine(HSZ.out _).mono ?_);rintro e1' w2 ⟨v,rfl,hb2,hs2⟩))
   go_ret
   exact⟨v,rfl,grownBy_then HAA.out.ms.gr hb2,HAA.out.ms.mg.below hb2,hs2⟩
end Go.Proofs.YtlenbcmgjancmaaGreatDoor
namespace Go.Proofs.YtlenbcmgjancmaaGreatDoor
open Go.RowKit Go.Maps
def mixM (f:Itm→Itm) (l:List Itm) (a:Nat):List Itm:=(l.take a).map f ++ l.drop a
theorem mixM_len {f:Itm→Itm} {l:List Itm} {a:Nat}:(mixM f l a).length=l.length:=by unfold mixM;rw [List.length_append,List.length_map,List.length_take,List.length_drop];omega
theorem mixM_get {f:Itm→Itm} {l:List Itm} {a:Nat} {x:Itm} (h:l[a]?=some x):(mixM f l a)[a]?=some x:=by
 have h1:=(List.getElem?_eq_some_iff.1 h).1
 unfold mixM
 rw [List.getElem?_append_right (by rw [List.length_map,List.length_take];omega),List.length_map,List.length_take,Nat.min_eq_left (by omega),Nat.sub_self,List.getElem?_drop,Nat.add_zero]
 exact h
theorem mixM_set {f:Itm→Itm} {l:List Itm} {a:Nat} {x:Itm} (h:l[a]?=some x):(mixM f l a).set a (f x)=mixM f l (a+1):=by
 obtain⟨h1,rfl⟩:=List.getElem?_eq_some_iff.1 h
 unfold mixM
 have hk:((l.take a).map f).length=a:=by rw [List.length_map,List.length_take];omega
 rw [List.set_append_right _ _ (by omega),hk,Nat.sub_self,List.drop_eq_getElem_cons h1,List.set_cons_zero,List.take_succ_eq_append_getElem h1,List.map_append,List.append_assoc]
 rfl
theorem mixM_full {f:Itm→Itm} {l:List Itm} {a:Nat} (h:a=l.length):mixM f l a=l.map f:=by
 subst h;unfold mixM;rw [List.take_length,List.drop_length,List.append_nil]
theorem mixM_zero (f:Itm→Itm) (l:List Itm):mixM f l 0=l:=by simp [mixM]
theorem set_sameA {α:Type} {l:List α} {a:Nat} {x:α} (h:l[a]?=some x):l.set a x=l:=by
 apply List.ext_getElem?
 intro j
 by_cases e:a=j
 ·subst e
  rw [List.getElem?_set_self (List.getElem?_eq_some_iff.1 h).1,h]
 ·rw [List.getElem?_set_ne e]
def OutT (l:List Itm) (w:World) (e:Ending) (w':World):Prop:=∃ v,e=.returned v∧Below w.heap.size w w'∧SlT w' v l
set_option maxRecDepth 100000 in
set_option maxHeartbeats 8000000 in
theorem auto_any {w:World} {vi:Value} {items:List Itm} (hi:SlT w vi items) (h4:items.length≤4096) :
  Calls Tryz.prog 57 #[vi] w (OutT (items.map autoI) w):=by
 obtain⟨N,hN⟩:∃ N,items.length=N:=⟨_,rfl⟩
 obtain⟨p,c,rfl,_,hnw⟩:=slt_news hi
 have HNL:=zH hN
 have HNF:Hid ((flatC Itm.cells items).length=N*5):=zH (by rw [flatC_len Itm.cells_len,hN])
 rw [hN] at hnw h4 ⊢
 have HNW:Hid (0<N→∃ gx ox,p=some ⟨gx,ox,none⟩∧∀ j u,(flatC Itm.cells items)[j]?=some u→(w.alloc (.cells #[] 40)).cell? ⟨gx,ox+j,none⟩=some u):=zH fun h0=>by
  obtain⟨gx,ox,e,hg,hc⟩:=hnw h0
  exact⟨gx,ox,e,fun j u hj=>by rw [World.cell?_alloc_lt _ _ ⟨gx,ox+j,none⟩ hg];exact hc j u hj⟩
 clear hi hnw hN
 go_enter Tryz.func57,Tryz.ntmps57
 go_wp2_with ((with_reducible apply wpList_append_all elT (news:=flatC Itm.cells items));exact rfl;exact rfl;exact rfl;exact HNW.out;exact HNF.out;exact one_items _;omega;intro v9 w9 hrow9 hnn9 hb9 K9 hK9;obtain⟨ib,cap,rfl,hcap9,hro9⟩:=RowT.of_owns hrow9 HNL.out hnn9;have HRO:=zH hro9;have HB9:=zH hb9;clear hrow9 hnn9 hb9 hro9)
 clear HNW HNF
 go_loopw [11] (fun i wr=>∃ a:Nat,i=.int .i64 a∧a≤N∧Below w.heap.size w wr∧RowT wr w.heap.size ib cap (mixM autoI items a)) (fun i _=>N - (intOf i).toNat)
 case atStart=>exact⟨0,rfl,by omega,HB9.out,by rw [mixM_zero];exact HRO.out⟩
 case round=>
  obtain⟨a,rfl,ha,hG,hR⟩:=hrel
  have HGW:=zH hG
  have HRW:=zH hR
  have l1:=hR.lt
  clear hG hR HRO HB9
  by_cases hlt:a<N
  ·have hltI:(a:Int)<(N:Int):=by omega
   obtain⟨x,hx⟩:∃ x,items[a]?=some x:=⟨_,List.getElem?_eq_getElem (by rw [HNL.out];exact hlt)⟩
   have hgt:=mixM_get (f:=autoI) hx
   have hst:=mixM_set (f:=autoI) hx
   obtain⟨c0,c1,c2,c3,c4⟩:=HRW.out.at' a x hgt
   have f0:=HRW.out.froz (a*5)
   have f1:=HRW.out.froz (a*5+1)
   have f2:=HRW.out.froz (a*5+2)
   have f3:=HRW.out.froz (a*5+3)
   have f4:=HRW.out.froz (a*5+4)
   have hlow:=HRW.out.low
   have hal:a<(mixM autoI items a).length:=by rw [mixM_len,HNL.out];exact hlt
   by_cases h2:x.k=2
   ·as_aux_lemma=>
    have h2b:(x.k == 2)=true:=by rw [beq_iff_eq];exact h2
    have hau:autoI x=⟨0,0,0,x.mn,x.mx⟩:=by unfold autoI;rw [if_pos (.inl h2)]
    rw [hau] at hst
    have HST:=zH hst
    have HPB:=zH (show Below w.heap.size w _∧RowT _ w.heap.size ib cap _ from⟨((((((HGW.out.setCell (p:=⟨ib,a*5,none⟩) hlow (.int .i8 0)).setCell (p:=⟨ib,a*5+1,none⟩) hlow (.int .i64 0)).setCell (p:=⟨ib,a*5+2,none⟩) hlow (.int .i64 0)).setCell (p:=⟨ib,a*5+3,none⟩) hlow (.int .i64 x.mn)).setCell (p:=⟨ib,a*5+4,none⟩) hlow (.int .i64 x.mx)).alloc (by have:=HGW.out.size;simp [World.setCell];omega) (.cells #[.int .i8 x.k,.int .i64 x.n,.int .i64 x.d,.int .i64 x.mn,.int .i64 x.mx] 40)),(HRW.out.put hal ⟨0,0,0,x.mn,x.mx⟩).below (Below.alloc (Below.refl _ _) (Nat.le_refl _) (.cells #[.int .i8 x.k,.int .i64 x.n,.int .i64 x.d,.int .i64 x.mn,.int .i64 x.mx] 40))⟩)
    clear h2 hx hgt hst hau
    go_wp2
    go_roundw
    case rel=>exact⟨a+1,by first|rfl|go_num,by omega,HPB.out.1,HPB.out.2.to HST.out⟩
    case measure=>simp [intOf]<;>omega
   ·have h2b:(x.k == 2)=false:=by rw [beq_eq_false_iff_ne];exact h2
    by_cases h3:x.k=3
    ·as_aux_lemma=>
     have h3b:(x.k == 3)=true:=by rw [beq_iff_eq];exact h3
     have hau:autoI x=⟨0,0,0,x.mn,x.mx⟩:=by unfold autoI;rw [if_pos (.inr h3)]
     rw [hau] at hst
     have HST:=zH hst
     have HPB:=zH (show Below w.heap.size w _∧RowT _ w.heap.size ib cap _ from⟨((((((HGW.out.setCell (p:=⟨ib,a*5,none⟩) hlow (.int .i8 0)).setCell (p:=⟨ib,a*5+1,none⟩) hlow (.int .i64 0)).setCell (p:=⟨ib,a*5+2,none⟩) hlow (.int .i64 0)).setCell (p:=⟨ib,a*5+3,none⟩) hlow (.int .i64 x.mn)).setCell (p:=⟨ib,a*5+4,none⟩) hlow (.int .i64 x.mx)).alloc (by have:=HGW.out.size;simp [World.setCell];omega) (.cells #[.int .i8 x.k,.int .i64 x.n,.int .i64 x.d,.int .i64 x.mn,.int .i64 x.mx] 40)),(HRW.out.put hal ⟨0,0,0,x.mn,x.mx⟩).below (Below.alloc (Below.refl _ _) (Nat.le_refl _) (.cells #[.int .i8 x.k,.int .i64 x.n,.int .i64 x.d,.int .i64 x.mn,.int .i64 x.mx] 40))⟩)
     clear h2 h3 hx hgt hst hau
     go_wp2
     go_roundw
     case rel=>exact⟨a+1,by first|rfl|go_num,by omega,HPB.out.1,HPB.out.2.to HST.out⟩
     case measure=>simp [intOf]<;>omega
    ·as_aux_lemma=>
     have h3b:(x.k == 3)=false:=by rw [beq_eq_false_iff_ne];exact h3
     have hau:autoI x=x:=by unfold autoI;rw [if_neg (by omega)]
     rw [hau,set_sameA hgt] at hst
     have HST:=zH hst
     clear h2 h3 hx hgt hst hau
     go_wp2
     go_roundw
     case rel=>exact⟨a+1,by first|rfl|go_num,by omega,HGW.out.trans (by(repeat (first|exact Below.refl _ _|assumption|refine below_drewN ?_ _|refine Below.drew ?_|(refine Below.alloc ?_ ?bs _;(case bs=>first|omega|(simp;done)|(simp;omega)))|(refine Below.setCell ?_ ?bs _;(case bs=>first|omega|(simp;done)|(simp;omega)))))),(HRW.out.below (Below.alloc (Below.refl _ _) (Nat.le_refl _) _)).to HST.out⟩
     case measure=>simp [intOf]<;>omega
  ·as_aux_lemma=>
   have hltI:decide ((a:Int)<(N:Int))=false:=decide_eq_false (by omega)
   obtain rfl:a=N:=by omega
   have HSL:=zH (HRW.out.to (mixM_full HNL.out.symm))
   go_wp2
   go_ret
   refine⟨_,rfl,HGW.out,?_⟩
   have:=HSL.out.sl (by rw [List.length_map,HNL.out];omega) cap
   rw [List.length_map,HNL.out] at this
   exact this
end Go.Proofs.YtlenbcmgjancmaaGreatDoor
namespace Go.Proofs.YtlenbcmgjancmaaGreatDoor
open Go.RowKit
set_option maxRecDepth 100000 in
theorem insN_nil (v:Option Addr) (c:Nat) (W:World):Calls Tryz.prog 178 #[.slice v 0 c,.int .i64 0,.int .i64 0,cmpN] W (fun e W'=>e=.returned (.tuple #[])∧W'=W):=by
 go_enter Tryz.func178,Tryz.ntmps178
 go_wp2
 refine wp_loop_rounds 1 ?_
 rw [rounds_succ]
 go_wp2
 go_end0
 exact⟨rfl,rfl⟩
set_option maxRecDepth 100000 in
theorem stableN_nil (v:Option Addr) (c:Nat) (W:World):Calls Tryz.prog 162 #[.slice v 0 c,.int .i64 0,cmpN] W (fun e W'=>e=.returned (.tuple #[])∧W'=W):=by
 go_enter Tryz.func162,Tryz.ntmps162
 go_wp2
 refine wp_loop_rounds 1 ?_
 rw [rounds_succ]
 go_wp2_with (go_at_call 178;(with_reducible refine(insN_nil v c _).mono ?_);rintro e1' w1 ⟨rfl,rfl⟩)
 refine wp_loop_rounds 1 ?_
 rw [rounds_succ]
 go_wp2
 go_end0
 exact⟨rfl,rfl⟩
set_option maxRecDepth 100000 in
theorem sortN_nil (v:Option Addr) (c:Nat) (W:World):Calls Tryz.prog 134 #[.slice v 0 c,cmpN] W (fun e W'=>e=.returned (.tuple #[])∧W'=W):=by
 go_enter Tryz.func134,Tryz.ntmps134
 go_wp2_with (go_at_call 162;(with_reducible refine(stableN_nil v c _).mono ?_);rintro e1' w1 ⟨rfl,rfl⟩)
 go_end0
 exact⟨rfl,rfl⟩
theorem elN:ElOK 131 137 3 24 (.agg #[.int .i64 0,.int .i64 0,.int .i64 0]):=⟨Tryz.underlying131,by kernel_rfl,rfl,by decide,by decide⟩
def SlN (w:World) (v:Value) (l:List Ned):Prop :=
 ∃ p c,v=.slice p l.length c∧l.length≤4398046511104∧∀ i x,l[i]?=some x→∃ g o,p=some ⟨g,o,none⟩∧g<w.heap.size∧NedAt w g (o+i*3) x
theorem SlN.below {w w':World} {v:Value} {l:List Ned} (h:SlN w v l) (hb:Below w.heap.size w w'):SlN w' v l:=by
 obtain⟨p,c,rfl,hl,hx⟩:=h
 refine⟨p,c,rfl,hl,fun i x hi=>?_⟩
 obtain⟨g,o,e,hg,hc⟩:=hx i x hi
 exact⟨g,o,e,Nat.lt_of_lt_of_le hg hb.size,hc.below hb hg⟩
theorem ItmAt.cells {w w':World} {g o:Nat} {i:Itm} (h:ItmAt w g o i) (k:∀ q,w'.cell? ⟨g,q,none⟩=w.cell? ⟨g,q,none⟩):ItmAt w' g o i:=h.of_eq k
theorem RowT.grown {W W':World} {B b cap:Nat} {l:List Itm} {row:Option Nat} (h:RowT W B b cap l) (hg:W.grownBy W' row) (hne:some b ≠ row):RowT W' B b cap l:=by
 have e:=hg.block b h.lt hne
 refine⟨fun i x hx=>(h.at' i x hx).of_eq fun q=>World.cell?_of_block e,fun j=>(World.frozen?_of_block (a:=⟨b,j,none⟩) e).trans (h.froz j),Nat.lt_of_lt_of_le h.lt hg.size,h.low⟩
structure TrI (w:World) (ib cap hb:Nat) (its:List Itm) (h:List Int) (W:World):Prop where
 g:Below w.heap.size w W
 it:RowT W w.heap.size ib cap its
 ha:ArrI W hb h
 nh:w.heap.size≤hb
 ne:ib ≠ hb
section
variable {w W W':World} {ib cap hb:Nat} {its:List Itm} {h:List Int}
theorem TrI.below (t:TrI w ib cap hb its h W) (hB:Below W.heap.size W W'):TrI w ib cap hb its h W' :=
 ⟨Below.trans t.g (hB.mono t.g.size),t.it.below hB,t.ha.below hB,t.nh,t.ne⟩
theorem TrI.drew (t:TrI w ib cap hb its h W):TrI w ib cap hb its h W.drew:=t.below (Below.drew (Below.refl _ _))
theorem TrI.drewN (t:TrI w ib cap hb its h W) (n:Nat):TrI w ib cap hb its h (W.drewN n):=t.below (below_drewN (Below.refl _ _) n)
theorem TrI.alloc (t:TrI w ib cap hb its h W) (o:Obj):TrI w ib cap hb its h (W.alloc o):=t.below (Below.alloc (Below.refl _ _) (Nat.le_refl _) o)
theorem TrI.put (t:TrI w ib cap hb its h W) (i:Nat) (x:Int):TrI w ib cap hb its (h.set i x) (W.setCell ⟨hb,i,none⟩ (.int .i64 x)) :=
 ⟨t.g.setCell (p:=⟨hb,i,none⟩) t.nh _,t.it.grown (grown_set W hb i _) (by have:=t.ne;simpa using this),t.ha.put i x,t.nh,t.ne⟩
theorem TrI.item (t:TrI w ib cap hb its h W) {i:Nat} (hi:i<its.length) (y:Itm) :
  TrI w ib cap hb (its.set i y) h (((((W.setCell ⟨ib,i*5,none⟩ (.int .i8 y.k)).setCell ⟨ib,i*5+1,none⟩ (.int .i64 y.n)).setCell ⟨ib,i*5+2,none⟩ (.int .i64 y.d)).setCell ⟨ib,i*5+3,none⟩ (.int .i64 y.mn)).setCell ⟨ib,i*5+4,none⟩ (.int .i64 y.mx)) :=
 ⟨((((t.g.setCell (p:=⟨ib,_,none⟩) t.it.low _).setCell (p:=⟨ib,_,none⟩) t.it.low _).setCell (p:=⟨ib,_,none⟩) t.it.low _).setCell (p:=⟨ib,_,none⟩) t.it.low _).setCell (p:=⟨ib,_,none⟩) t.it.low _,t.it.put hi y,
  ((((Arr.other t.ha (Ne.symm t.ne) _ _).other (Ne.symm t.ne) _ _).other (Ne.symm t.ne) _ _).other (Ne.symm t.ne) _ _).other (Ne.symm t.ne) _ _,t.nh,t.ne⟩
theorem TrI.grown {row:Option Nat} (t:TrI w ib cap hb its h W) (hg:W.grownBy W' row) (h1:some ib ≠ row) (h2:some hb ≠ row) (h3:∀ b,row=some b→w.heap.size≤b):TrI w ib cap hb its h W' :=
 ⟨t.g.grown hg t.g.size (fun b e=>h3 b e),t.it.grown hg h1,t.ha.grown hg h2,t.nh,t.ne⟩
theorem TrI.toI (t:TrI w ib cap hb its h W) {l:List Itm} (e:its=l):TrI w ib cap hb l h W:=e ▸ t
theorem TrI.toH (t:TrI w ib cap hb its h W) {l:List Int} (e:h=l):TrI w ib cap hb its l W:=e ▸ t
end
end Go.Proofs.YtlenbcmgjancmaaGreatDoor
