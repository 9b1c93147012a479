import Derived.Test.YtlenbcmgjancmaaGreatDoorMn35
import Derived.Test.YtlenbcmgjancmaaGreatDoorMn33
import Derived.Test.YtlenbcmgjancmaaGreatDoorMn40
import Derived.Test.YtlenbcmgjancmaaGreatDoorMn38
import Derived.Test.YtlenbcmgjancmaaGreatDoorMn21
set_option linter.unusedVariables false
set_option linter.unusedSimpArgs false
namespace Go.Proofs.YtlenbcmgjancmaaGreatDoor
open Go.RowKit Go.Maps
def ansS (p:MP) (n y w:Int):Int:=if 0≤n∧n<p.ns.length then p.f n y w else 0
section
variable {p q:MP}
theorem ask_least (L:Law tabF p) (n:Int) (W:World) (h:MG p W):Calls Tryz.prog 11 #[.pointer (some ⟨p.pm,0,none⟩),.int .i64 n] W (GPost (ansS p n 0 0) p W):=by
 by_cases hn:0≤n∧n<p.ns.length
 ·obtain⟨i,rfl⟩:∃ i:Nat,n=i:=⟨n.toNat,by omega⟩
  unfold ansS
  rw [if_pos hn]
  exact(L.all i (by omega)).le W h
 ·unfold ansS
  rw [if_neg hn]
  exact Least_out p W h n (by omega)
theorem ask_most (L:Law tabF p) (n:Int) (W:World) (h:MG p W):Calls Tryz.prog 12 #[.pointer (some ⟨p.pm,0,none⟩),.int .i64 n] W (GPost (ansS p n 1 0) p W):=by
 by_cases hn:0≤n∧n<p.ns.length
 ·obtain⟨i,rfl⟩:∃ i:Nat,n=i:=⟨n.toNat,by omega⟩
  unfold ansS
  rw [if_pos hn]
  exact(L.all i (by omega)).mo W h
 ·unfold ansS
  rw [if_neg hn]
  exact Most_out p W h n (by omega)
theorem ask_tall (L:Law tabF p) (n z:Int) (hz:I64 z) (W:World) (h:MG p W):Calls Tryz.prog 10 #[.pointer (some ⟨p.pm,0,none⟩),.int .i64 n,.int .i64 z] W (GPost (ansS p n 2 (sideS z)) p W):=by
 by_cases hn:0≤n∧n<p.ns.length
 ·obtain⟨i,rfl⟩:∃ i:Nat,n=i:=⟨n.toNat,by omega⟩
  unfold ansS
  rw [if_pos hn]
  exact(L.all i (by omega)).ta z hz W h
 ·unfold ansS
  rw [if_neg hn]
  exact Tall_out p W h n z hz (by omega)
theorem MG.beside {W W':World} (hp:MG p W) (hq:MG q W) (hne:p.bm ≠ q.bm) (hg:W.grownBy W' (some q.bm)):MG p W':=by
 have k:=hq.keeps hg
 obtain⟨D,h1,h2⟩:=hp.map
 exact⟨k _ _ hp.c0,k _ _ hp.c1,k _ _ hp.c2,hp.kd.keeps k,hp.nd.keeps k hg.size,D,h1.kept hg (by simpa using hne),h2⟩
structure Two (w:World) (p q:MP) (W:World):Prop where
 mp:MG p W
 mq:MG q W
 b:Below w.heap.size w W
 hp:w.heap.size≤p.bm
 hq:w.heap.size≤q.bm
 ne:p.bm ≠ q.bm
theorem Two.callq {w W W':World} {v:Int} {e:Ending} (h:Two w p q W) (hc:GPost v q W e W'):Two w p q W' :=
 ⟨h.mp.beside h.mq h.ne hc.2.1,hc.2.2,h.b.grown hc.2.1 h.b.size fun k e=>(by cases e;exact h.hq),h.hp,h.hq,h.ne⟩
theorem Two.callp {w W W':World} {v:Int} {e:Ending} (h:Two w p q W) (hc:GPost v p W e W'):Two w p q W' :=
 ⟨hc.2.2,h.mq.beside h.mp h.ne.symm hc.2.1,h.b.grown hc.2.1 h.b.size fun k e=>(by cases e;exact h.hp),h.hp,h.hq,h.ne⟩
theorem Two.below {w W W':World} (h:Two w p q W) (hb:Below W.heap.size W W'):Two w p q W' :=
 ⟨h.mp.below hb,h.mq.below hb,h.b.trans (hb.mono h.b.size),h.hp,h.hq,h.ne⟩
end
end Go.Proofs.YtlenbcmgjancmaaGreatDoor
namespace Go.Proofs.YtlenbcmgjancmaaGreatDoor
open Go.RowKit Go.Maps
abbrev rowQ (b:Nat):Array Value:=#[.int .i8 2,.string ⟨#[]⟩,.string ⟨#[]⟩,.slice (some ⟨b,0,none⟩) 2 2,.int .i8 0,.int .i64 0,.int .i64 0,.int .i64 0,.int .i64 0,.int .i8 0,.int .i64 0,.int .i64 0,.int .i64 0,.int .i64 0,.int .i64 1,.int .i64 0,.int .i64 0,.int .i64 0,.int .i64 0,.int .i8 0,.int .i8 0,.int .i8 0,.string ⟨#[]⟩,.int .i8 0,.int .i32 0,.int .i32 0,.int .u8 0,.int .u8 0,.slice none 0 0,.int .i64 0,.int .i64 0,.int .i64 0,.int .i64 0,.int .u8 0,.int .i8 1,.string ⟨#[]⟩,.string ⟨#[]⟩,.slice none 0 0,.int .i8 0,.int .i64 0,.int .i64 0,.int .i64 0,.int .i64 0,.int .i8 0,.int .i64 0,.int .i64 0,.int .i64 0,.int .i64 0,.int .i64 0,.int .i64 0,.int .i64 0,.int .i64 0,.int .i64 0,.int .i8 0,.int .i8 0,.int .i8 0,.string ⟨#[97,98,32,99,100,101]⟩,.int .i8 0,.int .i32 0,.int .i32 0,.int .u8 0,.int .u8 0,.slice none 0 0,.int .i64 0,.int .i64 0,.int .i64 0,.int .i64 0,.int .u8 0,.int .i8 1,.string ⟨#[]⟩,.string ⟨#[]⟩,.slice none 0 0,.int .i8 0,.int .i64 0,.int .i64 0,.int .i64 0,.int .i64 0,.int .i8 0,.int .i64 0,.int .i64 0,.int .i64 0,.int .i64 0,.int .i64 0,.int .i64 0,.int .i64 0,.int .i64 0,.int .i64 0,.int .i8 0,.int .i8 0,.int .i8 0,.string ⟨#[120]⟩,.int .i8 0,.int .i32 0,.int .i32 0,.int .u8 0,.int .u8 0,.slice none 0 0,.int .i64 0,.int .i64 0,.int .i64 0,.int .i64 0,.int .u8 0]
theorem cell_newQ (w:World) (cs:Array Value) (t b j:Nat) (hb:b=w.heap.size):(w.alloc (.cells cs t)).cell? ⟨b,j,none⟩=cs[j]?:=by subst hb;exact World.cell?_alloc_new _ _ _ _
set_option maxRecDepth 100000 in
theorem tree3 (w:World):TreeAt ((w.alloc (.cells #[.int .i64 1,.int .i64 2] 3)).alloc (.cells (rowQ w.heap.size) 46)) (some ⟨w.heap.size+1,0,none⟩) ns3:=by
 have hc:∀ q,((w.alloc (.cells #[.int .i64 1,.int .i64 2] 3)).alloc (.cells (rowQ w.heap.size) 46)).cell? ⟨w.heap.size+1,q,none⟩=(rowQ w.heap.size)[q]?:=fun q=>cell_newQ _ _ _ _ _ (by simp)
 have hz:w.heap.size+1<((w.alloc (.cells #[.int .i64 1,.int .i64 2] 3)).alloc (.cells (rowQ w.heap.size) 46)).heap.size:=by simp
 have hn:∀ W,SlT W (.slice none 0 0) []:=fun W=>⟨none,0,rfl,by simp,fun i x h=>by simp at h⟩
 have hi:∀ W,SlI W (.slice none 0 0) []:=fun W=>⟨none,0,rfl,by simp,fun i x h=>by simp at h⟩
 intro i x hx
 rcases (show i=0∨i=1∨i=2 by have:=(List.getElem?_eq_some_iff.1 hx).1;simp at this;omega) with rfl|rfl|rfl
 ·obtain rfl:rowN=x:=Option.some.inj hx
  refine⟨_,_,rfl,hz,.slice (some ⟨w.heap.size,0,none⟩) 2 2,.slice none 0 0,?_,⟨_,2,rfl,by decide,fun j y hj=>⟨w.heap.size,0,rfl,by simp;omega,?_⟩⟩,hn _⟩
  ·constructor<;>(rw [hc];rfl)
  ·rcases (show j=0∨j=1 by have:=(List.getElem?_eq_some_iff.1 hj).1;simp at this;omega) with rfl|rfl
   ·obtain rfl:(1:Int)=y:=Option.some.inj hj
    exact(World.cell?_alloc_lt _ _ ⟨w.heap.size,0,none⟩ (by simp)).trans (cell_newQ _ _ _ _ _ rfl)
   ·obtain rfl:(2:Int)=y:=Option.some.inj hj
    exact(World.cell?_alloc_lt _ _ ⟨w.heap.size,1,none⟩ (by simp)).trans (cell_newQ _ _ _ _ _ rfl)
 ·obtain rfl:txtN abT=x:=Option.some.inj hx
  refine⟨_,_,rfl,hz,.slice none 0 0,.slice none 0 0,?_,hi _,hn _⟩
  constructor<;>(rw [hc];rfl)
 ·obtain rfl:txtN xT=x:=Option.some.inj hx
  refine⟨_,_,rfl,hz,.slice none 0 0,.slice none 0 0,?_,hi _,hn _⟩
  constructor<;>(rw [hc];rfl)
structure One (w:World) (p:MP) (W:World):Prop where
 mp:MG p W
 b:Below w.heap.size w W
 hp:w.heap.size≤p.bm
theorem One.call {w W W':World} {p:MP} {v:Int} {e:Ending} (h:One w p W) (hc:GPost v p W e W'):One w p W' :=
 ⟨hc.2.2,h.b.grown hc.2.1 h.b.size fun k e=>(by cases e;exact h.hp),h.hp⟩
theorem One.below {w W W':World} {p:MP} (h:One w p W) (hb:Below W.heap.size W W'):One w p W':=⟨h.mp.below hb,h.b.trans (hb.mono h.b.size),h.hp⟩
theorem NewG.ok {ns:List ND} {w W:World} {e:Ending} (h:NewG ns w e W) (h0:(checkS ns).1=0):∃ pm g bk bm cc,e=.returned (.tuple #[.pointer (some ⟨pm,0,none⟩),.int .i64 0])∧Below w.heap.size w W∧w.heap.size≤bm∧MG ⟨pm,g,bk,bm,cc,ns,measF tabF ns⟩ W:=by
 rcases h with ⟨_,pm,g,bk,bm,cc,h1,h2,_,_,_,h3,h4⟩|⟨h1,_⟩
 ·exact⟨pm,g,bk,bm,cc,h1,h2,h3,h4 _⟩
 ·exact absurd h0 h1
set_option maxRecDepth 100000 in
set_option maxHeartbeats 4000000 in
theorem alive_new (w:World):Calls Tryz.prog 9 #[] w (VBel (.bool true) w):=by
 have hb0:Below w.heap.size w ((w.alloc (.cells #[.int .i64 1,.int .i64 2] 3)).alloc (.cells (rowQ w.heap.size) 46)):=by(repeat (first|exact Below.refl _ _|assumption|refine below_drewN ?_ _|refine Below.drew ?_|(refine Below.alloc ?_ ?bs _;(case bs=>first|omega|(simp;done)|(simp;omega)))|(refine Below.setCell ?_ ?bs _;(case bs=>first|omega|(simp;done)|(simp;omega)))))
 have h0:(checkS ns3).1=0:=by rw [check3]
 have hnw:=new_gen _ _ 3 ns3 (tree3 w) (by decide) (fun x hx=>by
  rcases List.mem_cons.1 hx with rfl|hx
  ·exact Nat.zero_le _
  rcases List.mem_cons.1 hx with rfl|hx
  ·exact Nat.zero_le _
  rcases List.mem_cons.1 hx with rfl|hx
  ·exact Nat.zero_le _
  ·cases hx) (fun x hx=>by
  rcases List.mem_cons.1 hx with rfl|hx
  ·exact⟨by decide,by decide,by decide,by decide⟩
  rcases List.mem_cons.1 hx with rfl|hx
  ·exact⟨by decide,by decide,by decide,by decide⟩
  rcases List.mem_cons.1 hx with rfl|hx
  ·exact⟨by decide,by decide,by decide,by decide⟩
  ·cases hx)
 have HNW:=zH (hnw.mono fun e W (h:NewG ns3 _ e W)=>h.ok h0)
 rw [show ns3.length=3 from rfl] at HNW
 have HB0:=zH hb0
 have HSZ:Hid (w.heap.size≤((w.alloc (.cells #[.int .i64 1,.int .i64 2] 3)).alloc (.cells (rowQ w.heap.size) 46)).heap.size):=zH hb0.size
 have hOK:∀ p:MP,p.ns=ns3→p.f=measF tabF ns3→Law tabF p:=fun p e1 e2=>by
  have ht:TreeOk p.ns:=by rw [e1];exact tree_ok h0
  exact⟨ht,by rw [e1];exact e2,tab_all p ht⟩
 have HOK:=zH hOK
 clear hb0 h0 hOK hnw
 go_enter Tryz.func9,Tryz.ntmps9
 go_upto_region 2 with (go_at_call 8;((with_reducible refine HNW.out.mono ?_);rintro e1' w3 ⟨pm,g,bk,bm,cc,rfl,hb3,hbm,hM⟩))
 have HONE:Hid (One w ⟨pm,g,bk,bm,cc,ns3,measF tabF ns3⟩ w3):=zH ⟨hM,HB0.out.trans (hb3.mono HB0.out.size),Nat.le_trans HSZ.out hbm⟩
 have L:=HOK.out ⟨pm,g,bk,bm,cc,ns3,measF tabF ns3⟩ rfl rfl
 have HLE:Hid (∀ W,MG ⟨pm,g,bk,bm,cc,ns3,measF tabF ns3⟩ W→Calls Tryz.prog 11 #[.pointer (some ⟨pm,0,none⟩),.int .i64 0] W (GPost 5 ⟨pm,g,bk,bm,cc,ns3,measF tabF ns3⟩ W)):=zH fun W hW=>by
  have:=ask_least L 0 W hW
  rwa [show ansS ⟨pm,g,bk,bm,cc,ns3,measF tabF ns3⟩ 0 0 0=5 from(if_pos (show (0:Int)≤0∧(0:Int)<((3:Nat):Int) by decide)).trans (alive_least L rfl)] at this
 have HMO:Hid (∀ W,MG ⟨pm,g,bk,bm,cc,ns3,measF tabF ns3⟩ W→Calls Tryz.prog 12 #[.pointer (some ⟨pm,0,none⟩),.int .i64 0] W (GPost 8 ⟨pm,g,bk,bm,cc,ns3,measF tabF ns3⟩ W)):=zH fun W hW=>by
  have:=ask_most L 0 W hW
  rwa [show ansS ⟨pm,g,bk,bm,cc,ns3,measF tabF ns3⟩ 0 1 0=8 from(if_pos (show (0:Int)≤0∧(0:Int)<((3:Nat):Int) by decide)).trans (alive_most L rfl)] at this
 have HT8:Hid (∀ W,MG ⟨pm,g,bk,bm,cc,ns3,measF tabF ns3⟩ W→Calls Tryz.prog 10 #[.pointer (some ⟨pm,0,none⟩),.int .i64 0,.int .i64 8] W (GPost 1 ⟨pm,g,bk,bm,cc,ns3,measF tabF ns3⟩ W)):=zH fun W hW=>by
  have:=ask_tall L 0 8 ⟨by decide,by decide⟩ W hW
  rwa [show ansS ⟨pm,g,bk,bm,cc,ns3,measF tabF ns3⟩ 0 2 (sideS 8)=1 from(if_pos (show (0:Int)≤0∧(0:Int)<((3:Nat):Int) by decide)).trans (alive_tall8 L rfl)] at this
 have HT5:Hid (∀ W,MG ⟨pm,g,bk,bm,cc,ns3,measF tabF ns3⟩ W→Calls Tryz.prog 10 #[.pointer (some ⟨pm,0,none⟩),.int .i64 0,.int .i64 5] W (GPost 2 ⟨pm,g,bk,bm,cc,ns3,measF tabF ns3⟩ W)):=zH fun W hW=>by
  have:=ask_tall L 0 5 ⟨by decide,by decide⟩ W hW
  rwa [show ansS ⟨pm,g,bk,bm,cc,ns3,measF tabF ns3⟩ 0 2 (sideS 5)=2 from(if_pos (show (0:Int)≤0∧(0:Int)<((3:Nat):Int) by decide)).trans (alive_tall5 L rfl)] at this
 have HT9:Hid (∀ W,MG ⟨pm,g,bk,bm,cc,ns3,measF tabF ns3⟩ W→Calls Tryz.prog 10 #[.pointer (some ⟨pm,0,none⟩),.int .i64 9,.int .i64 5] W (GPost 0 ⟨pm,g,bk,bm,cc,ns3,measF tabF ns3⟩ W)):=zH fun W hW=>by
  have:=ask_tall L 9 5 ⟨by decide,by decide⟩ W hW
  rwa [show ansS ⟨pm,g,bk,bm,cc,ns3,measF tabF ns3⟩ 9 2 (sideS 5)=0 from if_neg (show ¬ ((0:Int)≤9∧(9:Int)<((3:Nat):Int)) by decide)] at this
 generalize (⟨pm,g,bk,bm,cc,ns3,measF tabF ns3⟩:MP)=p at HONE HLE HMO HT8 HT5 HT9
 clear L HOK HNW HB0 HSZ hb3 hbm hM
 go_wp2_with (first|(go_at_call 8;((with_reducible refine(new_empty _).mono ?_);rintro e1' w4 ⟨rfl,hb4⟩;have H4:=zH (HONE.out.below hb4);clear hb4))|(go_at_call 11;((with_reducible refine(least_nil _ _).mono ?_);rintro e1' w5 ⟨rfl,hb5⟩;have H5:=zH (H4.out.below hb5);clear hb5))|(go_at_call 10;((with_reducible refine(tall_nil _ _ _ (by omega)).mono ?_);rintro e1' w6 ⟨rfl,hb6⟩;have H6:=zH (H5.out.below hb6);clear hb6))|(go_at_call 12;((with_reducible refine(most_nil _ _).mono ?_);rintro e1' w7 ⟨rfl,hb7⟩;have H7:=zH (H6.out.below hb7);clear hb7))|(go_at_call 11;((with_reducible refine(HLE.out _ H7.out.mp).mono ?_);rintro e1' w8 hp8;have H8:=zH (H7.out.call hp8);obtain⟨rfl,_,_⟩:=hp8))|(go_at_call 12;((with_reducible refine(HMO.out _ H8.out.mp).mono ?_);rintro e1' w9 hp9;have H9:=zH (H8.out.call hp9);obtain⟨rfl,_,_⟩:=hp9))|(go_at_call 10;((with_reducible refine(HT8.out _ H9.out.mp).mono ?_);rintro e1' w10 hp10;have H10:=zH (H9.out.call hp10);obtain⟨rfl,_,_⟩:=hp10))|(go_at_call 10;((with_reducible refine(HT5.out _ H10.out.mp).mono ?_);rintro e1' w11 hp11;have H11:=zH (H10.out.call hp11);obtain⟨rfl,_,_⟩:=hp11))|(go_at_call 10;((with_reducible refine(HT9.out _ H11.out.mp).mono ?_);rintro e1' w12 hp12;have H12:=zH (H11.out.call hp12);obtain⟨rfl,_,_⟩:=hp12)))
 go_ret
 exact⟨rfl,H12.out.b⟩
end Go.Proofs.YtlenbcmgjancmaaGreatDoor
