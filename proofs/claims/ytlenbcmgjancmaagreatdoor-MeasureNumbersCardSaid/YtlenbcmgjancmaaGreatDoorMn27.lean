import Derived.Test.YtlenbcmgjancmaaGreatDoorMn25
import Derived.Test.YtlenbcmgjancmaaGreatDoorMn19
import Derived.IntWalk
import Derived.Test.YtlenbcmgjancmaaGreatDoorMn20
import Derived.Test.YtlenbcmgjancmaaGreatDoorMn23
import Derived.Deep.RegionWith
import Derived.Deep.DeepCutAuto
set_option linter.unusedVariables false
set_option linter.unusedSimpArgs false
namespace Go.Proofs.YtlenbcmgjancmaaGreatDoor
open Go.RowKit
set_option maxRecDepth 100000 in
set_option maxHeartbeats 4000000 in
theorem symN_one {W0 W:World} {d N:Nat} {tl:List Value} {l:List Ned} (h:SrN W0 d tl N l W) {A M B:Int} (a m b c:Nat) (eA:A=a) (eM:M=m) (eB:B=b) (ha:m=a+1) (hm:m<b) (hb:b≤N) :
  Calls Tryz.prog 179 #[.slice (some ⟨d,0,none⟩) N c,.int .i64 A,.int .i64 M,.int .i64 B,cmpN] W (fun e W'=>e=.returned (.tuple #[])∧SrN W0 d tl N (upF (bs (fun h=>ltN (gd l h) (gd l a)) (b - m) m b - 1 - a) a l) W'):=by
 subst eA eM eB
 have H:=zH h
 have hrn:N≤1048576:=h.nb
 clear h
 obtain⟨I,hI⟩:∃ I,bs (fun h=>ltN (gd l h) (gd l a)) (b - m) m b=I:=⟨_,rfl⟩
 have HI:=zH hI
 rw [hI]
 clear hI
 have e1:(m:Int) - (a:Int)=1:=by omega
 have ha1:m≤a+1:=by omega
 have ha2:a+1≤m:=by omega
 clear ha
 go_enter Tryz.func179,Tryz.ntmps179
 go_wp2
 go_loopw [10,11] (fun i j wr=>∃ x y f:Nat,i=.int .i64 x∧j=.int .i64 y∧m≤x∧x≤y∧y≤b∧y - x≤f∧SrN W0 d tl N l wr∧bs (fun h=>ltN (gd l h) (gd l a)) f x y=I) (fun i j _=>(intOf j).toNat - (intOf i).toNat)
 case atStart=>exact⟨m,b,b - m,rfl,rfl,by omega,by omega,by omega,by omega,H.out,HI.out⟩
 case round=>
  obtain⟨x,y,f,rfl,rfl,hmx,hxy,hyb,hf,hS,hQ⟩:=hrel
  have HT:=zH hS
  clear hS
  by_cases hlt:x<y
  ·have hltI:(x:Int)<(y:Int):=by omega
   obtain⟨f,rfl⟩:∃ f',f=f'+1:=⟨f - 1,by omega⟩
   obtain⟨q,hq⟩:∃ q,q=(x+y) / 2:=⟨_,rfl⟩
   have e2:((x:Int)+(y:Int)) / 2=(q:Int):=by omega
   have hI1:(q:Int)<(N:Int):=by omega
   have hI2:(a:Int)<(N:Int):=by omega
   have lq:=HT.out.lt
   obtain⟨u,hu⟩:∃ u,gd l q=u:=⟨_,rfl⟩
   obtain⟨v,hv⟩:∃ v,gd l a=v:=⟨_,rfl⟩
   have c1:=HT.out.at (i:=q) (by omega)
   have c2:=HT.out.at (i:=a) (by omega)
   have r1:=HT.out.gok (i:=q) (by omega)
   have r2:=HT.out.gok (i:=a) (by omega)
   rw [hu] at c1 r1
   rw [hv] at c2 r2
   obtain⟨D,hDe⟩:∃ D,u.s - v.s=D:=⟨_,rfl⟩
   have HC:Hid (∀ W,Calls Tryz.prog 135 #[.agg #[.int .i64 u.a,.int .i64 u.s,.int .i64 u.z],.agg #[.int .i64 v.a,.int .i64 v.s,.int .i64 v.z]] W (VBel (.int .i64 D) W)):=zH fun W=>by rw [← hDe];exact cmpN_any u v r1 r2 W
   have hY:D<0→bs (fun h=>ltN (gd l h) (gd l a)) f (q+1) y=I:=fun hD=>by rw [← hQ];exact(bs_yes hlt hq (by show decide ((gd l q).s - (gd l a).s<0)=true;rw [hu,hv,hDe];exact decide_eq_true hD)).symm
   have hZ:¬ D<0→bs (fun h=>ltN (gd l h) (gd l a)) f x q=I:=fun hD=>by rw [← hQ];exact(bs_no hlt hq (by show decide ((gd l q).s - (gd l a).s<0)=false;rw [hu,hv,hDe];exact decide_eq_false hD)).symm
   clear hQ hu hv hDe r1 r2
   obtain⟨u1,u2,u3⟩:=u
   obtain⟨v1,v2,v3⟩:=v
   obtain⟨c1,c1b,c1c⟩:=c1
   obtain⟨c2,c2b,c2c⟩:=c2
   dsimp only at c1 c1b c1c c2 c2b c2c HC
   by_cases hD:D<0
   ·have HQ:=zH (hY hD)
    clear hY hZ
    have hqx:x≤q∧q<y:=by omega
    clear hq
    go_upto_region 5 with (fail)
    go_cut [50] (fun v W'=>v=.bool true∧SrN W0 d tl N l W')
    case first=>as_aux_lemma=>
     go_region_held3 (fun W=>W.cell? ⟨d,q*3,none⟩=some (.int .i64 u1)∧W.cell? ⟨d,q*3+1,none⟩=some (.int .i64 u2)∧W.cell? ⟨d,q*3+2,none⟩=some (.int .i64 u3)∧W.cell? ⟨d,a*3,none⟩=some (.int .i64 v1)∧W.cell? ⟨d,a*3+1,none⟩=some (.int .i64 v2)∧W.cell? ⟨d,a*3+2,none⟩=some (.int .i64 v3)∧SrN W0 d tl N l W)
 ((first|exact⟨c1,c1b,c1c,c2,c2b,c2c,HT.out⟩|exact⟨c1,c1b,c1c,c2,c2b,c2c,HT.out.drew⟩|exact⟨k1,k2,k3,k4,k5,k6,k7⟩))
 (first|(go_at_call 135;((with_reducible refine(HC.out _).mono ?_);rintro e1' w2 ⟨rfl,hb2⟩;have k7:=SrN.below HT.out.drew hb2;have k1:=(hb2.cell (p:=⟨d,q*3,none⟩) HT.out.lt).trans c1;have k2:=(hb2.cell (p:=⟨d,q*3+1,none⟩) HT.out.lt).trans c1b;have k3:=(hb2.cell (p:=⟨d,q*3+2,none⟩) HT.out.lt).trans c1c;have k4:=(hb2.cell (p:=⟨d,a*3,none⟩) HT.out.lt).trans c2;have k5:=(hb2.cell (p:=⟨d,a*3+1,none⟩) HT.out.lt).trans c2b;have k6:=(hb2.cell (p:=⟨d,a*3+2,none⟩) HT.out.lt).trans c2c)))
     all_goals
      go_wp2
      go_meet
      exact⟨rfl,by first|exact k7|exact k7.drew⟩
    case rest=>
    obtain⟨rfl,hS1⟩:=hcut
    have HT1:=zH hS1
    clear hS1 HC c1 c1b c1c c2 c2b c2c HT u1 u2 u3 v1 v2 v3
    go_wp2
    go_roundw
    case rel=>exact⟨q+1,y,f,by first|rfl|go_num,rfl,by omega,by omega,by omega,by omega,HT1.out,HQ.out⟩
    case measure=>simp [intOf]<;>omega
   ·have HQ:=zH (hZ hD)
    have hDd:decide (D<0)=false:=decide_eq_false hD
    clear hD
    clear hY hZ
    have hqx:x≤q∧q<y:=by omega
    clear hq
    go_upto_region 5 with (fail)
    go_cut [50] (fun v W'=>v=.bool false∧SrN W0 d tl N l W')
    case first=>as_aux_lemma=>
     go_region_held3 (fun W=>W.cell? ⟨d,q*3,none⟩=some (.int .i64 u1)∧W.cell? ⟨d,q*3+1,none⟩=some (.int .i64 u2)∧W.cell? ⟨d,q*3+2,none⟩=some (.int .i64 u3)∧W.cell? ⟨d,a*3,none⟩=some (.int .i64 v1)∧W.cell? ⟨d,a*3+1,none⟩=some (.int .i64 v2)∧W.cell? ⟨d,a*3+2,none⟩=some (.int .i64 v3)∧SrN W0 d tl N l W)
 ((first|exact⟨c1,c1b,c1c,c2,c2b,c2c,HT.out⟩|exact⟨c1,c1b,c1c,c2,c2b,c2c,HT.out.drew⟩|exact⟨k1,k2,k3,k4,k5,k6,k7⟩))
 (first|(go_at_call 135;((with_reducible refine(HC.out _).mono ?_);rintro e1' w2 ⟨rfl,hb2⟩;have k7:=SrN.below HT.out.drew hb2;have k1:=(hb2.cell (p:=⟨d,q*3,none⟩) HT.out.lt).trans c1;have k2:=(hb2.cell (p:=⟨d,q*3+1,none⟩) HT.out.lt).trans c1b;have k3:=(hb2.cell (p:=⟨d,q*3+2,none⟩) HT.out.lt).trans c1c;have k4:=(hb2.cell (p:=⟨d,a*3,none⟩) HT.out.lt).trans c2;have k5:=(hb2.cell (p:=⟨d,a*3+1,none⟩) HT.out.lt).trans c2b;have k6:=(hb2.cell (p:=⟨d,a*3+2,none⟩) HT.out.lt).trans c2c)))
     all_goals
      go_wp2
      go_meet
      exact⟨rfl,by first|exact k7|exact k7.drew⟩
    case rest=>
    obtain⟨rfl,hS1⟩:=hcut
    have HT1:=zH hS1
    clear hS1 HC c1 c1b c1c c2 c2b c2c HT u1 u2 u3 v1 v2 v3
    go_wp2
    go_roundw
    case rel=>exact⟨x,q,f,rfl,by first|rfl|go_num,by omega,by omega,by omega,by omega,HT1.out,HQ.out⟩
    case measure=>simp [intOf]<;>omega
  ·obtain rfl:y=x:=by omega
   have hIx:y=I:=by
    rw [← hQ]
    cases f<;>simp [bs]
   subst hIx
   clear hQ HI
   go_wp2
   go_loopw [13] (fun k wr=>∃ (x:Nat) (lq:List Ned),k=.int .i64 x∧a≤x∧x+1≤y∧SrN W0 d tl N lq wr∧upF (y - 1 - x) x lq=upF (y - 1 - a) a l) (fun k _=>y - (intOf k).toNat)
   case atStart=>exact⟨a,l,rfl,by omega,by omega,HT.out,rfl⟩
   case round=>
    obtain⟨x,lq,rfl,hax,hxy2,hS,hQ⟩:=hrel
    have HT1:=zH hS
    have HQ:=zH hQ
    clear hS hQ HT
    by_cases hlt3:x<y - 1
    ·have hltI:(x:Int)<(y:Int) - 1:=by omega
     have hI1:(x:Int)<(N:Int):=by omega
     have hI2:(x:Int)+1<(N:Int):=by omega
     have HQ1:Hid (upF (y - 1 - (x+1)) (x+1) (swp lq x (x+1))=upF (y - 1 - a) a l):=zH (by rw [← HQ.out,show y - 1 - x=(y - 1 - (x+1))+1 by omega];rfl)
     have l1:=HT1.out.lt
     obtain⟨u,hu⟩:∃ u,gd lq x=u:=⟨_,rfl⟩
     obtain⟨v,hv⟩:∃ v,gd lq (x+1)=v:=⟨_,rfl⟩
     have c1:=HT1.out.at (i:=x) (by omega)
     have c2:=HT1.out.at (i:=(x+1)) (by omega)
     have HW:=zH (HT1.out.swap (i:=x) (j:=(x+1)) (by omega) (by omega) u v hu hv)
     obtain⟨y,c3⟩:=HT1.out.mid (i:=x) (j:=(x+1)) (by omega) (by omega) v
     have g1:=HT1.out.mfroz (i:=x) v ((x+1)*3)
     have g2:=HT1.out.mfroz (i:=x) v ((x+1)*3+1)
     have g3:=HT1.out.mfroz (i:=x) v ((x+1)*3+2)
     have f1:=HT1.out.froz (x*3)
     have f2:=HT1.out.froz (x*3+1)
     have f3:=HT1.out.froz (x*3+2)
     rw [hu] at c1
     rw [hv] at c2
     clear hu hv
     obtain⟨u1,u2,u3⟩:=u
     obtain⟨v1,v2,v3⟩:=v
     obtain⟨c1,c1b,c1c⟩:=c1
     obtain⟨c2,c2b,c2c⟩:=c2
     obtain⟨c3,c3b,c3c⟩:=c3
     dsimp only at c1 c1b c1c c2 c2b c2c c3 c3b c3c g1 g2 g3 HW
     go_wp2
     go_region
     go_wp2
     go_roundw
     case rel=>exact⟨x+1,swp lq x (x+1),by first|rfl|go_num,by omega,by omega,by first|exact HW.out.drew|exact HW.out.drewN _|exact HW.out,HQ1.out⟩
     case measure=>simp [intOf]<;>omega
    ·have hltI:¬ (x:Int)<(y:Int) - 1:=by omega
     have HE:Hid (lq=upF (y - 1 - a) a l):=zH (by rw [← HQ.out,show y - 1 - x=0 by omega];rfl)
     go_wp2
     refine bodyPost_ret (results_none rfl _ _ _) rfl ?_
     exact⟨rfl,HT1.out.to HE.out⟩
set_option maxRecDepth 100000 in
set_option maxHeartbeats 4000000 in
theorem symN_two {W0 W:World} {d N:Nat} {tl:List Value} {l:List Ned} (h:SrN W0 d tl N l W) {A M B:Int} (a m b c:Nat) (eA:A=a) (eM:M=m) (eB:B=b) (ha:a+1<m) (hm:b=m+1) (hb:b≤N) :
  Calls Tryz.prog 179 #[.slice (some ⟨d,0,none⟩) N c,.int .i64 A,.int .i64 M,.int .i64 B,cmpN] W (fun e W'=>e=.returned (.tuple #[])∧SrN W0 d tl N (dnF (bs (fun h=>!ltN (gd l m) (gd l h)) (m - a) a m) m l) W'):=by
 subst eA eM eB
 have H:=zH h
 have hrn:N≤1048576:=h.nb
 clear h
 obtain⟨I,hI⟩:∃ I,bs (fun h=>!ltN (gd l m) (gd l h)) (m - a) a m=I:=⟨_,rfl⟩
 have HI:=zH hI
 rw [hI]
 clear hI
 have e0:((m:Int) - (a:Int) == 1)=false:=by rw [beq_eq_false_iff_ne];omega
 have e1:(b:Int) - (m:Int)=1:=by omega
 have hb1:b≤m+1:=by omega
 have hb2:m+1≤b:=by omega
 clear hm
 go_enter Tryz.func179,Tryz.ntmps179
 go_wp2
 go_loopw [14,15] (fun i j wr=>∃ x y f:Nat,i=.int .i64 x∧j=.int .i64 y∧a≤x∧x≤y∧y≤m∧y - x≤f∧SrN W0 d tl N l wr∧bs (fun h=>!ltN (gd l m) (gd l h)) f x y=I) (fun i j _=>(intOf j).toNat - (intOf i).toNat)
 case atStart=>exact⟨a,m,m - a,rfl,rfl,by omega,by omega,by omega,by omega,H.out,HI.out⟩
 case round=>
  obtain⟨x,y,f,rfl,rfl,hmx,hxy,hyb,hf,hS,hQ⟩:=hrel
  have HT:=zH hS
  clear hS
  by_cases hlt:x<y
  ·have hltI:(x:Int)<(y:Int):=by omega
   obtain⟨f,rfl⟩:∃ f',f=f'+1:=⟨f - 1,by omega⟩
   obtain⟨q,hq⟩:∃ q,q=(x+y) / 2:=⟨_,rfl⟩
   have e2:((x:Int)+(y:Int)) / 2=(q:Int):=by omega
   have hI1:(q:Int)<(N:Int):=by omega
   have hI2:(m:Int)<(N:Int):=by omega
   have lq:=HT.out.lt
   obtain⟨u,hu⟩:∃ u,gd l m=u:=⟨_,rfl⟩
   obtain⟨v,hv⟩:∃ v,gd l q=v:=⟨_,rfl⟩
   have c1:=HT.out.at (i:=m) (by omega)
   have c2:=HT.out.at (i:=q) (by omega)
   have r1:=HT.out.gok (i:=m) (by omega)
   have r2:=HT.out.gok (i:=q) (by omega)
   rw [hu] at c1 r1
   rw [hv] at c2 r2
   obtain⟨D,hDe⟩:∃ D,u.s - v.s=D:=⟨_,rfl⟩
   have HC:Hid (∀ W,Calls Tryz.prog 135 #[.agg #[.int .i64 u.a,.int .i64 u.s,.int .i64 u.z],.agg #[.int .i64 v.a,.int .i64 v.s,.int .i64 v.z]] W (VBel (.int .i64 D) W)):=zH fun W=>by rw [← hDe];exact cmpN_any u v r1 r2 W
   have hY:¬ D<0→bs (fun h=>!ltN (gd l m) (gd l h)) f (q+1) y=I:=fun hD=>by rw [← hQ];exact(bs_yes hlt hq (by show (!decide ((gd l m).s - (gd l q).s<0))=true;rw [hu,hv,hDe,decide_eq_false hD];rfl)).symm
   have hZ:D<0→bs (fun h=>!ltN (gd l m) (gd l h)) f x q=I:=fun hD=>by rw [← hQ];exact(bs_no hlt hq (by show (!decide ((gd l m).s - (gd l q).s<0))=false;rw [hu,hv,hDe,decide_eq_true hD];rfl)).symm
   clear hQ hu hv hDe r1 r2
   obtain⟨u1,u2,u3⟩:=u
   obtain⟨v1,v2,v3⟩:=v
   obtain⟨c1,c1b,c1c⟩:=c1
   obtain⟨c2,c2b,c2c⟩:=c2
   dsimp only at c1 c1b c1c c2 c2b c2c HC
   by_cases hD:D<0
   ·have HQ:=zH (hZ hD)
    clear hY hZ
    have hqx:x≤q∧q<y:=by omega
    clear hq
    go_upto_region 17 with (fail)
    go_cut [103] (fun v W'=>v=.bool false∧SrN W0 d tl N l W')
    case first=>as_aux_lemma=>
     go_region_held3 (fun W=>W.cell? ⟨d,m*3,none⟩=some (.int .i64 u1)∧W.cell? ⟨d,m*3+1,none⟩=some (.int .i64 u2)∧W.cell? ⟨d,m*3+2,none⟩=some (.int .i64 u3)∧W.cell? ⟨d,q*3,none⟩=some (.int .i64 v1)∧W.cell? ⟨d,q*3+1,none⟩=some (.int .i64 v2)∧W.cell? ⟨d,q*3+2,none⟩=some (.int .i64 v3)∧SrN W0 d tl N l W)
 ((first|exact⟨c1,c1b,c1c,c2,c2b,c2c,HT.out⟩|exact⟨c1,c1b,c1c,c2,c2b,c2c,HT.out.drew⟩|exact⟨k1,k2,k3,k4,k5,k6,k7⟩))
 (first|(go_at_call 135;((with_reducible refine(HC.out _).mono ?_);rintro e1' w2 ⟨rfl,hb2⟩;have k7:=SrN.below HT.out.drew hb2;have k1:=(hb2.cell (p:=⟨d,m*3,none⟩) HT.out.lt).trans c1;have k2:=(hb2.cell (p:=⟨d,m*3+1,none⟩) HT.out.lt).trans c1b;have k3:=(hb2.cell (p:=⟨d,m*3+2,none⟩) HT.out.lt).trans c1c;have k4:=(hb2.cell (p:=⟨d,q*3,none⟩) HT.out.lt).trans c2;have k5:=(hb2.cell (p:=⟨d,q*3+1,none⟩) HT.out.lt).trans c2b;have k6:=(hb2.cell (p:=⟨d,q*3+2,none⟩) HT.out.lt).trans c2c)))
     all_goals
      go_wp2
      go_meet
      exact⟨rfl,by first|exact k7|exact k7.drew⟩
    case rest=>
    obtain⟨rfl,hS1⟩:=hcut
    have HT1:=zH hS1
    clear hS1 HC c1 c1b c1c c2 c2b c2c HT u1 u2 u3 v1 v2 v3
    go_wp2
    go_roundw
    case rel=>exact⟨x,q,f,rfl,by first|rfl|go_num,by omega,by omega,by omega,by omega,HT1.out,HQ.out⟩
    case measure=>simp [intOf]<;>omega
   ·have HQ:=zH (hY hD)
    have hDd:decide (D<0)=false:=decide_eq_false hD
    clear hD
    clear hY hZ
    have hqx:x≤q∧q<y:=by omega
    clear hq
    go_upto_region 17 with (fail)
    go_cut [103] (fun v W'=>v=.bool true∧SrN W0 d tl N l W')
    case first=>as_aux_lemma=>
     go_region_held3 (fun W=>W.cell? ⟨d,m*3,none⟩=some (.int .i64 u1)∧W.cell? ⟨d,m*3+1,none⟩=some (.int .i64 u2)∧W.cell? ⟨d,m*3+2,none⟩=some (.int .i64 u3)∧W.cell? ⟨d,q*3,none⟩=some (.int .i64 v1)∧W.cell? ⟨d,q*3+1,none⟩=some (.int .i64 v2)∧W.cell? ⟨d,q*3+2,none⟩=some (.int .i64 v3)∧SrN W0 d tl N l W)
 ((first|exact⟨c1,c1b,c1c,c2,c2b,c2c,HT.out⟩|exact⟨c1,c1b,c1c,c2,c2b,c2c,HT.out.drew⟩|exact⟨k1,k2,k3,k4,k5,k6,k7⟩))
 (first|(go_at_call 135;((with_reducible refine(HC.out _).mono ?_);rintro e1' w2 ⟨rfl,hb2⟩;have k7:=SrN.below HT.out.drew hb2;have k1:=(hb2.cell (p:=⟨d,m*3,none⟩) HT.out.lt).trans c1;have k2:=(hb2.cell (p:=⟨d,m*3+1,none⟩) HT.out.lt).trans c1b;have k3:=(hb2.cell (p:=⟨d,m*3+2,none⟩) HT.out.lt).trans c1c;have k4:=(hb2.cell (p:=⟨d,q*3,none⟩) HT.out.lt).trans c2;have k5:=(hb2.cell (p:=⟨d,q*3+1,none⟩) HT.out.lt).trans c2b;have k6:=(hb2.cell (p:=⟨d,q*3+2,none⟩) HT.out.lt).trans c2c)))
     all_goals
      go_wp2
      go_meet
      exact⟨rfl,by first|exact k7|exact k7.drew⟩
    case rest=>
    obtain⟨rfl,hS1⟩:=hcut
    have HT1:=zH hS1
    clear hS1 HC c1 c1b c1c c2 c2b c2c HT u1 u2 u3 v1 v2 v3
    go_wp2
    go_roundw
    case rel=>exact⟨q+1,y,f,by first|rfl|go_num,rfl,by omega,by omega,by omega,by omega,HT1.out,HQ.out⟩
    case measure=>simp [intOf]<;>omega
  ·obtain rfl:y=x:=by omega
   have hIx:y=I:=by
    rw [← hQ]
    cases f<;>simp [bs]
   subst hIx
   clear hQ HI
   go_wp2
   go_loopw [17] (fun k wr=>∃ (x:Nat) (lq:List Ned),k=.int .i64 x∧x≤m∧y≤x∧SrN W0 d tl N lq wr∧dnF y x lq=dnF y m l) (fun k _=>(intOf k).toNat)
   case atStart=>exact⟨m,l,rfl,by omega,by omega,HT.out,rfl⟩
   case round=>
    obtain⟨x,lq,rfl,hax,hxy2,hS,hQ⟩:=hrel
    have HT1:=zH hS
    have HQ:=zH hQ
    clear hS hQ HT
    by_cases hlt3:y<x
    ·obtain⟨q,rfl⟩:∃ q,x=q+1:=⟨x - 1,by omega⟩
     have hltI:(y:Int)<((q+1:Nat):Int):=by omega
     have hltK:(y:Int)<(q:Int)+1:=by omega
     have hI1:(q:Int)<(N:Int):=by omega
     have hI2:(q:Int)+1<(N:Int):=by omega
     have hq1:dnF y (q+1) lq=if y<q+1 then dnF y q (swp lq (q+1) q) else lq:=rfl
     rw [if_pos hlt3,HQ.out] at hq1
     have HQ1:=zH hq1
     clear hq1
     have l1:=HT1.out.lt
     obtain⟨u,hu⟩:∃ u,gd lq (q+1)=u:=⟨_,rfl⟩
     obtain⟨v,hv⟩:∃ v,gd lq q=v:=⟨_,rfl⟩
     have c1:=HT1.out.at (i:=(q+1)) (by omega)
     have c2:=HT1.out.at (i:=q) (by omega)
     have HW:=zH (HT1.out.swap (i:=(q+1)) (j:=q) (by omega) (by omega) u v hu hv)
     obtain⟨y,c3⟩:=HT1.out.mid (i:=(q+1)) (j:=q) (by omega) (by omega) v
     have g1:=HT1.out.mfroz (i:=(q+1)) v (q*3)
     have g2:=HT1.out.mfroz (i:=(q+1)) v (q*3+1)
     have g3:=HT1.out.mfroz (i:=(q+1)) v (q*3+2)
     have f1:=HT1.out.froz ((q+1)*3)
     have f2:=HT1.out.froz ((q+1)*3+1)
     have f3:=HT1.out.froz ((q+1)*3+2)
     rw [hu] at c1
     rw [hv] at c2
     clear hu hv
     obtain⟨u1,u2,u3⟩:=u
     obtain⟨v1,v2,v3⟩:=v
     obtain⟨c1,c1b,c1c⟩:=c1
     obtain⟨c2,c2b,c2c⟩:=c2
     obtain⟨c3,c3b,c3c⟩:=c3
     dsimp only at c1 c1b c1c c2 c2b c2c c3 c3b c3c g1 g2 g3 HW
     go_wp2
     go_region
     go_wp2
     go_roundw
     case rel=>exact⟨q,swp lq (q+1) q,by first|rfl|go_num,by omega,by omega,by first|exact HW.out.drew|exact HW.out.drewN _|exact HW.out,HQ1.out.symm⟩
     case measure=>simp [intOf]<;>omega
    ·obtain rfl:x=y:=by omega
     have HE:Hid (lq=dnF x m l):=zH (by rw [← HQ.out];cases x<;>simp [dnF])
     have hltI:¬ (x:Int)<(x:Int):=by omega
     go_wp2
     refine bodyPost_ret (results_none rfl _ _ _) rfl ?_
     exact⟨rfl,HT1.out.to HE.out⟩
end Go.Proofs.YtlenbcmgjancmaaGreatDoor
namespace Go.Proofs.YtlenbcmgjancmaaGreatDoor
open Go.RowKit
def SymCN (f:Nat) (W0:World) (d N:Nat) (tl:List Value):Prop :=
 ∀ (W:World) (l:List Ned) (a m b c:Nat),SrN W0 d tl N l W→a<m→m<b→b≤N→b - a≤f→
  Calls Tryz.prog 179 #[.slice (some ⟨d,0,none⟩) N c,.int .i64 a,.int .i64 m,.int .i64 b,cmpN] W (fun e W'=>e=.returned (.tuple #[])∧SrN W0 d tl N (symF ltN f a m b l) W')
def GenCN (W0:World) (d N:Nat) (tl:List Value) (l:List Ned) (a m b S:Nat) (v2 v3:Value) (W:World):Prop :=
 ∃ x y f:Nat,v2=.int .i64 x∧v3=.int .i64 y∧a≤x∧x≤y∧y≤(a+b) / 2∧y≤m∧(a+b) / 2+m≤x+b∧y - x≤f∧SrN W0 d tl N l W∧bs (fun c=>!ltN (gd l ((a+b) / 2+m - 1 - c)) (gd l c)) f x y=S
set_option maxRecDepth 100000 in
set_option maxHeartbeats 8000000 in
theorem symN_gen {f W0 d N tl} (IH:SymCN f W0 d N tl) {W:World} {l:List Ned} (h:SrN W0 d tl N l W) (a m b c:Nat) (ha:a+1<m) (hm:m+1<b) (hb:b≤N) (hf:b - a≤f+1) :
  Calls Tryz.prog 179 #[.slice (some ⟨d,0,none⟩) N c,.int .i64 a,.int .i64 m,.int .i64 b,cmpN] W (fun e W'=>e=.returned (.tuple #[])∧SrN W0 d tl N (symF ltN (f+1) a m b l) W'):=by
 have H:=zH h
 unfold SymCN at IH
 have HIH:=zH IH
 have hrn:N≤1048576:=h.nb
 clear h IH
 have hs:=sym_s ltN l a m b (by omega) (by omega)
 have hsp:symF ltN (f+1) a m b l=(
   let mid:=(a+b) / 2
   let n:=mid+m
   let s:=if mid<m then bs (fun c=>!ltN (gd l (n - 1 - c)) (gd l c)) (mid - (n - b)) (n - b) mid else bs (fun c=>!ltN (gd l (n - 1 - c)) (gd l c)) (m - a) a m
   let e:=n - s
   let l1:=if s<m∧m<e then rotS s m e l else l
   let l2:=if a<s∧s<mid then symF ltN f a s mid l1 else l1
   if mid<e∧e<b then symF ltN f mid e b l2 else l2):=by
  rw [symF,if_neg (by omega),if_neg (by omega)]
 dsimp only at hs hsp
 obtain⟨mid,hmid⟩:∃ mid,(a+b) / 2=mid:=⟨_,rfl⟩
 rw [hmid] at hs hsp
 obtain⟨S,hS⟩:∃ S,(if mid<m then bs (fun c=>!ltN (gd l (mid+m - 1 - c)) (gd l c)) (mid - (mid+m - b)) (mid+m - b) mid else bs (fun c=>!ltN (gd l (mid+m - 1 - c)) (gd l c)) (m - a) a m)=S:=⟨_,rfl⟩
 rw [hS] at hs hsp
 obtain⟨k1,k2,k3,k4,k5,k6⟩:=hs
 obtain⟨e,he⟩:∃ e,mid+m - S=e:=⟨_,rfl⟩
 rw [he] at hsp k4 k5 k6
 obtain⟨l1,hl1⟩:∃ l1,(if S<m∧m<e then rotS S m e l else l)=l1:=⟨_,rfl⟩
 rw [hl1] at hsp
 obtain⟨l2,hl2⟩:∃ l2,(if a<S∧S<mid then symF ltN f a S mid l1 else l1)=l2:=⟨_,rfl⟩
 rw [hl2] at hsp
 obtain⟨l3,hl3⟩:∃ l3,(if mid<e∧e<b then symF ltN f mid e b l2 else l2)=l3:=⟨_,rfl⟩
 rw [hl3] at hsp
 rw [hsp]
 have HS:=zH hS
 have HL1:=zH hl1
 have HL2:=zH hl2
 have HL3:=zH hl3
 clear hsp hS hl1 hl2 hl3
 have e0:((m:Int) - (a:Int) == 1)=false:=by rw [beq_eq_false_iff_ne];omega
 have e1:((b:Int) - (m:Int) == 1)=false:=by rw [beq_eq_false_iff_ne];omega
 have e2:((a:Int)+(b:Int)) / 2=(mid:Int):=by omega
 go_enter Tryz.func179,Tryz.ntmps179
 go_upto_if 140 with (fail)
 go_cut [20,21] (GenCN W0 d N tl l a m b S)
 case first=>as_aux_lemma=>
  by_cases hmm:mid<m
  ·have hmmI:(mid:Int)<(m:Int):=by omega
   go_wp2_with fail
   go_meet
   refine⟨mid+m - b,mid,mid - (mid+m - b),?_,rfl,by omega,by omega,by omega,by omega,by omega,by omega,H.out,?_⟩
   ·first|rfl|go_num|(congr 1;omega)
   ·rw [hmid,← HS.out,if_pos hmm]
  ·have hmmI:decide ((mid:Int)<(m:Int))=false:=decide_eq_false (by omega)
   go_wp2_with fail
   go_meet
   refine⟨a,m,m - a,rfl,rfl,by omega,by omega,by omega,by omega,by omega,by omega,H.out,?_⟩
   rw [hmid,← HS.out,if_neg hmm]
 case rest=>
 obtain⟨x0,y0,f0,rfl,rfl,g1,g2,g3,g4,g5,g6,g7,g8⟩:=hcut
 have HT0:=zH g7
 have HB0:=zH g8
 clear g7 g8 H
 rw [hmid] at g3 g5
 go_wp2
 go_loopw [20,21] (fun i j wr=>∃ x y f:Nat,i=.int .i64 x∧j=.int .i64 y∧a≤x∧x≤y∧y≤mid∧y≤m∧mid+m≤x+b∧y - x≤f∧SrN W0 d tl N l wr∧bs (fun c=>!ltN (gd l (mid+m - 1 - c)) (gd l c)) f x y=S) (fun i j _=>(intOf j).toNat - (intOf i).toNat)
 case atStart=>exact⟨x0,y0,f0,rfl,rfl,by omega,by omega,by omega,by omega,by omega,by omega,HT0.out,by have:=HB0.out;rwa [hmid] at this⟩
 case round=>
  obtain⟨x,y,f1,rfl,rfl,hax,hxy,hym,hym2,hxb,hf1,hS1,hQ⟩:=hrel
  have HT:=zH hS1
  clear hS1 HT0 HB0
  by_cases hlt:x<y
  ·have hltI:(x:Int)<(y:Int):=by omega
   obtain⟨f1,rfl⟩:∃ f',f1=f'+1:=⟨f1 - 1,by omega⟩
   obtain⟨q,hq⟩:∃ q,q=(x+y) / 2:=⟨_,rfl⟩
   obtain⟨z,hz⟩:∃ z,mid+m - 1 - q=z:=⟨_,rfl⟩
   have e3:((x:Int)+(y:Int)) / 2=(q:Int):=by omega
   have e4:(mid:Int)+(m:Int) - 1 - (q:Int)=(z:Int):=by omega
   have hI1:(q:Int)<(N:Int):=by omega
   have hI2:(z:Int)<(N:Int):=by omega
   have hI8:(0:Int)≤(z:Int):=by omega
   have hwA:IntKind.i64.wrap ((mid:Int)+(m:Int) - 1 - (q:Int))=(z:Int):=(IntWalk.i64_in _ (by omega)).trans e4
   have hwC:IntKind.i64.wrap (z:Int)=(z:Int):=IntWalk.i64_in _ (by omega)
   have l1:=HT.out.lt
   obtain⟨u,hu⟩:∃ u,gd l z=u:=⟨_,rfl⟩
   obtain⟨v,hv⟩:∃ v,gd l q=v:=⟨_,rfl⟩
   have c1:=HT.out.at (i:=z) (by omega)
   have c2:=HT.out.at (i:=q) (by omega)
   have r1:=HT.out.gok (i:=z) (by omega)
   have r2:=HT.out.gok (i:=q) (by omega)
   rw [hu] at c1 r1
   rw [hv] at c2 r2
   obtain⟨D,hDe⟩:∃ D,u.s - v.s=D:=⟨_,rfl⟩
   have HC:Hid (∀ W,Calls Tryz.prog 135 #[.agg #[.int .i64 u.a,.int .i64 u.s,.int .i64 u.z],.agg #[.int .i64 v.a,.int .i64 v.s,.int .i64 v.z]] W (VBel (.int .i64 D) W)):=zH fun W=>by rw [← hDe];exact cmpN_any u v r1 r2 W
   have hZ:D<0→bs (fun c=>!ltN (gd l (mid+m - 1 - c)) (gd l c)) f1 x q=S:=fun hD=>by rw [← hQ];exact(bs_no hlt hq (by show (!decide ((gd l (mid+m - 1 - q)).s - (gd l q).s<0))=false;rw [hz,hu,hv,hDe,decide_eq_true hD];rfl)).symm
   have hY:¬ D<0→bs (fun c=>!ltN (gd l (mid+m - 1 - c)) (gd l c)) f1 (q+1) y=S:=fun hD=>by rw [← hQ];exact(bs_yes hlt hq (by show (!decide ((gd l (mid+m - 1 - q)).s - (gd l q).s<0))=true;rw [hz,hu,hv,hDe,decide_eq_false hD];rfl)).symm
   clear hQ hu hv hDe r1 r2
   obtain⟨u1,u2,u3⟩:=u
   obtain⟨v1,v2,v3⟩:=v
   obtain⟨c1,c1b,c1c⟩:=c1
   obtain⟨c2,c2b,c2c⟩:=c2
   dsimp only at c1 c1b c1c c2 c2b c2c HC
   by_cases hD:D<0
   ·as_aux_lemma=>
     have HQ:=zH (hZ hD)
     clear hY hZ
     have hqx:x≤q∧q<y:=by omega
     clear hq
     go_upto_region 35 with (fail)
     go_cut [171] (fun v W'=>v=.bool false∧SrN W0 d tl N l W')
     case first=>as_aux_lemma=>
      go_region_held3 (fun W=>W.cell? ⟨d,z*3,none⟩=some (.int .i64 u1)∧W.cell? ⟨d,z*3+1,none⟩=some (.int .i64 u2)∧W.cell? ⟨d,z*3+2,none⟩=some (.int .i64 u3)∧W.cell? ⟨d,q*3,none⟩=some (.int .i64 v1)∧W.cell? ⟨d,q*3+1,none⟩=some (.int .i64 v2)∧W.cell? ⟨d,q*3+2,none⟩=some (.int .i64 v3)∧SrN W0 d tl N l W)
 ((first|exact⟨c1,c1b,c1c,c2,c2b,c2c,HT.out⟩|exact⟨c1,c1b,c1c,c2,c2b,c2c,HT.out.drew⟩|exact⟨k1,k2,k3,k4,k5,k6,k7⟩))
 (first|(go_at_call 135;((with_reducible refine(HC.out _).mono ?_);rintro e1' w2 ⟨rfl,hb2⟩;have k7:=SrN.below HT.out.drew hb2;have k1:=(hb2.cell (p:=⟨d,z*3,none⟩) HT.out.lt).trans c1;have k2:=(hb2.cell (p:=⟨d,z*3+1,none⟩) HT.out.lt).trans c1b;have k3:=(hb2.cell (p:=⟨d,z*3+2,none⟩) HT.out.lt).trans c1c;have k4:=(hb2.cell (p:=⟨d,q*3,none⟩) HT.out.lt).trans c2;have k5:=(hb2.cell (p:=⟨d,q*3+1,none⟩) HT.out.lt).trans c2b;have k6:=(hb2.cell (p:=⟨d,q*3+2,none⟩) HT.out.lt).trans c2c)))
      all_goals
       go_wp2
       go_meet
       exact⟨rfl,by first|exact k7|exact k7.drew⟩
     case rest=>
     obtain⟨rfl,hS1⟩:=hcut
     have HT1:=zH hS1
     clear hS1 HC c1 c1b c1c c2 c2b c2c HT u1 u2 u3 v1 v2 v3
     go_wp2
     go_roundw
     case rel=>exact⟨x,q,f1,rfl,by first|rfl|go_num,by omega,by omega,by omega,by omega,by omega,by omega,HT1.out,HQ.out⟩
     case measure=>simp [intOf]<;>omega
   ·as_aux_lemma=>
     have hDd:decide (D<0)=false:=decide_eq_false hD
     have HQ:=zH (hY hD)
     clear hD
     clear hY hZ
     have hqx:x≤q∧q<y:=by omega
     clear hq
     go_upto_region 35 with (fail)
     go_cut [171] (fun v W'=>v=.bool true∧SrN W0 d tl N l W')
     case first=>as_aux_lemma=>
      go_region_held3 (fun W=>W.cell? ⟨d,z*3,none⟩=some (.int .i64 u1)∧W.cell? ⟨d,z*3+1,none⟩=some (.int .i64 u2)∧W.cell? ⟨d,z*3+2,none⟩=some (.int .i64 u3)∧W.cell? ⟨d,q*3,none⟩=some (.int .i64 v1)∧W.cell? ⟨d,q*3+1,none⟩=some (.int .i64 v2)∧W.cell? ⟨d,q*3+2,none⟩=some (.int .i64 v3)∧SrN W0 d tl N l W)
 ((first|exact⟨c1,c1b,c1c,c2,c2b,c2c,HT.out⟩|exact⟨c1,c1b,c1c,c2,c2b,c2c,HT.out.drew⟩|exact⟨k1,k2,k3,k4,k5,k6,k7⟩))
 (first|(go_at_call 135;((with_reducible refine(HC.out _).mono ?_);rintro e1' w2 ⟨rfl,hb2⟩;have k7:=SrN.below HT.out.drew hb2;have k1:=(hb2.cell (p:=⟨d,z*3,none⟩) HT.out.lt).trans c1;have k2:=(hb2.cell (p:=⟨d,z*3+1,none⟩) HT.out.lt).trans c1b;have k3:=(hb2.cell (p:=⟨d,z*3+2,none⟩) HT.out.lt).trans c1c;have k4:=(hb2.cell (p:=⟨d,q*3,none⟩) HT.out.lt).trans c2;have k5:=(hb2.cell (p:=⟨d,q*3+1,none⟩) HT.out.lt).trans c2b;have k6:=(hb2.cell (p:=⟨d,q*3+2,none⟩) HT.out.lt).trans c2c)))
      all_goals
       go_wp2
       go_meet
       exact⟨rfl,by first|exact k7|exact k7.drew⟩
     case rest=>
     obtain⟨rfl,hS1⟩:=hcut
     have HT1:=zH hS1
     clear hS1 HC c1 c1b c1c c2 c2b c2c HT u1 u2 u3 v1 v2 v3
     go_wp2
     go_roundw
     case rel=>exact⟨q+1,y,f1,by first|rfl|go_num,rfl,by omega,by omega,by omega,by omega,by omega,by omega,HT1.out,HQ.out⟩
     case measure=>simp [intOf]<;>omega
  ·as_aux_lemma=>
    obtain rfl:y=x:=by omega
    have hIx:y=S:=by
     rw [← hQ]
     cases f1<;>simp [bs]
    subst hIx
    clear hQ
    have e5:(mid:Int)+(m:Int) - (y:Int)=(e:Int):=by omega
    clear HS
    go_upto_region 39 with (fail)
    go_cut [185] (fun v W'=>v=.bool (decide (y<m∧m<e))∧SrN W0 d tl N l W')
    case first=>as_aux_lemma=>
     by_cases h1:y<m
     ·have h1I:(y:Int)<(m:Int):=by omega
      by_cases h2:m<e
      ·have h2I:(m:Int)<(e:Int):=by omega
       go_wp2_with fail
       go_meet
       exact⟨by simp [h1,h2],by first|exact HT.out|exact HT.out.drewN _⟩
      ·have h2I:decide ((m:Int)<(e:Int))=false:=decide_eq_false (by omega)
       go_wp2_with fail
       go_meet
       exact⟨by simp [h1,h2],by first|exact HT.out|exact HT.out.drewN _⟩
     ·have h1I:decide ((y:Int)<(m:Int))=false:=decide_eq_false (by omega)
      go_wp2_with fail
      go_meet
      exact⟨by simp [h1],by first|exact HT.out|exact HT.out.drewN _⟩
    case rest=>
    obtain⟨rfl,hS1⟩:=hcut
    have HT:=zH hS1
    clear hS1
    go_upto_if 185 with (fail)
    go_cut [] (fun W'=>SrN W0 d tl N l1 W')
    case first=>as_aux_lemma=>
     by_cases hc:y<m∧m<e
     ·have hd:decide (y<m∧m<e)=true:=decide_eq_true hc
      have HE:=HL1.out
      rw [if_pos hc] at HE
      have HEE:=zH HE
      clear HE
      go_wp2_with (go_at_call 185;(with_reducible refine((rotN_any HT.out y m e c rfl rfl rfl hc.1 hc.2 (by omega))).mono ?_);rintro e1' w1 ⟨rfl,hS1⟩)
      go_meet
      exact hS1.to HEE.out
     ·have hd:decide (y<m∧m<e)=false:=decide_eq_false hc
      have HE:=HL1.out
      rw [if_neg hc] at HE
      have HEE:=zH HE
      clear HE
      go_wp2_with fail
      go_meet
      exact HT.out.to HEE.out
    case rest=>
    have HT:=zH hcut
    clear hcut
    go_upto_region 41 with (fail)
    go_cut [199] (fun v W'=>v=.bool (decide (a<y∧y<mid))∧SrN W0 d tl N l1 W')
    case first=>as_aux_lemma=>
     by_cases h1:a<y
     ·have h1I:(a:Int)<(y:Int):=by omega
      by_cases h2:y<mid
      ·have h2I:(y:Int)<(mid:Int):=by omega
       go_wp2_with fail
       go_meet
       exact⟨by simp [h1,h2],by first|exact HT.out|exact HT.out.drewN _⟩
      ·have h2I:decide ((y:Int)<(mid:Int))=false:=decide_eq_false (by omega)
       go_wp2_with fail
       go_meet
       exact⟨by simp [h1,h2],by first|exact HT.out|exact HT.out.drewN _⟩
     ·have h1I:decide ((a:Int)<(y:Int))=false:=decide_eq_false (by omega)
      go_wp2_with fail
      go_meet
      exact⟨by simp [h1],by first|exact HT.out|exact HT.out.drewN _⟩
    case rest=>
    obtain⟨rfl,hS1⟩:=hcut
    have HT:=zH hS1
    clear hS1
    go_upto_if 199 with (fail)
    go_cut [] (fun W'=>SrN W0 d tl N l2 W')
    case first=>as_aux_lemma=>
     by_cases hc:a<y∧y<mid
     ·have hd:decide (a<y∧y<mid)=true:=decide_eq_true hc
      have HE:=HL2.out
      rw [if_pos hc] at HE
      have HEE:=zH HE
      clear HE
      go_wp2_with (go_at_call 179;(with_reducible refine((HIH.out _ l1 a y mid c HT.out hc.1 hc.2 (by omega) (by omega))).mono ?_);rintro e1' w1 ⟨rfl,hS1⟩)
      go_meet
      exact hS1.to HEE.out
     ·have hd:decide (a<y∧y<mid)=false:=decide_eq_false hc
      have HE:=HL2.out
      rw [if_neg hc] at HE
      have HEE:=zH HE
      clear HE
      go_wp2_with fail
      go_meet
      exact HT.out.to HEE.out
    case rest=>
    have HT:=zH hcut
    clear hcut
    go_upto_region 43 with (fail)
    go_cut [213] (fun v W'=>v=.bool (decide (mid<e∧e<b))∧SrN W0 d tl N l2 W')
    case first=>as_aux_lemma=>
     by_cases h1:mid<e
     ·have h1I:(mid:Int)<(e:Int):=by omega
      by_cases h2:e<b
      ·have h2I:(e:Int)<(b:Int):=by omega
       go_wp2_with fail
       go_meet
       exact⟨by simp [h1,h2],by first|exact HT.out|exact HT.out.drewN _⟩
      ·have h2I:decide ((e:Int)<(b:Int))=false:=decide_eq_false (by omega)
       go_wp2_with fail
       go_meet
       exact⟨by simp [h1,h2],by first|exact HT.out|exact HT.out.drewN _⟩
     ·have h1I:decide ((mid:Int)<(e:Int))=false:=decide_eq_false (by omega)
      go_wp2_with fail
      go_meet
      exact⟨by simp [h1],by first|exact HT.out|exact HT.out.drewN _⟩
    case rest=>
    obtain⟨rfl,hS1⟩:=hcut
    have HT:=zH hS1
    clear hS1
    by_cases hc:mid<e∧e<b
    ·have hd:decide (mid<e∧e<b)=true:=decide_eq_true hc
     have HE:=HL3.out
     rw [if_pos hc] at HE
     have HEE:=zH HE
     clear HE
     go_wp2_with (go_at_call 179;(with_reducible refine(HIH.out _ l2 mid e b c HT.out hc.1 hc.2 (by omega) (by omega)).mono ?_);rintro e1' w1 ⟨rfl,hS1⟩)
     go_end0
     exact⟨rfl,hS1.to HEE.out⟩
    ·have hd:decide (mid<e∧e<b)=false:=decide_eq_false hc
     have HE:=HL3.out
     rw [if_neg hc] at HE
     have HEE:=zH HE
     clear HE
     go_wp2_with fail
     go_end0
     exact⟨rfl,HT.out.to HEE.out⟩
end Go.Proofs.YtlenbcmgjancmaaGreatDoor
namespace Go.Proofs.YtlenbcmgjancmaaGreatDoor
open Go.RowKit
theorem symN_all (W0:World) (d N:Nat) (tl:List Value):∀ f,SymCN f W0 d N tl
 | 0=>fun W l a m b c _ h1 h2 _ h3=>by omega
 |f+1=>fun W l a m b c h h1 h2 hb hf=>by
  by_cases hA:m - a=1
  ·have:=symN_one h (A:=a) (M:=m) (B:=b) a m b c rfl rfl rfl (by omega) h2 hb
   rw [symF,if_pos hA]
   exact this
  ·by_cases hB:b - m=1
   ·have:=symN_two h (A:=a) (M:=m) (B:=b) a m b c rfl rfl rfl (by omega) (by omega) hb
    rw [symF,if_neg hA,if_pos hB]
    exact this
   ·exact symN_gen (symN_all W0 d N tl f) h a m b c (by omega) (by omega) hb hf
theorem symN_any {W0 W:World} {d N:Nat} {tl:List Value} {l:List Ned} (h:SrN W0 d tl N l W) {A M B:Int} (a m b c f:Nat) (eA:A=a) (eM:M=m) (eB:B=b) (ha:a<m) (hm:m<b) (hb:b≤N) (hf:b - a≤f) :
  Calls Tryz.prog 179 #[.slice (some ⟨d,0,none⟩) N c,.int .i64 A,.int .i64 M,.int .i64 B,cmpN] W (fun e W'=>e=.returned (.tuple #[])∧SrN W0 d tl N (symF ltN f a m b l) W'):=by
 subst eA eM eB
 exact symN_all W0 d N tl f W l a m b c h ha hm hb hf
theorem blkN_end {lt:Ned→Ned→Bool} {n f a:Nat} {l:List Ned} (h:¬ a+20≤n):blk lt n f a l=insS lt a n l:=by
 cases f<;>simp [blk,h]
theorem mrgN_end {lt:Ned→Ned→Bool} {n s f a:Nat} {l:List Ned} (h:¬ a+2*s≤n):mrg lt n s f a l=if a+s<n then symF lt n a (a+s) n l else l:=by
 cases f<;>simp [mrg,h]
theorem mrgsN_end {lt:Ned→Ned→Bool} {n s f:Nat} {l:List Ned} (h:¬ s<n):mrgs lt n f s l=l:=by
 cases f<;>simp [mrgs,h]
set_option maxRecDepth 100000 in
set_option maxHeartbeats 8000000 in
theorem stableN_any {W0 W:World} {d N:Nat} {tl:List Value} {l:List Ned} (h:SrN W0 d tl N l W) (c:Nat) :
  Calls Tryz.prog 162 #[.slice (some ⟨d,0,none⟩) N c,.int .i64 N,cmpN] W (fun e W'=>e=.returned (.tuple #[])∧SrN W0 d tl N (stableS ltN l) W'):=by
 have H:=zH h
 have hrn:N≤1048576:=h.nb
 have hN:=h.ln
 clear h
 have hR:stableS ltN l=mrgs ltN N N 20 (blk ltN N N 0 l):=by unfold stableS;rw [hN]
 rw [hR]
 clear hN hR
 obtain⟨R1,hR1⟩:∃ R1,blk ltN N N 0 l=R1:=⟨_,rfl⟩
 rw [hR1]
 obtain⟨R2,hR2⟩:∃ R2,mrgs ltN N N 20 R1=R2:=⟨_,rfl⟩
 rw [hR2]
 have HR1:=zH hR1
 have HR2:=zH hR2
 clear hR1 hR2
 go_enter Tryz.func162,Tryz.ntmps162
 go_wp2
 go_loopw [7,8] (fun i j wr=>∃ (a f:Nat) (m:List Ned),i=.int .i64 a∧j=.int .i64 (a+20:Nat)∧a≤N∧N≤a+f∧SrN W0 d tl N m wr∧blk ltN N f a m=R1) (fun i _ _=>N - (intOf i).toNat)
 case atStart=>exact⟨0,N,l,rfl,rfl,by omega,by omega,H.out,HR1.out⟩
 case round=>
  obtain⟨a,f,m,rfl,rfl,haN,hf,hS,hB⟩:=hrel
  have HT:=zH hS
  clear hS H
  by_cases hlt:a+20≤N
  ·as_aux_lemma=>
    have hltI:((a+20:Nat):Int)≤(N:Int):=by omega
    have hltJ:(a:Int)+20≤(N:Int):=by omega
    obtain⟨f,rfl⟩:∃ f',f=f'+1:=⟨f - 1,by omega⟩
    simp only [blk,if_pos hlt] at hB
    have HB:=zH hB
    clear hB
    go_wp2_with (go_at_call 178;(with_reducible refine(insN_any HT.out a (a+20) c (by omega) (by omega) (by omega) (by omega)).mono ?_);rintro e1' w1 ⟨rfl,hS1⟩;have HS1:=zH hS1;clear hS1)
    go_roundw
    case rel=>exact⟨a+20,f,_,by first|rfl|go_num,by first|rfl|go_num,by omega,by omega,HS1.out,HB.out⟩
    case measure=>simp [intOf]<;>omega
  ·have hltI:decide (((a+20:Nat):Int)≤(N:Int))=false:=decide_eq_false (by omega)
   have hltJ:decide ((a:Int)+20≤(N:Int))=false:=decide_eq_false (by omega)
   rw [blkN_end hlt] at hB
   have HB:=zH hB
   clear hB
   go_wp2_with (go_at_call 178;(with_reducible refine(insN_any HT.out a N c (by omega) (by omega) (by omega) (by omega)).mono ?_);rintro e1' w1 ⟨rfl,hS1⟩;have HS1:=zH (hS1.to HB.out);clear hS1)
   go_loopw [6] (fun i wr=>∃ (s f:Nat) (m:List Ned),i=.int .i64 s∧1≤s∧s≤2*N+20∧N≤s+f∧SrN W0 d tl N m wr∧mrgs ltN N f s m=R2) (fun i _=>N - (intOf i).toNat)
   case atStart=>exact⟨20,N,R1,rfl,by omega,by omega,by omega,HS1.out,HR2.out⟩
   case round=>
    obtain⟨s,f2,m2,rfl,hs1,hsN,hf2,hS2,hB2⟩:=hrel
    have HT2:=zH hS2
    clear hS2 HS1 HT HB
    by_cases hlt2:s<N
    ·as_aux_lemma=>
      have hlt2I:(s:Int)<(N:Int):=by omega
      obtain⟨f2,rfl⟩:∃ f',f2=f'+1:=⟨f2 - 1,by omega⟩
      simp only [mrgs,if_pos hlt2] at hB2
      obtain⟨R3,hR3⟩:∃ R3,mrg ltN N s N 0 m2=R3:=⟨_,rfl⟩
      rw [hR3] at hB2
      have HB2:=zH hB2
      have HR3:=zH hR3
      clear hB2 hR3
      go_wp2
      go_loopw [7,8] (fun i j wr=>∃ (a f:Nat) (m:List Ned),i=.int .i64 a∧j=.int .i64 (a+2*s:Nat)∧a≤N∧N≤a+f∧SrN W0 d tl N m wr∧mrg ltN N s f a m=R3) (fun i _ _=>N - (intOf i).toNat)
      case atStart=>exact⟨0,N,m2,rfl,by first|rfl|go_num,by omega,by omega,HT2.out,HR3.out⟩
      case round=>
       obtain⟨a,f,m,rfl,rfl,haN,hf,hS,hB⟩:=hrel
       have HT:=zH hS
       clear hS
       by_cases hlt:a+2*s≤N
       ·have hltI:((a+2*s:Nat):Int)≤(N:Int):=by omega
        have hltJ:(a:Int)+2*(s:Int)≤(N:Int):=by omega
        obtain⟨f,rfl⟩:∃ f',f=f'+1:=⟨f - 1,by omega⟩
        simp only [mrg,if_pos hlt] at hB
        have HB:=zH hB
        clear hB
        go_wp2_with (go_at_call 179;(with_reducible refine(symN_any HT.out a (a+s) (a+2*s) c N (by omega) (by omega) (by omega) (by omega) (by omega) (by omega) (by omega)).mono ?_);rintro e1' w1 ⟨rfl,hS1⟩;have HS1:=zH hS1;clear hS1)
        go_roundw
        case rel=>exact⟨a+2*s,f,_,by first|rfl|go_num,by first|rfl|go_num,by omega,by omega,HS1.out,HB.out⟩
        case measure=>simp [intOf]<;>omega
       ·have hltI:decide (((a+2*s:Nat):Int)≤(N:Int))=false:=decide_eq_false (by omega)
        have hltJ:decide ((a:Int)+2*(s:Int)≤(N:Int))=false:=decide_eq_false (by omega)
        rw [mrgN_end hlt] at hB
        by_cases hlast:a+s<N
        ·rw [if_pos hlast] at hB
         have HB:=zH hB
         clear hB
         have hlastI:(a:Int)+(s:Int)<(N:Int):=by omega
         go_wp2_with (go_at_call 179;(with_reducible refine(symN_any HT.out a (a+s) N c N (by omega) (by omega) (by omega) (by omega) (by omega) (by omega) (by omega)).mono ?_);rintro e1' w1 ⟨rfl,hS1⟩;have HS1:=zH (hS1.to HB.out);clear hS1)
         go_roundw
         case rel=>exact⟨2*s,f2,R3,by first|rfl|go_num,by omega,by omega,by omega,HS1.out,HB2.out⟩
         case measure=>simp [intOf]<;>omega
        ·rw [if_neg hlast] at hB
         have HB:=zH (HT.out.to hB)
         clear hB
         have hlastI:decide ((a:Int)+(s:Int)<(N:Int))=false:=decide_eq_false (by omega)
         go_wp2
         go_roundw
         case rel=>exact⟨2*s,f2,R3,by first|rfl|go_num,by omega,by omega,by omega,HB.out,HB2.out⟩
         case measure=>simp [intOf]<;>omega
    ·have hlt2I:decide ((s:Int)<(N:Int))=false:=decide_eq_false (by omega)
     rw [mrgsN_end hlt2] at hB2
     have HB2:=zH (HT2.out.to hB2)
     clear hB2
     go_wp2
     go_end0
     exact⟨rfl,HB2.out⟩
set_option maxRecDepth 100000 in
set_option maxHeartbeats 4000000 in
theorem sortN_any {W0 W:World} {d N:Nat} {tl:List Value} {l:List Ned} (h:SrN W0 d tl N l W) (c:Nat) :
  Calls Tryz.prog 134 #[.slice (some ⟨d,0,none⟩) N c,cmpN] W (fun e W'=>e=.returned (.tuple #[])∧SrN W0 d tl N (stableS ltN l) W'):=by
 have H:=zH h
 have hrn:N≤1048576:=h.nb
 clear h
 go_enter Tryz.func134,Tryz.ntmps134
 go_wp2_with (go_at_call 162;(with_reducible refine(stableN_any H.out c).mono ?_);rintro e1' w1 ⟨rfl,hS1⟩)
 go_end0
 exact⟨rfl,hS1⟩
end Go.Proofs.YtlenbcmgjancmaaGreatDoor
namespace Go.Proofs.YtlenbcmgjancmaaGreatDoor
open Go.RowKit
theorem seg_self (L:List Int) (a s:Nat) (h:a+s≤L.length):segS L a ((L.drop a).take s)=L:=by
 unfold segS
 rw [List.length_take,List.length_drop,Nat.min_eq_left (by omega),List.append_assoc,← List.drop_drop,List.take_append_drop,List.take_append_drop]
theorem seg_get {L h:List Int} {a i:Nat} {x:Int} (hl:a+h.length≤L.length) (hx:h[i]?=some x):(segS L a h)[a+i]?=some x:=by
 have hi:=(List.getElem?_eq_some_iff.1 hx).1
 unfold segS
 rw [List.append_assoc,List.getElem?_append_right (by rw [List.length_take];omega),List.length_take,Nat.min_eq_left (by omega),show a+i - a=i by omega,List.getElem?_append_left hi]
 exact hx
theorem seg_set {L h:List Int} {a i:Nat} (x:Int) (hl:a+h.length≤L.length) (hi:i<h.length):(segS L a h).set (a+i) x=segS L a (h.set i x):=by
 unfold segS
 have h1:(L.take a).length=a:=by rw [List.length_take];omega
 rw [List.append_assoc,List.set_append_right _ _ (by omega),h1,show a+i - a=i by omega,List.set_append_left _ _ hi,List.length_set,List.append_assoc]
theorem autos_succ {l:List Itm} {k:Nat} {x:Itm} (h:l[k]?=some x):autosF 0 (l.take (k+1))=if x.k=0 then autosF 0 (l.take k) ++ [k] else autosF 0 (l.take k):=by
 obtain⟨h1,rfl⟩:=List.getElem?_eq_some_iff.1 h
 have e:autosF k [l[k]]=if l[k].k=0 then [k] else []:=by simp [autosF]
 rw [List.take_succ_eq_append_getElem h1,autosF_app,List.length_take,Nat.min_eq_left (by omega),Nat.zero_add,e]
 split<;>simp
theorem brought_succ {l:List Itm} {h:List Int} {k:Nat} {x:Itm} {y:Int} (hx:l[k]?=some x) (hy:h[k]?=some y):broughtL (l.take (k+1)) (h.take (k+1))=broughtL (l.take k) (h.take k)+intoS y x:=by
 obtain⟨h1,rfl⟩:=List.getElem?_eq_some_iff.1 hx
 obtain⟨h2,rfl⟩:=List.getElem?_eq_some_iff.1 hy
 rw [List.take_succ_eq_append_getElem h1,List.take_succ_eq_append_getElem h2,broughtL_app _ _ _ _ (by rw [List.length_take,List.length_take];omega)]
 simp [broughtL]
theorem intoS_hi {n B:Int} {it:Itm} (h:FItm it) (hn:0≤n∧n≤B) (hB:4096≤B):0≤intoS n it∧intoS n it≤B:=by
 obtain⟨h1,h2,h3,h4,h5,_⟩:=h
 unfold intoS
 split
 ·have:=h5 (by assumption);omega
 ·omega
theorem broughtL_le {B:Int} (hB:4096≤B):∀ (l:List Itm) (h:List Int),(∀ it ∈ l,FItm it)→(∀ x ∈ h,0≤x∧x≤B)→0≤broughtL l h∧broughtL l h≤B*l.length
 | [],_,_,_=>by simp [broughtL]
 |it :: l,[],_,_=>by simp only [broughtL,List.length_cons];exact⟨Int.le_refl _,Int.mul_nonneg (by omega) (by omega)⟩
 |it :: l,x :: h,hf,hb=>by
  have h1:=intoS_hi (hf it (by simp)) (hb x (by simp)) hB
  have h2:=broughtL_le hB l h (fun y hy=>hf y (by simp [hy])) (fun y hy=>hb y (by simp [hy]))
  have:B*((l.length+1:Nat):Int)=B*l.length+B:=by push_cast;rw [Int.mul_add,Int.mul_one]
  simp only [broughtL,List.length_cons]
  omega
theorem give_drop {A:List Nat} {k i:Nat} {lack:Int} {h:List Int} (hk:A[k]?=some i) (h0:¬ lack≤0):giveS lack (A.drop k) h=giveS (lack - partS lack (A.length - k)) (A.drop (k+1)) (h.set i (gd h i+partS lack (A.length - k))):=by
 obtain⟨h1,rfl⟩:=List.getElem?_eq_some_iff.1 hk
 rw [List.drop_eq_getElem_cons h1,giveS,if_neg h0,List.length_drop,show A.length - (k+1)+1=A.length - k by omega]
theorem give_done {lack:Int} {A:List Nat} {h:List Int} (h0:lack≤0):giveS lack A h=h:=by
 cases A with
 |nil=>rfl
 |cons i l=>rw [giveS,if_pos h0]
abbrev ncast (l:List Nat):List Int:=l.map fun (i:Nat)=>(i:Int)
def SpreadP (sb:Nat) (L:List Int) (w:World) (e:Ending) (w':World):Prop:=e=.returned (.tuple #[])∧ArrI w' sb L∧w.grownBy w' (some sb)
set_option maxRecDepth 100000 in
set_option maxHeartbeats 8000000 in
theorem spread_any {W:World} {lb sb:Nat} {l:List Itm} {L:List Int} (hit:∀ (i:Nat) x,l[i]?=some x→ItmAt W lb (i*5) x) (hsz:ArrI W sb L) (h1:lb<W.heap.size) (h2:lb ≠ sb) (hf:∀ x ∈ l,FItm x) (a s c1 c2:Nat) (hl:L.length=l.length) (has:a+s≤l.length) (hs1:1≤s) (hs2:s≤4096) (ha4:a≤4096)
  (hb:∀ x ∈ L,0≤x∧x≤67108864) (size gap:Int) (hz:0≤size∧size≤4096) (hg:0≤gap∧gap≤4096) :
  Calls Tryz.prog 136 #[.slice (some ⟨lb,a*5,none⟩) s c1,.slice (some ⟨sb,a,none⟩) s c2,.int .i64 size,.int .i64 gap] W (SpreadP sb (segS L a (spreadS ((l.drop a).take s) ((L.drop a).take s) size gap)) W):=by
 have HM0:=zH (FM.start (c:=undef) hit hsz h1 h2)
 obtain⟨I,hI⟩:∃ I,(l.drop a).take s=I:=⟨_,rfl⟩
 obtain⟨H,hH⟩:∃ H,(L.drop a).take s=H:=⟨_,rfl⟩
 have hIl:I.length=s:=by rw [← hI,List.length_take,List.length_drop];omega
 have hHl:H.length=s:=by rw [← hH,List.length_take,List.length_drop];omega
 have hself:=seg_self L a s (by omega)
 rw [hI,hH]
 rw [hH] at hself
 have HIx:Hid (∀ (k:Nat) x,I[k]?=some x→l[a+k]?=some x∧FItm x):=zH fun k x hx=>by
  have hk:=(List.getElem?_eq_some_iff.1 hx).1
  have e:I[k]?=l[a+k]?:=by rw [← hI,List.getElem?_take_of_lt (by omega),List.getElem?_drop]
  rw [hx] at e
  exact⟨e.symm,hf x (List.mem_of_getElem? e.symm)⟩
 have HHx:Hid (∀ (k:Nat) x,H[k]?=some x→L[a+k]?=some x∧0≤x∧x≤67108864):=zH fun k x hx=>by
  have hk:=(List.getElem?_eq_some_iff.1 hx).1
  have e:H[k]?=L[a+k]?:=by rw [← hH,List.getElem?_take_of_lt (by omega),List.getElem?_drop]
  rw [hx] at e
  exact⟨e.symm,hb x (List.mem_of_getElem? e.symm)⟩
 have HFI:Hid (∀ x ∈ I,FItm x):=zH fun x hx=>by obtain⟨k,hk⟩:=List.mem_iff_getElem?.1 hx;exact(HIx.out k x hk).2
 have HHB:Hid (∀ x ∈ H,0≤x∧x≤67108864):=zH fun x hx=>by obtain⟨k,hk⟩:=List.mem_iff_getElem?.1 hx;exact(HHx.out k x hk).2
 obtain⟨G,hG⟩:∃ G,gap*((s:Int) - 1)=G:=⟨_,rfl⟩
 have hGr:0≤G∧G≤16777216:=by
  rw [← hG]
  refine⟨Int.mul_nonneg hg.1 (by omega),?_⟩
  have h1:gap*((s:Int) - 1)≤4096*((s:Int) - 1):=Int.mul_le_mul_of_nonneg_right hg.2 (by omega)
  omega
 obtain⟨R,hR⟩:∃ R,spreadS I H size gap=R:=⟨_,rfl⟩
 rw [hR]
 have HR:Hid ((if I.any (fun it=>it.k == 3)=true then H else giveS (size - G - broughtL I H) (autosF 0 I) H)=R):=zH (by rw [← hR,← hG];unfold spreadS;rw [hIl])
 have HLL:Hid (I.length=s∧H.length=s∧L.length=l.length):=zH ⟨hIl,hHl,hl⟩
 have HSELF:=zH hself
 have HBR:Hid (∀ k,k≤s→0≤broughtL (I.take k) (H.take k)∧broughtL (I.take k) (H.take k)≤67108864*4096):=zH fun k hk=>by
  have:=broughtL_le (B:=67108864) (by omega) (I.take k) (H.take k) (fun x hx=>HFI.out x (List.mem_of_mem_take hx)) (fun x hx=>HHB.out x (List.mem_of_mem_take hx))
  refine⟨this.1,Int.le_trans this.2 (Int.mul_le_mul_of_nonneg_left ?_ (by omega))⟩
  rw [List.length_take];omega
 clear hit hsz h2 hf hb hI hH hIl hHl hself hR hl
 go_enter Tryz.func136,Tryz.ntmps136
 go_wp2
 go_loopw [8,9,24] (fun v8 v9 i wr=>∃ (k:Nat) (vo:Value),i=.int .i64 k∧k≤s∧v8=.int .i64 (size - G - broughtL (I.take k) (H.take k))∧vo=v9∧FM W lb sb l L vo (ncast (autosF 0 (I.take k))) wr∧(I.take k).any (fun it=>it.k == 3)=false) (fun _ _ i _=>s - (intOf i).toNat)
 case atStart=>exact⟨0,_,rfl,by omega,by simp [broughtL],rfl,by simpa [autosF] using HM0.out,by simp⟩
 case round=>
  obtain⟨k,vo,rfl,hk,rfl,rfl,hM,hany⟩:=hrel
  have HM:=zH hM
  have HANY:=zH hany
  clear hM hany HM0
  have hbr:=HBR.out k hk
  by_cases hlt:k<s
  ·have hltI:(k:Int)<(s:Int):=by omega
   obtain⟨x,hx⟩:∃ x,I[k]?=some x:=⟨_,List.getElem?_eq_getElem (by rw [HLL.out.1];exact hlt)⟩
   obtain⟨y,hy⟩:∃ y,H[k]?=some y:=⟨_,List.getElem?_eq_getElem (by rw [HLL.out.2.1];exact hlt)⟩
   obtain⟨hx1,hF⟩:=HIx.out k x hx
   obtain⟨hy1,hyr⟩:=HHx.out k y hy
   have hir:=intoS_hi hF hyr (by omega)
   obtain⟨c1,c2,c3,c4,c5⟩:=HM.out.it _ x hx1
   rw [Nat.add_mul] at c1 c2 c3 c4 c5
   have c6:=HM.out.sz.at hy1
   have hlb:lb<wr.heap.size:=Nat.lt_of_lt_of_le HM.out.nl HM.out.g.size
   have hsb:sb<wr.heap.size:=Nat.lt_of_lt_of_le HM.out.nb HM.out.g.size
   have HAS:=zH (autos_succ hx)
   have HBS:=zH (brought_succ hx hy)
   have HAN:Hid ((I.take (k+1)).any (fun it=>it.k == 3)=(x.k == 3)):=zH (by
    obtain⟨h1,rfl⟩:=List.getElem?_eq_some_iff.1 hx
    rw [List.take_succ_eq_append_getElem h1,List.any_append,HANY.out];simp)
   have HIN:=zH (fun W=>brought_any y x W)
   have hanyI:x.k=3→I.any (fun it=>it.k == 3)=true:=fun h=>List.any_eq_true.2 ⟨x,List.mem_of_getElem? hx,by simp [h]⟩
   have HANI:=zH hanyI
   have HY:=zH hy1
   have HLEN:Hid ((autosF 0 (I.take k)).length≤k):=zH (Nat.le_trans (autosF_len _ _) (by rw [List.length_take];omega))
   clear hx hy hx1 hy1 hanyI hF
   obtain⟨S,hS⟩:∃ S,intoS y x=S:=⟨_,rfl⟩
   rw [hS] at hir HBS HIN
   clear hS
   generalize broughtL (I.take k) (H.take k)=Bk at *
   generalize autosF 0 (I.take k)=Ak at *
   obtain⟨xk,xn,xd,xmn,xmx⟩:=x
   dsimp only at c1 c2 c3 c4 c5 HAS HAN HANI
   unfold Itm.val at HIN
   have HMB:Hid (FM W lb sb l L vo (ncast Ak) (wr.alloc (.cells #[.int .i8 xk,.int .i64 xn,.int .i64 xd,.int .i64 xmn,.int .i64 xmx] 40))):=zH (HM.out.below (by(repeat (first|exact Below.refl _ _|assumption|refine below_drewN ?_ _|refine Below.drew ?_|(refine Below.alloc ?_ ?bs _;(case bs=>first|omega|(simp;done)|(simp;omega)))|(refine Below.setCell ?_ ?bs _;(case bs=>first|omega|(simp;done)|(simp;omega)))))))
   by_cases h3:xk=3
   ·as_aux_lemma=>
     subst h3
     have HE:Hid (segS L a R=L):=zH (by rw [← HR.out,if_pos (HANI.out rfl)];exact HSELF.out)
     clear HR
     go_wp2
     refine bodyPost_ret (results_none rfl _ _ _) rfl ?_
     rw [HE.out]
     exact⟨rfl,HMB.out.sz,HMB.out.g⟩
   ·have h3b:(xk == 3)=false:=by rw [beq_eq_false_iff_ne];exact h3
    have HANF:Hid ((I.take (k+1)).any (fun it=>it.k == 3)=false):=zH (by rw [HAN.out];exact h3b)
    clear HAN HANI HR
    by_cases h0:xk=0
    ·as_aux_lemma=>
      subst h0
      rw [if_pos rfl] at HAS
      have hnopn:(ncast Ak).length<1000000000000:=by have:=HLEN.out;simp;omega
      have HNO:=zH hnopn
      have HNE:Hid (some wr.heap.size ≠ vo.ownBlock):=zH fun e=>by have:=(HM.out.op.lt _ e.symm).2;omega
      have hB9:W.heap.size≤wr.heap.size:=HM.out.g.size
      clear hnopn
      go_upto_region 8 with ((with_reducible apply wpList_append_new elI (B:=W.heap.size) (n:=(ncast Ak).length) (xs:=ivl (ncast Ak)) (nw:=#[.int .i64 (k:Int)]));exact rfl;exact rfl;(first|exact rfl|simp);exact HMB.out.op;(first|omega|(simp;omega));exact HNO.out;exact rfl;(intro u hu;simp at hu;subst hu;rfl);intro v' w9 hrow9 hgr9 hpl9 K hK;have HM9:=zH ((HMB.out.below (Below.alloc (Below.refl _ _) (Nat.le_refl _) _)).app (x:=(k:Int)) hrow9 hgr9);have d1:=hgr9.cell (a:=⟨wr.heap.size,0,none⟩) (v:=.int .i8 0) (by go_simp) HNE.out;have d2:=hgr9.cell (a:=⟨wr.heap.size,1,none⟩) (v:=.int .i64 xn) (by go_simp) HNE.out;have d3:=hgr9.cell (a:=⟨wr.heap.size,2,none⟩) (v:=.int .i64 xd) (by go_simp) HNE.out;have d4:=hgr9.cell (a:=⟨wr.heap.size,3,none⟩) (v:=.int .i64 xmn) (by go_simp) HNE.out;have d5:=hgr9.cell (a:=⟨wr.heap.size,4,none⟩) (v:=.int .i64 xmx) (by go_simp) HNE.out;have d6:=HM9.out.sz.at HY.out;have d7:=hgr9.size;clear hrow9 hgr9 hpl9)
      have hsb9:sb<w9.heap.size:=Nat.lt_of_lt_of_le HM9.out.nb HM9.out.g.size
      have hwr9:wr.heap.size<w9.heap.size:=by simp at d7;omega
      go_region_with (go_at_call 133;((with_reducible refine(HIN.out _).mono ?_);rintro e1' w2 ⟨rfl,hb2⟩;have HMX:=zH (HM9.out.below (W':=w2) (by first|exact hb2|exact Below.trans (Below.drew (Below.refl _ _)) hb2));clear hb2))
      all_goals
       go_wp2
       go_roundw
       case rel=>exact⟨k+1,v',by first|rfl|go_num,by omega,by rw [HBS.out];congr 1;omega,rfl,by rw [HAS.out];simpa [ncast] using HMX.out,HANF.out⟩
       case measure=>simp [intOf]<;>omega
    ·as_aux_lemma=>
      rw [if_neg h0] at HAS
      have h0b:(xk == 0)=false:=by rw [beq_eq_false_iff_ne];exact h0
      go_upto_region 8 with (fail)
      go_region_with (go_at_call 133;((with_reducible refine(HIN.out _).mono ?_);rintro e1' w2 ⟨rfl,hb2⟩;have HMX:=zH (HMB.out.below (W':=w2) (by first|exact hb2|exact Below.trans (Below.drew (Below.refl _ _)) hb2));clear hb2))
      all_goals
       go_wp2
       go_roundw
       case rel=>exact⟨k+1,vo,by first|rfl|go_num,by omega,by rw [HBS.out];congr 1;omega,rfl,by rw [HAS.out];exact HMX.out,HANF.out⟩
       case measure=>simp [intOf]<;>omega
  ·as_aux_lemma=>
    have hltI:decide ((k:Int)<(s:Int))=false:=decide_eq_false (by omega)
    obtain rfl:k=s:=by omega
    have HI9:Hid (I.take k=I∧H.take k=H):=zH ⟨List.take_of_length_le (by rw [HLL.out.1];exact Nat.le_refl _),List.take_of_length_le (by rw [HLL.out.2.1];exact Nat.le_refl _)⟩
    obtain⟨A,hA⟩:∃ A,autosF 0 I=A:=⟨_,rfl⟩
    have hAm:∀ i ∈ A,i<k:=fun i hi=>by rw [← hA] at hi;have:=autosF_mem I 0 i hi;rw [HLL.out.1] at this;omega
    have hAl:A.length≤k:=by rw [← hA,← HLL.out.1];exact autosF_len I 0
    have HAM:=zH hAm
    obtain⟨b0,hb0⟩:∃ b0,size - G - broughtL I H=b0:=⟨_,rfl⟩
    have HR1:Hid (giveS b0 A H=R):=zH (by rw [← HR.out,if_neg (by have:=HANY.out;rw [HI9.out.1] at this;rw [this];simp),hb0,hA])
    rw [HI9.out.1,HI9.out.2] at hbr ⊢
    rw [hb0]
    have hM:=HM.out
    rw [HI9.out.1,hA] at hM
    have hb0r:b0≤4096∧-300000000000≤b0:=by omega
    clear hA hb0 hAm HR HANY HM HBR hbr HI9
    obtain⟨p9,c9,hvo⟩:=hM.form
    rw [List.length_map] at hvo
    subst hvo
    have HM:=zH hM
    clear hM
    go_wp2
    go_loopw [8,50] (fun v8 i wr=>∃ (q:Nat) (b:Int) (h:List Int),i=.int .i64 q∧q≤A.length∧v8=.int .i64 b∧b≤4096∧-300000000000≤b∧h.length=k∧(∀ x ∈ h,0≤x∧x≤67108864+4096*(q:Int))∧FM W lb sb l (segS L a h) (.slice p9 A.length c9) (ncast A) wr∧giveS b (A.drop q) h=R) (fun _ i _=>A.length - (intOf i).toNat)
    case atStart=>exact⟨0,b0,H,rfl,by omega,rfl,hb0r.1,hb0r.2,HLL.out.2.1,fun x hx=>by have:=HHB.out x hx;omega,by rw [HSELF.out];exact HM.out,HR1.out⟩
    case round=>
     obtain⟨q,b,h,rfl,hq,rfl,hb1,hb2,hhl,hhb,hM,hG⟩:=hrel
     have HM2:=zH hM
     have HG:=zH hG
     have HHB2:=zH hhb
     have HHL:=zH hhl
     clear hM hG hhb hhl HM HR1
     by_cases hlt2:q<A.length
     ·have hlt2I:(q:Int)<(A.length:Int):=by omega
      obtain⟨i,hi⟩:∃ i,A[q]?=some i:=⟨_,List.getElem?_eq_getElem hlt2⟩
      have hik:=HAM.out i (List.mem_of_getElem? hi)
      obtain⟨g,rfl,hg9,_,c1⟩:=HM2.out.at (i:=q) (x:=(i:Int)) (by simp [hi])
      by_cases hpos:b≤0
      ·as_aux_lemma=>
        have HE:Hid (h=R):=zH (by rw [← HG.out,give_done hpos])
        clear HG
        go_wp2
        refine bodyPost_ret (results_none rfl _ _ _) rfl ?_
        rw [← HE.out]
        exact⟨rfl,HM2.out.sz,HM2.out.g⟩
      ·have hposD:decide (b≤0)=false:=decide_eq_false hpos
       have hposb:0<b:=by omega
       have hgd:=give_drop (h:=h) hi hpos
       obtain⟨Mi,hMi⟩:∃ Mi:Int,(A.length:Int) - (q:Int)=Mi:=⟨_,rfl⟩
       have hMi1:1≤Mi:=by omega
       have hps:partS b (A.length - q)=b / Mi+if 0<b % Mi then 1 else 0:=by unfold partS;rw [show ((A.length - q:Nat):Int)=Mi by omega]
       have hpr:=partS_range (lack:=b) (m:=A.length - q) hposb (by omega)
       obtain⟨y,hy⟩:∃ y,h[i]?=some y:=⟨_,List.getElem?_eq_getElem (by rw [HHL.out];exact hik)⟩
       have hyr:=HHB2.out y (List.mem_of_getElem? hy)
       have hgy:gd h i=y:=by simp [gd,hy]
       have c2:=HM2.out.sz.at (seg_get (by rw [HHL.out];have:=HLL.out.2.2;omega) hy)
       have f2:=HM2.out.sz.froz (a+i)
       have hsb:sb<wr.heap.size:=Nat.lt_of_lt_of_le HM2.out.nb HM2.out.g.size
       obtain⟨P,hP⟩:∃ P,partS b (A.length - q)=P:=⟨_,rfl⟩
       rw [hP] at hps hpr
       rw [hgy,hP,HG.out] at hgd
       have HP2:Hid (FM W lb sb l (segS L a (h.set i (y+P))) (.slice (some ⟨g,0,none⟩) A.length c9) (ncast A) (wr.setCell ⟨sb,a+i,none⟩ (.int .i64 (y+P)))):=zH (by
        have:=HM2.out.put (a+i) (y+P)
        rwa [seg_set _ (by rw [HHL.out];have:=HLL.out.2.2;omega) (by rw [HHL.out];exact hik)] at this)
       have HGD:=zH hgd.symm
       have HB3:Hid (∀ x ∈ h.set i (y+P),0≤x∧x≤67108864+4096*((q+1:Nat):Int)):=zH fun x hx=>by
        rcases List.mem_or_eq_of_mem_set hx with hx|rfl
        ·have:=HHB2.out x hx;push_cast;omega
        ·push_cast;omega
       have HL3:Hid ((h.set i (y+P)).length=k):=zH (by rw [List.length_set,HHL.out])
       have hd1:b.tdiv Mi=b / Mi:=Int.tdiv_eq_ediv_of_nonneg (by omega)
       have hd2:b.tmod Mi=b % Mi:=Int.tmod_eq_emod_of_nonneg (by omega)
       have hd3:(Mi == 0)=false:=by rw [beq_eq_false_iff_ne];omega
       have hd4:0≤b / Mi:=Int.ediv_nonneg (by omega) (by omega)
       have hd5:b / Mi≤b:=Int.ediv_le_self _ (by omega)
       obtain⟨D,hD⟩:∃ D,b / Mi=D:=⟨_,rfl⟩
       obtain⟨Mo,hMo⟩:∃ Mo,b % Mi=Mo:=⟨_,rfl⟩
       rw [hD] at hd1 hd4 hd5 hps
       rw [hMo] at hd2 hps
       clear hD hMo hgd hgy hP hi hy
       have hqq:(q:Int)≤4096:=by omega
       by_cases hr:0<Mo
       ·as_aux_lemma=>
         rw [if_pos hr] at hps
         subst hps
         go_wp2
         go_roundw
         case rel=>exact⟨q+1,b - (D+1),h.set i (y+(D+1)),by first|rfl|go_num,by omega,by first|rfl|go_num,by omega,by omega,HL3.out,HB3.out,by first|exact HP2.out|simpa using HP2.out,HGD.out⟩
         case measure=>simp [intOf]<;>omega
       ·as_aux_lemma=>
         rw [if_neg hr,Int.add_zero] at hps
         subst hps
         have hrD:decide (0<Mo)=false:=decide_eq_false hr
         go_wp2
         go_roundw
         case rel=>exact⟨q+1,b - P,h.set i (y+P),by first|rfl|go_num,by omega,by first|rfl|go_num,by omega,by omega,HL3.out,HB3.out,by first|exact HP2.out|simpa using HP2.out,HGD.out⟩
         case measure=>simp [intOf]<;>omega
     ·as_aux_lemma=>
       have hlt2I:decide ((q:Int)<(A.length:Int))=false:=decide_eq_false (by omega)
       obtain rfl:q=A.length:=by omega
       have HE:Hid (h=R):=zH (by rw [← HG.out,List.drop_length];rfl)
       clear HG
       go_wp2
       go_end0
       rw [← HE.out]
       exact⟨rfl,HM2.out.sz,HM2.out.g⟩
end Go.Proofs.YtlenbcmgjancmaaGreatDoor
