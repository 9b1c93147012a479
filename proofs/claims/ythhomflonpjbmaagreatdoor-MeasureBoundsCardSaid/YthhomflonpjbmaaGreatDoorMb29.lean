/-
 The walk of slices' stable merge at needs: the two short forms.
-/
import Derived.Test.YthhomflonpjbmaaGreatDoorMb27
import Derived.Test.YthhomflonpjbmaaGreatDoorMb21
import Derived.IntWalk
import Derived.Deep.RegionWith
set_option linter.unusedVariables false
set_option linter.unusedSimpArgs false
namespace Go.Proofs.YthhomflonpjbmaaGreatDoor
open Go.RowKit
set_option maxRecDepth 100000 in
set_option maxHeartbeats 4000000 in
theorem symN_one {W0 W : World} {d N : Nat} {tl : List Value} {l : List Ned} (h : SrN W0 d tl N l W) {A M B : Int} (a m b c : Nat) (eA : A = a) (eM : M = m) (eB : B = b) (ha : m = a + 1) (hm : m < b) (hb : b≤N) :
  Calls Tryz.prog 179 #[.slice (some ⟨d,0,none⟩) N c,.int .i64 A,.int .i64 M,.int .i64 B,cmpN] W (fun e W'=>e = .returned (.tuple #[])∧SrN W0 d tl N (upF (bs (fun h=>ltN (gd l h) (gd l a)) (b - m) m b - 1 - a) a l) W'):=by
 subst eA eM eB
 have H:=zH h
 have hrn : N≤1048576:=h.nb
 clear h
 obtain ⟨I,hI⟩ : ∃ I,bs (fun h=>ltN (gd l h) (gd l a)) (b - m) m b = I:=⟨_,rfl⟩
 have HI:=zH hI
 rw [hI]
 clear hI
 have e1 : (m : Int) - (a : Int) = 1:=by omega
 have ha1 : m≤a + 1:=by omega
 have ha2 : a + 1≤m:=by omega
 clear ha
 go_enter Tryz.func179,Tryz.ntmps179
 go_wp2
 go_loopw [10,11] (fun i j wr=>∃ x y f : Nat,i = .int .i64 x∧j = .int .i64 y∧m≤x∧x≤y∧y≤b∧y - x≤f∧SrN W0 d tl N l wr∧bs (fun h=>ltN (gd l h) (gd l a)) f x y = I) (fun i j _=>(intOf j).toNat - (intOf i).toNat)
 case atStart=>exact ⟨m,b,b - m,rfl,rfl,by omega,by omega,by omega,by omega,H.out,HI.out⟩
 case round=>
  obtain ⟨x,y,f,rfl,rfl,hmx,hxy,hyb,hf,hS,hQ⟩:=hrel
  have HT:=zH hS
  clear hS
  by_cases hlt : x < y
  ·have hltI : (x : Int) < (y : Int):=by omega
   obtain ⟨f,rfl⟩ : ∃ f',f = f' + 1:=⟨f - 1,by omega⟩
   obtain ⟨q,hq⟩ : ∃ q,q = (x + y) / 2:=⟨_,rfl⟩
   have e2 : ((x : Int) + (y : Int)) / 2 = (q : Int):=by omega
   have hI1 : (q : Int) < (N : Int):=by omega
   have hI2 : (a : Int) < (N : Int):=by omega
   have lq:=HT.out.lt
   obtain ⟨u,hu⟩ : ∃ u,gd l q = u:=⟨_,rfl⟩
   obtain ⟨v,hv⟩ : ∃ v,gd l a = v:=⟨_,rfl⟩
   have c1:=HT.out.at (i:=q) (by omega)
   have c2:=HT.out.at (i:=a) (by omega)
   have r1:=HT.out.gok (i:=q) (by omega)
   have r2:=HT.out.gok (i:=a) (by omega)
   rw [hu] at c1 r1
   rw [hv] at c2 r2
   obtain ⟨D,hDe⟩ : ∃ D,u.s - v.s = D:=⟨_,rfl⟩
   have HC : Hid (∀ W,Calls Tryz.prog 135 #[.agg #[.int .i64 u.a,.int .i64 u.s,.int .i64 u.z],.agg #[.int .i64 v.a,.int .i64 v.s,.int .i64 v.z]] W (VBel (.int .i64 D) W)):=zH fun W=>by rw [← hDe];exact cmpN_any u v r1 r2 W
   have hY : D < 0→bs (fun h=>ltN (gd l h) (gd l a)) f (q + 1) y = I:=fun hD=>by rw [← hQ];exact (bs_yes hlt hq (by show decide ((gd l q).s - (gd l a).s < 0) = true;rw [hu,hv,hDe];exact decide_eq_true hD)).symm
   have hZ : ¬ D < 0→bs (fun h=>ltN (gd l h) (gd l a)) f x q = I:=fun hD=>by rw [← hQ];exact (bs_no hlt hq (by show decide ((gd l q).s - (gd l a).s < 0) = false;rw [hu,hv,hDe];exact decide_eq_false hD)).symm
   clear hQ hu hv hDe r1 r2
   obtain ⟨u1,u2,u3⟩:=u
   obtain ⟨v1,v2,v3⟩:=v
   obtain ⟨c1,c1b,c1c⟩:=c1
   obtain ⟨c2,c2b,c2c⟩:=c2
   dsimp only at c1 c1b c1c c2 c2b c2c HC
   by_cases hD : D < 0
   ·have HQ:=zH (hY hD)
    clear hY hZ
    have hqx : x≤q∧q < y:=by omega
    clear hq
    go_upto_region 5 with (fail)
    go_cut [50] (fun v W'=>v = .bool true∧SrN W0 d tl N l W')
    case first=>as_aux_lemma=>
     go_region_held3 (fun W=>W.cell? ⟨d,q * 3,none⟩ = some (.int .i64 u1)∧W.cell? ⟨d,q * 3 + 1,none⟩ = some (.int .i64 u2)∧W.cell? ⟨d,q * 3 + 2,none⟩ = some (.int .i64 u3)∧W.cell? ⟨d,a * 3,none⟩ = some (.int .i64 v1)∧W.cell? ⟨d,a * 3 + 1,none⟩ = some (.int .i64 v2)∧W.cell? ⟨d,a * 3 + 2,none⟩ = some (.int .i64 v3)∧SrN W0 d tl N l W)
 ((first | exact ⟨c1,c1b,c1c,c2,c2b,c2c,HT.out⟩ | exact ⟨c1,c1b,c1c,c2,c2b,c2c,HT.out.drew⟩ | exact ⟨k1,k2,k3,k4,k5,k6,k7⟩))
 (first | (go_at_call 135;((with_reducible refine (HC.out _).mono ?_);rintro e1' w2 ⟨rfl,hb2⟩;have k7:=SrN.below HT.out.drew hb2;have k1:=(hb2.cell (p:=⟨d,q * 3,none⟩) HT.out.lt).trans c1;have k2:=(hb2.cell (p:=⟨d,q * 3 + 1,none⟩) HT.out.lt).trans c1b;have k3:=(hb2.cell (p:=⟨d,q * 3 + 2,none⟩) HT.out.lt).trans c1c;have k4:=(hb2.cell (p:=⟨d,a * 3,none⟩) HT.out.lt).trans c2;have k5:=(hb2.cell (p:=⟨d,a * 3 + 1,none⟩) HT.out.lt).trans c2b;have k6:=(hb2.cell (p:=⟨d,a * 3 + 2,none⟩) HT.out.lt).trans c2c)))
     all_goals
      go_wp2
      go_meet
      exact ⟨rfl,by first | exact k7 | exact k7.drew⟩
    case rest=>
    obtain ⟨rfl,hS1⟩:=hcut
    have HT1:=zH hS1
    clear hS1 HC c1 c1b c1c c2 c2b c2c HT u1 u2 u3 v1 v2 v3
    go_wp2
    go_roundw
    case rel=>exact ⟨q + 1,y,f,by first | rfl | go_num,rfl,by omega,by omega,by omega,by omega,HT1.out,HQ.out⟩
    case measure=>simp [intOf] <;> omega
   ·have HQ:=zH (hZ hD)
    have hDd : decide (D < 0) = false:=decide_eq_false hD
    clear hD
    clear hY hZ
    have hqx : x≤q∧q < y:=by omega
    clear hq
    go_upto_region 5 with (fail)
    go_cut [50] (fun v W'=>v = .bool false∧SrN W0 d tl N l W')
    case first=>as_aux_lemma=>
     go_region_held3 (fun W=>W.cell? ⟨d,q * 3,none⟩ = some (.int .i64 u1)∧W.cell? ⟨d,q * 3 + 1,none⟩ = some (.int .i64 u2)∧W.cell? ⟨d,q * 3 + 2,none⟩ = some (.int .i64 u3)∧W.cell? ⟨d,a * 3,none⟩ = some (.int .i64 v1)∧W.cell? ⟨d,a * 3 + 1,none⟩ = some (.int .i64 v2)∧W.cell? ⟨d,a * 3 + 2,none⟩ = some (.int .i64 v3)∧SrN W0 d tl N l W)
 ((first | exact ⟨c1,c1b,c1c,c2,c2b,c2c,HT.out⟩ | exact ⟨c1,c1b,c1c,c2,c2b,c2c,HT.out.drew⟩ | exact ⟨k1,k2,k3,k4,k5,k6,k7⟩))
 (first | (go_at_call 135;((with_reducible refine (HC.out _).mono ?_);rintro e1' w2 ⟨rfl,hb2⟩;have k7:=SrN.below HT.out.drew hb2;have k1:=(hb2.cell (p:=⟨d,q * 3,none⟩) HT.out.lt).trans c1;have k2:=(hb2.cell (p:=⟨d,q * 3 + 1,none⟩) HT.out.lt).trans c1b;have k3:=(hb2.cell (p:=⟨d,q * 3 + 2,none⟩) HT.out.lt).trans c1c;have k4:=(hb2.cell (p:=⟨d,a * 3,none⟩) HT.out.lt).trans c2;have k5:=(hb2.cell (p:=⟨d,a * 3 + 1,none⟩) HT.out.lt).trans c2b;have k6:=(hb2.cell (p:=⟨d,a * 3 + 2,none⟩) HT.out.lt).trans c2c)))
     all_goals
      go_wp2
      go_meet
      exact ⟨rfl,by first | exact k7 | exact k7.drew⟩
    case rest=>
    obtain ⟨rfl,hS1⟩:=hcut
    have HT1:=zH hS1
    clear hS1 HC c1 c1b c1c c2 c2b c2c HT u1 u2 u3 v1 v2 v3
    go_wp2
    go_roundw
    case rel=>exact ⟨x,q,f,rfl,by first | rfl | go_num,by omega,by omega,by omega,by omega,HT1.out,HQ.out⟩
    case measure=>simp [intOf] <;> omega
  ·obtain rfl : y = x:=by omega
   have hIx : y = I:=by
    rw [← hQ]
    cases f <;> simp [bs]
   subst hIx
   clear hQ HI
   go_wp2
   go_loopw [13] (fun k wr=>∃ (x : Nat) (lq : List Ned),k = .int .i64 x∧a≤x∧x + 1≤y∧SrN W0 d tl N lq wr∧upF (y - 1 - x) x lq = upF (y - 1 - a) a l) (fun k _=>y - (intOf k).toNat)
   case atStart=>exact ⟨a,l,rfl,by omega,by omega,HT.out,rfl⟩
   case round=>
    obtain ⟨x,lq,rfl,hax,hxy2,hS,hQ⟩:=hrel
    have HT1:=zH hS
    have HQ:=zH hQ
    clear hS hQ HT
    by_cases hlt3 : x < y - 1
    ·have hltI : (x : Int) < (y : Int) - 1:=by omega
     have hI1 : (x : Int) < (N : Int):=by omega
     have hI2 : (x : Int) + 1 < (N : Int):=by omega
     have HQ1 : Hid (upF (y - 1 - (x + 1)) (x + 1) (swp lq x (x + 1)) = upF (y - 1 - a) a l):=zH (by rw [← HQ.out,show y - 1 - x = (y - 1 - (x + 1)) + 1 by omega];rfl)
     have l1:=HT1.out.lt
     obtain ⟨u,hu⟩ : ∃ u,gd lq x = u:=⟨_,rfl⟩
     obtain ⟨v,hv⟩ : ∃ v,gd lq (x + 1) = v:=⟨_,rfl⟩
     have c1:=HT1.out.at (i:=x) (by omega)
     have c2:=HT1.out.at (i:=(x + 1)) (by omega)
     have HW:=zH (HT1.out.swap (i:=x) (j:=(x + 1)) (by omega) (by omega) u v hu hv)
     obtain ⟨y,c3⟩:=HT1.out.mid (i:=x) (j:=(x + 1)) (by omega) (by omega) v
     have g1:=HT1.out.mfroz (i:=x) v ((x + 1) * 3)
     have g2:=HT1.out.mfroz (i:=x) v ((x + 1) * 3 + 1)
     have g3:=HT1.out.mfroz (i:=x) v ((x + 1) * 3 + 2)
     have f1:=HT1.out.froz (x * 3)
     have f2:=HT1.out.froz (x * 3 + 1)
     have f3:=HT1.out.froz (x * 3 + 2)
     rw [hu] at c1
     rw [hv] at c2
     clear hu hv
     obtain ⟨u1,u2,u3⟩:=u
     obtain ⟨v1,v2,v3⟩:=v
     obtain ⟨c1,c1b,c1c⟩:=c1
     obtain ⟨c2,c2b,c2c⟩:=c2
     obtain ⟨c3,c3b,c3c⟩:=c3
     dsimp only at c1 c1b c1c c2 c2b c2c c3 c3b c3c g1 g2 g3 HW
     go_wp2
     go_region
     go_wp2
     go_roundw
     case rel=>exact ⟨x + 1,swp lq x (x + 1),by first | rfl | go_num,by omega,by omega,by first | exact HW.out.drew | exact HW.out.drewN _ | exact HW.out,HQ1.out⟩
     case measure=>simp [intOf] <;> omega
    ·have hltI : ¬ (x : Int) < (y : Int) - 1:=by omega
     have HE : Hid (lq = upF (y - 1 - a) a l):=zH (by rw [← HQ.out,show y - 1 - x = 0 by omega];rfl)
     go_wp2
     refine bodyPost_ret (results_none rfl _ _ _) rfl ?_
     exact ⟨rfl,HT1.out.to HE.out⟩
set_option maxRecDepth 100000 in
set_option maxHeartbeats 4000000 in
theorem symN_two {W0 W : World} {d N : Nat} {tl : List Value} {l : List Ned} (h : SrN W0 d tl N l W) {A M B : Int} (a m b c : Nat) (eA : A = a) (eM : M = m) (eB : B = b) (ha : a + 1 < m) (hm : b = m + 1) (hb : b≤N) :
  Calls Tryz.prog 179 #[.slice (some ⟨d,0,none⟩) N c,.int .i64 A,.int .i64 M,.int .i64 B,cmpN] W (fun e W'=>e = .returned (.tuple #[])∧SrN W0 d tl N (dnF (bs (fun h=>!ltN (gd l m) (gd l h)) (m - a) a m) m l) W'):=by
 subst eA eM eB
 have H:=zH h
 have hrn : N≤1048576:=h.nb
 clear h
 obtain ⟨I,hI⟩ : ∃ I,bs (fun h=>!ltN (gd l m) (gd l h)) (m - a) a m = I:=⟨_,rfl⟩
 have HI:=zH hI
 rw [hI]
 clear hI
 have e0 : ((m : Int) - (a : Int) == 1) = false:=by rw [beq_eq_false_iff_ne];omega
 have e1 : (b : Int) - (m : Int) = 1:=by omega
 have hb1 : b≤m + 1:=by omega
 have hb2 : m + 1≤b:=by omega
 clear hm
 go_enter Tryz.func179,Tryz.ntmps179
 go_wp2
 go_loopw [14,15] (fun i j wr=>∃ x y f : Nat,i = .int .i64 x∧j = .int .i64 y∧a≤x∧x≤y∧y≤m∧y - x≤f∧SrN W0 d tl N l wr∧bs (fun h=>!ltN (gd l m) (gd l h)) f x y = I) (fun i j _=>(intOf j).toNat - (intOf i).toNat)
 case atStart=>exact ⟨a,m,m - a,rfl,rfl,by omega,by omega,by omega,by omega,H.out,HI.out⟩
 case round=>
  obtain ⟨x,y,f,rfl,rfl,hmx,hxy,hyb,hf,hS,hQ⟩:=hrel
  have HT:=zH hS
  clear hS
  by_cases hlt : x < y
  ·have hltI : (x : Int) < (y : Int):=by omega
   obtain ⟨f,rfl⟩ : ∃ f',f = f' + 1:=⟨f - 1,by omega⟩
   obtain ⟨q,hq⟩ : ∃ q,q = (x + y) / 2:=⟨_,rfl⟩
   have e2 : ((x : Int) + (y : Int)) / 2 = (q : Int):=by omega
   have hI1 : (q : Int) < (N : Int):=by omega
   have hI2 : (m : Int) < (N : Int):=by omega
   have lq:=HT.out.lt
   obtain ⟨u,hu⟩ : ∃ u,gd l m = u:=⟨_,rfl⟩
   obtain ⟨v,hv⟩ : ∃ v,gd l q = v:=⟨_,rfl⟩
   have c1:=HT.out.at (i:=m) (by omega)
   have c2:=HT.out.at (i:=q) (by omega)
   have r1:=HT.out.gok (i:=m) (by omega)
   have r2:=HT.out.gok (i:=q) (by omega)
   rw [hu] at c1 r1
   rw [hv] at c2 r2
   obtain ⟨D,hDe⟩ : ∃ D,u.s - v.s = D:=⟨_,rfl⟩
   have HC : Hid (∀ W,Calls Tryz.prog 135 #[.agg #[.int .i64 u.a,.int .i64 u.s,.int .i64 u.z],.agg #[.int .i64 v.a,.int .i64 v.s,.int .i64 v.z]] W (VBel (.int .i64 D) W)):=zH fun W=>by rw [← hDe];exact cmpN_any u v r1 r2 W
   have hY : ¬ D < 0→bs (fun h=>!ltN (gd l m) (gd l h)) f (q + 1) y = I:=fun hD=>by rw [← hQ];exact (bs_yes hlt hq (by show (!decide ((gd l m).s - (gd l q).s < 0)) = true;rw [hu,hv,hDe,decide_eq_false hD];rfl)).symm
   have hZ : D < 0→bs (fun h=>!ltN (gd l m) (gd l h)) f x q = I:=fun hD=>by rw [← hQ];exact (bs_no hlt hq (by show (!decide ((gd l m).s - (gd l q).s < 0)) = false;rw [hu,hv,hDe,decide_eq_true hD];rfl)).symm
   clear hQ hu hv hDe r1 r2
   obtain ⟨u1,u2,u3⟩:=u
   obtain ⟨v1,v2,v3⟩:=v
   obtain ⟨c1,c1b,c1c⟩:=c1
   obtain ⟨c2,c2b,c2c⟩:=c2
   dsimp only at c1 c1b c1c c2 c2b c2c HC
   by_cases hD : D < 0
   ·have HQ:=zH (hZ hD)
    clear hY hZ
    have hqx : x≤q∧q < y:=by omega
    clear hq
    go_upto_region 17 with (fail)
    go_cut [103] (fun v W'=>v = .bool false∧SrN W0 d tl N l W')
    case first=>as_aux_lemma=>
     go_region_held3 (fun W=>W.cell? ⟨d,m * 3,none⟩ = some (.int .i64 u1)∧W.cell? ⟨d,m * 3 + 1,none⟩ = some (.int .i64 u2)∧W.cell? ⟨d,m * 3 + 2,none⟩ = some (.int .i64 u3)∧W.cell? ⟨d,q * 3,none⟩ = some (.int .i64 v1)∧W.cell? ⟨d,q * 3 + 1,none⟩ = some (.int .i64 v2)∧W.cell? ⟨d,q * 3 + 2,none⟩ = some (.int .i64 v3)∧SrN W0 d tl N l W)
 ((first | exact ⟨c1,c1b,c1c,c2,c2b,c2c,HT.out⟩ | exact ⟨c1,c1b,c1c,c2,c2b,c2c,HT.out.drew⟩ | exact ⟨k1,k2,k3,k4,k5,k6,k7⟩))
 (first | (go_at_call 135;((with_reducible refine (HC.out _).mono ?_);rintro e1' w2 ⟨rfl,hb2⟩;have k7:=SrN.below HT.out.drew hb2;have k1:=(hb2.cell (p:=⟨d,m * 3,none⟩) HT.out.lt).trans c1;have k2:=(hb2.cell (p:=⟨d,m * 3 + 1,none⟩) HT.out.lt).trans c1b;have k3:=(hb2.cell (p:=⟨d,m * 3 + 2,none⟩) HT.out.lt).trans c1c;have k4:=(hb2.cell (p:=⟨d,q * 3,none⟩) HT.out.lt).trans c2;have k5:=(hb2.cell (p:=⟨d,q * 3 + 1,none⟩) HT.out.lt).trans c2b;have k6:=(hb2.cell (p:=⟨d,q * 3 + 2,none⟩) HT.out.lt).trans c2c)))
     all_goals
      go_wp2
      go_meet
      exact ⟨rfl,by first | exact k7 | exact k7.drew⟩
    case rest=>
    obtain ⟨rfl,hS1⟩:=hcut
    have HT1:=zH hS1
    clear hS1 HC c1 c1b c1c c2 c2b c2c HT u1 u2 u3 v1 v2 v3
    go_wp2
    go_roundw
    case rel=>exact ⟨x,q,f,rfl,by first | rfl | go_num,by omega,by omega,by omega,by omega,HT1.out,HQ.out⟩
    case measure=>simp [intOf] <;> omega
   ·have HQ:=zH (hY hD)
    have hDd : decide (D < 0) = false:=decide_eq_false hD
    clear hD
    clear hY hZ
    have hqx : x≤q∧q < y:=by omega
    clear hq
    go_upto_region 17 with (fail)
    go_cut [103] (fun v W'=>v = .bool true∧SrN W0 d tl N l W')
    case first=>as_aux_lemma=>
     go_region_held3 (fun W=>W.cell? ⟨d,m * 3,none⟩ = some (.int .i64 u1)∧W.cell? ⟨d,m * 3 + 1,none⟩ = some (.int .i64 u2)∧W.cell? ⟨d,m * 3 + 2,none⟩ = some (.int .i64 u3)∧W.cell? ⟨d,q * 3,none⟩ = some (.int .i64 v1)∧W.cell? ⟨d,q * 3 + 1,none⟩ = some (.int .i64 v2)∧W.cell? ⟨d,q * 3 + 2,none⟩ = some (.int .i64 v3)∧SrN W0 d tl N l W)
 ((first | exact ⟨c1,c1b,c1c,c2,c2b,c2c,HT.out⟩ | exact ⟨c1,c1b,c1c,c2,c2b,c2c,HT.out.drew⟩ | exact ⟨k1,k2,k3,k4,k5,k6,k7⟩))
 (first | (go_at_call 135;((with_reducible refine (HC.out _).mono ?_);rintro e1' w2 ⟨rfl,hb2⟩;have k7:=SrN.below HT.out.drew hb2;have k1:=(hb2.cell (p:=⟨d,m * 3,none⟩) HT.out.lt).trans c1;have k2:=(hb2.cell (p:=⟨d,m * 3 + 1,none⟩) HT.out.lt).trans c1b;have k3:=(hb2.cell (p:=⟨d,m * 3 + 2,none⟩) HT.out.lt).trans c1c;have k4:=(hb2.cell (p:=⟨d,q * 3,none⟩) HT.out.lt).trans c2;have k5:=(hb2.cell (p:=⟨d,q * 3 + 1,none⟩) HT.out.lt).trans c2b;have k6:=(hb2.cell (p:=⟨d,q * 3 + 2,none⟩) HT.out.lt).trans c2c)))
     all_goals
      go_wp2
      go_meet
      exact ⟨rfl,by first | exact k7 | exact k7.drew⟩
    case rest=>
    obtain ⟨rfl,hS1⟩:=hcut
    have HT1:=zH hS1
    clear hS1 HC c1 c1b c1c c2 c2b c2c HT u1 u2 u3 v1 v2 v3
    go_wp2
    go_roundw
    case rel=>exact ⟨q + 1,y,f,by first | rfl | go_num,rfl,by omega,by omega,by omega,by omega,HT1.out,HQ.out⟩
    case measure=>simp [intOf] <;> omega
  ·obtain rfl : y = x:=by omega
   have hIx : y = I:=by
    rw [← hQ]
    cases f <;> simp [bs]
   subst hIx
   clear hQ HI
   go_wp2
   go_loopw [17] (fun k wr=>∃ (x : Nat) (lq : List Ned),k = .int .i64 x∧x≤m∧y≤x∧SrN W0 d tl N lq wr∧dnF y x lq = dnF y m l) (fun k _=>(intOf k).toNat)
   case atStart=>exact ⟨m,l,rfl,by omega,by omega,HT.out,rfl⟩
   case round=>
    obtain ⟨x,lq,rfl,hax,hxy2,hS,hQ⟩:=hrel
    have HT1:=zH hS
    have HQ:=zH hQ
    clear hS hQ HT
    by_cases hlt3 : y < x
    ·obtain ⟨q,rfl⟩ : ∃ q,x = q + 1:=⟨x - 1,by omega⟩
     have hltI : (y : Int) < ((q + 1 : Nat) : Int):=by omega
     have hltK : (y : Int) < (q : Int) + 1:=by omega
     have hI1 : (q : Int) < (N : Int):=by omega
     have hI2 : (q : Int) + 1 < (N : Int):=by omega
     have hq1 : dnF y (q + 1) lq = if y < q + 1 then dnF y q (swp lq (q + 1) q) else lq:=rfl
     rw [if_pos hlt3,HQ.out] at hq1
     have HQ1:=zH hq1
     clear hq1
     have l1:=HT1.out.lt
     obtain ⟨u,hu⟩ : ∃ u,gd lq (q + 1) = u:=⟨_,rfl⟩
     obtain ⟨v,hv⟩ : ∃ v,gd lq q = v:=⟨_,rfl⟩
     have c1:=HT1.out.at (i:=(q + 1)) (by omega)
     have c2:=HT1.out.at (i:=q) (by omega)
     have HW:=zH (HT1.out.swap (i:=(q + 1)) (j:=q) (by omega) (by omega) u v hu hv)
     obtain ⟨y,c3⟩:=HT1.out.mid (i:=(q + 1)) (j:=q) (by omega) (by omega) v
     have g1:=HT1.out.mfroz (i:=(q + 1)) v (q * 3)
     have g2:=HT1.out.mfroz (i:=(q + 1)) v (q * 3 + 1)
     have g3:=HT1.out.mfroz (i:=(q + 1)) v (q * 3 + 2)
     have f1:=HT1.out.froz ((q + 1) * 3)
     have f2:=HT1.out.froz ((q + 1) * 3 + 1)
     have f3:=HT1.out.froz ((q + 1) * 3 + 2)
     rw [hu] at c1
     rw [hv] at c2
     clear hu hv
     obtain ⟨u1,u2,u3⟩:=u
     obtain ⟨v1,v2,v3⟩:=v
     obtain ⟨c1,c1b,c1c⟩:=c1
     obtain ⟨c2,c2b,c2c⟩:=c2
     obtain ⟨c3,c3b,c3c⟩:=c3
     dsimp only at c1 c1b c1c c2 c2b c2c c3 c3b c3c g1 g2 g3 HW
     go_wp2
     go_region
     go_wp2
     go_roundw
     case rel=>exact ⟨q,swp lq (q + 1) q,by first | rfl | go_num,by omega,by omega,by first | exact HW.out.drew | exact HW.out.drewN _ | exact HW.out,HQ1.out.symm⟩
     case measure=>simp [intOf] <;> omega
    ·obtain rfl : x = y:=by omega
     have HE : Hid (lq = dnF x m l):=zH (by rw [← HQ.out];cases x <;> simp [dnF])
     have hltI : ¬ (x : Int) < (x : Int):=by omega
     go_wp2
     refine bodyPost_ret (results_none rfl _ _ _) rfl ?_
     exact ⟨rfl,HT1.out.to HE.out⟩
end Go.Proofs.YthhomflonpjbmaaGreatDoor
/-
 The walk of slices' stable merge at needs: the general form.
-/
namespace Go.Proofs.YthhomflonpjbmaaGreatDoor
open Go.RowKit
def SymCN (f : Nat) (W0 : World) (d N : Nat) (tl : List Value) : Prop :=
 ∀ (W : World) (l : List Ned) (a m b c : Nat),SrN W0 d tl N l W→a < m→m < b→b≤N→b - a≤f→
  Calls Tryz.prog 179 #[.slice (some ⟨d,0,none⟩) N c,.int .i64 a,.int .i64 m,.int .i64 b,cmpN] W (fun e W'=>e = .returned (.tuple #[])∧SrN W0 d tl N (symF ltN f a m b l) W')
def GenCN (W0 : World) (d N : Nat) (tl : List Value) (l : List Ned) (a m b S : Nat) (v2 v3 : Value) (W : World) : Prop :=
 ∃ x y f : Nat,v2 = .int .i64 x∧v3 = .int .i64 y∧a≤x∧x≤y∧y≤(a + b) / 2∧y≤m∧(a + b) / 2 + m≤x + b∧y - x≤f∧SrN W0 d tl N l W∧bs (fun c=>!ltN (gd l ((a + b) / 2 + m - 1 - c)) (gd l c)) f x y = S
set_option maxRecDepth 100000 in
set_option maxHeartbeats 8000000 in
theorem symN_gen {f W0 d N tl} (IH : SymCN f W0 d N tl) {W : World} {l : List Ned} (h : SrN W0 d tl N l W) (a m b c : Nat) (ha : a + 1 < m) (hm : m + 1 < b) (hb : b≤N) (hf : b - a≤f + 1) :
  Calls Tryz.prog 179 #[.slice (some ⟨d,0,none⟩) N c,.int .i64 a,.int .i64 m,.int .i64 b,cmpN] W (fun e W'=>e = .returned (.tuple #[])∧SrN W0 d tl N (symF ltN (f + 1) a m b l) W'):=by
 have H:=zH h
 unfold SymCN at IH
 have HIH:=zH IH
 have hrn : N≤1048576:=h.nb
 clear h IH
 have hs:=sym_s ltN l a m b (by omega) (by omega)
 have hsp : symF ltN (f + 1) a m b l = (
   let mid:=(a + b) / 2
   let n:=mid + m
   let s:=if mid < m then bs (fun c=>!ltN (gd l (n - 1 - c)) (gd l c)) (mid - (n - b)) (n - b) mid else bs (fun c=>!ltN (gd l (n - 1 - c)) (gd l c)) (m - a) a m
   let e:=n - s
   let l1:=if s < m∧m < e then rotS s m e l else l
   let l2:=if a < s∧s < mid then symF ltN f a s mid l1 else l1
   if mid < e∧e < b then symF ltN f mid e b l2 else l2):=by
  rw [symF,if_neg (by omega),if_neg (by omega)]
 dsimp only at hs hsp
 obtain ⟨mid,hmid⟩ : ∃ mid,(a + b) / 2 = mid:=⟨_,rfl⟩
 rw [hmid] at hs hsp
 obtain ⟨S,hS⟩ : ∃ S,(if mid < m then bs (fun c=>!ltN (gd l (mid + m - 1 - c)) (gd l c)) (mid - (mid + m - b)) (mid + m - b) mid else bs (fun c=>!ltN (gd l (mid + m - 1 - c)) (gd l c)) (m - a) a m) = S:=⟨_,rfl⟩
 rw [hS] at hs hsp
 obtain ⟨k1,k2,k3,k4,k5,k6⟩:=hs
 obtain ⟨e,he⟩ : ∃ e,mid + m - S = e:=⟨_,rfl⟩
 rw [he] at hsp k4 k5 k6
 obtain ⟨l1,hl1⟩ : ∃ l1,(if S < m∧m < e then rotS S m e l else l) = l1:=⟨_,rfl⟩
 rw [hl1] at hsp
 obtain ⟨l2,hl2⟩ : ∃ l2,(if a < S∧S < mid then symF ltN f a S mid l1 else l1) = l2:=⟨_,rfl⟩
 rw [hl2] at hsp
 obtain ⟨l3,hl3⟩ : ∃ l3,(if mid < e∧e < b then symF ltN f mid e b l2 else l2) = l3:=⟨_,rfl⟩
 rw [hl3] at hsp
 rw [hsp]
 have HS:=zH hS
 have HL1:=zH hl1
 have HL2:=zH hl2
 have HL3:=zH hl3
 clear hsp hS hl1 hl2 hl3
 have e0 : ((m : Int) - (a : Int) == 1) = false:=by rw [beq_eq_false_iff_ne];omega
 have e1 : ((b : Int) - (m : Int) == 1) = false:=by rw [beq_eq_false_iff_ne];omega
 have e2 : ((a : Int) + (b : Int)) / 2 = (mid : Int):=by omega
 go_enter Tryz.func179,Tryz.ntmps179
 go_upto_if 140 with (fail)
 go_cut [20,21] (GenCN W0 d N tl l a m b S)
 case first=>as_aux_lemma=>
  by_cases hmm : mid < m
  ·have hmmI : (mid : Int) < (m : Int):=by omega
   go_wp2_with fail
   go_meet
   refine ⟨mid + m - b,mid,mid - (mid + m - b),?_,rfl,by omega,by omega,by omega,by omega,by omega,by omega,H.out,?_⟩
   ·first | rfl | go_num | (congr 1;omega)
   ·rw [hmid,← HS.out,if_pos hmm]
  ·have hmmI : decide ((mid : Int) < (m : Int)) = false:=decide_eq_false (by omega)
   go_wp2_with fail
   go_meet
   refine ⟨a,m,m - a,rfl,rfl,by omega,by omega,by omega,by omega,by omega,by omega,H.out,?_⟩
   rw [hmid,← HS.out,if_neg hmm]
 case rest=>
 obtain ⟨x0,y0,f0,rfl,rfl,g1,g2,g3,g4,g5,g6,g7,g8⟩:=hcut
 have HT0:=zH g7
 have HB0:=zH g8
 clear g7 g8 H
 rw [hmid] at g3 g5
 go_wp2
 go_loopw [20,21] (fun i j wr=>∃ x y f : Nat,i = .int .i64 x∧j = .int .i64 y∧a≤x∧x≤y∧y≤mid∧y≤m∧mid + m≤x + b∧y - x≤f∧SrN W0 d tl N l wr∧bs (fun c=>!ltN (gd l (mid + m - 1 - c)) (gd l c)) f x y = S) (fun i j _=>(intOf j).toNat - (intOf i).toNat)
 case atStart=>exact ⟨x0,y0,f0,rfl,rfl,by omega,by omega,by omega,by omega,by omega,by omega,HT0.out,by have:=HB0.out;rwa [hmid] at this⟩
 case round=>
  obtain ⟨x,y,f1,rfl,rfl,hax,hxy,hym,hym2,hxb,hf1,hS1,hQ⟩:=hrel
  have HT:=zH hS1
  clear hS1 HT0 HB0
  by_cases hlt : x < y
  ·have hltI : (x : Int) < (y : Int):=by omega
   obtain ⟨f1,rfl⟩ : ∃ f',f1 = f' + 1:=⟨f1 - 1,by omega⟩
   obtain ⟨q,hq⟩ : ∃ q,q = (x + y) / 2:=⟨_,rfl⟩
   obtain ⟨z,hz⟩ : ∃ z,mid + m - 1 - q = z:=⟨_,rfl⟩
   have e3 : ((x : Int) + (y : Int)) / 2 = (q : Int):=by omega
   have e4 : (mid : Int) + (m : Int) - 1 - (q : Int) = (z : Int):=by omega
   have hI1 : (q : Int) < (N : Int):=by omega
   have hI2 : (z : Int) < (N : Int):=by omega
   have hI8 : (0 : Int)≤(z : Int):=by omega
   have hwA : IntKind.i64.wrap ((mid : Int) + (m : Int) - 1 - (q : Int)) = (z : Int):=(IntWalk.i64_in _ (by omega)).trans e4
   have hwC : IntKind.i64.wrap (z : Int) = (z : Int):=IntWalk.i64_in _ (by omega)
   have l1:=HT.out.lt
   obtain ⟨u,hu⟩ : ∃ u,gd l z = u:=⟨_,rfl⟩
   obtain ⟨v,hv⟩ : ∃ v,gd l q = v:=⟨_,rfl⟩
   have c1:=HT.out.at (i:=z) (by omega)
   have c2:=HT.out.at (i:=q) (by omega)
   have r1:=HT.out.gok (i:=z) (by omega)
   have r2:=HT.out.gok (i:=q) (by omega)
   rw [hu] at c1 r1
   rw [hv] at c2 r2
   obtain ⟨D,hDe⟩ : ∃ D,u.s - v.s = D:=⟨_,rfl⟩
   have HC : Hid (∀ W,Calls Tryz.prog 135 #[.agg #[.int .i64 u.a,.int .i64 u.s,.int .i64 u.z],.agg #[.int .i64 v.a,.int .i64 v.s,.int .i64 v.z]] W (VBel (.int .i64 D) W)):=zH fun W=>by rw [← hDe];exact cmpN_any u v r1 r2 W
   have hZ : D < 0→bs (fun c=>!ltN (gd l (mid + m - 1 - c)) (gd l c)) f1 x q = S:=fun hD=>by rw [← hQ];exact (bs_no hlt hq (by show (!decide ((gd l (mid + m - 1 - q)).s - (gd l q).s < 0)) = false;rw [hz,hu,hv,hDe,decide_eq_true hD];rfl)).symm
   have hY : ¬ D < 0→bs (fun c=>!ltN (gd l (mid + m - 1 - c)) (gd l c)) f1 (q + 1) y = S:=fun hD=>by rw [← hQ];exact (bs_yes hlt hq (by show (!decide ((gd l (mid + m - 1 - q)).s - (gd l q).s < 0)) = true;rw [hz,hu,hv,hDe,decide_eq_false hD];rfl)).symm
   clear hQ hu hv hDe r1 r2
   obtain ⟨u1,u2,u3⟩:=u
   obtain ⟨v1,v2,v3⟩:=v
   obtain ⟨c1,c1b,c1c⟩:=c1
   obtain ⟨c2,c2b,c2c⟩:=c2
   dsimp only at c1 c1b c1c c2 c2b c2c HC
   by_cases hD : D < 0
   ·as_aux_lemma=>
     have HQ:=zH (hZ hD)
     clear hY hZ
     have hqx : x≤q∧q < y:=by omega
     clear hq
     go_upto_region 35 with (fail)
     go_cut [171] (fun v W'=>v = .bool false∧SrN W0 d tl N l W')
     case first=>as_aux_lemma=>
      go_region_held3 (fun W=>W.cell? ⟨d,z * 3,none⟩ = some (.int .i64 u1)∧W.cell? ⟨d,z * 3 + 1,none⟩ = some (.int .i64 u2)∧W.cell? ⟨d,z * 3 + 2,none⟩ = some (.int .i64 u3)∧W.cell? ⟨d,q * 3,none⟩ = some (.int .i64 v1)∧W.cell? ⟨d,q * 3 + 1,none⟩ = some (.int .i64 v2)∧W.cell? ⟨d,q * 3 + 2,none⟩ = some (.int .i64 v3)∧SrN W0 d tl N l W)
 ((first | exact ⟨c1,c1b,c1c,c2,c2b,c2c,HT.out⟩ | exact ⟨c1,c1b,c1c,c2,c2b,c2c,HT.out.drew⟩ | exact ⟨k1,k2,k3,k4,k5,k6,k7⟩))
 (first | (go_at_call 135;((with_reducible refine (HC.out _).mono ?_);rintro e1' w2 ⟨rfl,hb2⟩;have k7:=SrN.below HT.out.drew hb2;have k1:=(hb2.cell (p:=⟨d,z * 3,none⟩) HT.out.lt).trans c1;have k2:=(hb2.cell (p:=⟨d,z * 3 + 1,none⟩) HT.out.lt).trans c1b;have k3:=(hb2.cell (p:=⟨d,z * 3 + 2,none⟩) HT.out.lt).trans c1c;have k4:=(hb2.cell (p:=⟨d,q * 3,none⟩) HT.out.lt).trans c2;have k5:=(hb2.cell (p:=⟨d,q * 3 + 1,none⟩) HT.out.lt).trans c2b;have k6:=(hb2.cell (p:=⟨d,q * 3 + 2,none⟩) HT.out.lt).trans c2c)))
      all_goals
       go_wp2
       go_meet
       exact ⟨rfl,by first | exact k7 | exact k7.drew⟩
     case rest=>
     obtain ⟨rfl,hS1⟩:=hcut
     have HT1:=zH hS1
     clear hS1 HC c1 c1b c1c c2 c2b c2c HT u1 u2 u3 v1 v2 v3
     go_wp2
     go_roundw
     case rel=>exact ⟨x,q,f1,rfl,by first | rfl | go_num,by omega,by omega,by omega,by omega,by omega,by omega,HT1.out,HQ.out⟩
     case measure=>simp [intOf] <;> omega
   ·as_aux_lemma=>
     have hDd : decide (D < 0) = false:=decide_eq_false hD
     have HQ:=zH (hY hD)
     clear hD
     clear hY hZ
     have hqx : x≤q∧q < y:=by omega
     clear hq
     go_upto_region 35 with (fail)
     go_cut [171] (fun v W'=>v = .bool true∧SrN W0 d tl N l W')
     case first=>as_aux_lemma=>
      go_region_held3 (fun W=>W.cell? ⟨d,z * 3,none⟩ = some (.int .i64 u1)∧W.cell? ⟨d,z * 3 + 1,none⟩ = some (.int .i64 u2)∧W.cell? ⟨d,z * 3 + 2,none⟩ = some (.int .i64 u3)∧W.cell? ⟨d,q * 3,none⟩ = some (.int .i64 v1)∧W.cell? ⟨d,q * 3 + 1,none⟩ = some (.int .i64 v2)∧W.cell? ⟨d,q * 3 + 2,none⟩ = some (.int .i64 v3)∧SrN W0 d tl N l W)
 ((first | exact ⟨c1,c1b,c1c,c2,c2b,c2c,HT.out⟩ | exact ⟨c1,c1b,c1c,c2,c2b,c2c,HT.out.drew⟩ | exact ⟨k1,k2,k3,k4,k5,k6,k7⟩))
 (first | (go_at_call 135;((with_reducible refine (HC.out _).mono ?_);rintro e1' w2 ⟨rfl,hb2⟩;have k7:=SrN.below HT.out.drew hb2;have k1:=(hb2.cell (p:=⟨d,z * 3,none⟩) HT.out.lt).trans c1;have k2:=(hb2.cell (p:=⟨d,z * 3 + 1,none⟩) HT.out.lt).trans c1b;have k3:=(hb2.cell (p:=⟨d,z * 3 + 2,none⟩) HT.out.lt).trans c1c;have k4:=(hb2.cell (p:=⟨d,q * 3,none⟩) HT.out.lt).trans c2;have k5:=(hb2.cell (p:=⟨d,q * 3 + 1,none⟩) HT.out.lt).trans c2b;have k6:=(hb2.cell (p:=⟨d,q * 3 + 2,none⟩) HT.out.lt).trans c2c)))
      all_goals
       go_wp2
       go_meet
       exact ⟨rfl,by first | exact k7 | exact k7.drew⟩
     case rest=>
     obtain ⟨rfl,hS1⟩:=hcut
     have HT1:=zH hS1
     clear hS1 HC c1 c1b c1c c2 c2b c2c HT u1 u2 u3 v1 v2 v3
     go_wp2
     go_roundw
     case rel=>exact ⟨q + 1,y,f1,by first | rfl | go_num,rfl,by omega,by omega,by omega,by omega,by omega,by omega,HT1.out,HQ.out⟩
     case measure=>simp [intOf] <;> omega
  ·as_aux_lemma=>
    obtain rfl : y = x:=by omega
    have hIx : y = S:=by
     rw [← hQ]
     cases f1 <;> simp [bs]
    subst hIx
    clear hQ
    have e5 : (mid : Int) + (m : Int) - (y : Int) = (e : Int):=by omega
    clear HS
    go_upto_region 39 with (fail)
    go_cut [185] (fun v W'=>v = .bool (decide (y < m∧m < e))∧SrN W0 d tl N l W')
    case first=>as_aux_lemma=>
     by_cases h1 : y < m
     ·have h1I : (y : Int) < (m : Int):=by omega
      by_cases h2 : m < e
      ·have h2I : (m : Int) < (e : Int):=by omega
       go_wp2_with fail
       go_meet
       exact ⟨by simp [h1,h2],by first | exact HT.out | exact HT.out.drewN _⟩
      ·have h2I : decide ((m : Int) < (e : Int)) = false:=decide_eq_false (by omega)
       go_wp2_with fail
       go_meet
       exact ⟨by simp [h1,h2],by first | exact HT.out | exact HT.out.drewN _⟩
     ·have h1I : decide ((y : Int) < (m : Int)) = false:=decide_eq_false (by omega)
      go_wp2_with fail
      go_meet
      exact ⟨by simp [h1],by first | exact HT.out | exact HT.out.drewN _⟩
    case rest=>
    obtain ⟨rfl,hS1⟩:=hcut
    have HT:=zH hS1
    clear hS1
    go_upto_if 185 with (fail)
    go_cut [] (fun W'=>SrN W0 d tl N l1 W')
    case first=>as_aux_lemma=>
     by_cases hc : y < m∧m < e
     ·have hd : decide (y < m∧m < e) = true:=decide_eq_true hc
      have HE:=HL1.out
      rw [if_pos hc] at HE
      have HEE:=zH HE
      clear HE
      go_wp2_with (go_at_call 185;(with_reducible refine ((rotN_any HT.out y m e c rfl rfl rfl hc.1 hc.2 (by omega))).mono ?_);rintro e1' w1 ⟨rfl,hS1⟩)
      go_meet
      exact hS1.to HEE.out
     ·have hd : decide (y < m∧m < e) = false:=decide_eq_false hc
      have HE:=HL1.out
      rw [if_neg hc] at HE
      have HEE:=zH HE
      clear HE
      go_wp2_with fail
      go_meet
      exact HT.out.to HEE.out
    case rest=>
    have HT:=zH hcut
    clear hcut
    go_upto_region 41 with (fail)
    go_cut [199] (fun v W'=>v = .bool (decide (a < y∧y < mid))∧SrN W0 d tl N l1 W')
    case first=>as_aux_lemma=>
     by_cases h1 : a < y
     ·have h1I : (a : Int) < (y : Int):=by omega
      by_cases h2 : y < mid
      ·have h2I : (y : Int) < (mid : Int):=by omega
       go_wp2_with fail
       go_meet
       exact ⟨by simp [h1,h2],by first | exact HT.out | exact HT.out.drewN _⟩
      ·have h2I : decide ((y : Int) < (mid : Int)) = false:=decide_eq_false (by omega)
       go_wp2_with fail
       go_meet
       exact ⟨by simp [h1,h2],by first | exact HT.out | exact HT.out.drewN _⟩
     ·have h1I : decide ((a : Int) < (y : Int)) = false:=decide_eq_false (by omega)
      go_wp2_with fail
      go_meet
      exact ⟨by simp [h1],by first | exact HT.out | exact HT.out.drewN _⟩
    case rest=>
    obtain ⟨rfl,hS1⟩:=hcut
    have HT:=zH hS1
    clear hS1
    go_upto_if 199 with (fail)
    go_cut [] (fun W'=>SrN W0 d tl N l2 W')
    case first=>as_aux_lemma=>
     by_cases hc : a < y∧y < mid
     ·have hd : decide (a < y∧y < mid) = true:=decide_eq_true hc
      have HE:=HL2.out
      rw [if_pos hc] at HE
      have HEE:=zH HE
      clear HE
      go_wp2_with (go_at_call 179;(with_reducible refine ((HIH.out _ l1 a y mid c HT.out hc.1 hc.2 (by omega) (by omega))).mono ?_);rintro e1' w1 ⟨rfl,hS1⟩)
      go_meet
      exact hS1.to HEE.out
     ·have hd : decide (a < y∧y < mid) = false:=decide_eq_false hc
      have HE:=HL2.out
      rw [if_neg hc] at HE
      have HEE:=zH HE
      clear HE
      go_wp2_with fail
      go_meet
      exact HT.out.to HEE.out
    case rest=>
    have HT:=zH hcut
    clear hcut
    go_upto_region 43 with (fail)
    go_cut [213] (fun v W'=>v = .bool (decide (mid < e∧e < b))∧SrN W0 d tl N l2 W')
    case first=>as_aux_lemma=>
     by_cases h1 : mid < e
     ·have h1I : (mid : Int) < (e : Int):=by omega
      by_cases h2 : e < b
      ·have h2I : (e : Int) < (b : Int):=by omega
       go_wp2_with fail
       go_meet
       exact ⟨by simp [h1,h2],by first | exact HT.out | exact HT.out.drewN _⟩
      ·have h2I : decide ((e : Int) < (b : Int)) = false:=decide_eq_false (by omega)
       go_wp2_with fail
       go_meet
       exact ⟨by simp [h1,h2],by first | exact HT.out | exact HT.out.drewN _⟩
     ·have h1I : decide ((mid : Int) < (e : Int)) = false:=decide_eq_false (by omega)
      go_wp2_with fail
      go_meet
      exact ⟨by simp [h1],by first | exact HT.out | exact HT.out.drewN _⟩
    case rest=>
    obtain ⟨rfl,hS1⟩:=hcut
    have HT:=zH hS1
    clear hS1
    by_cases hc : mid < e∧e < b
    ·have hd : decide (mid < e∧e < b) = true:=decide_eq_true hc
     have HE:=HL3.out
     rw [if_pos hc] at HE
     have HEE:=zH HE
     clear HE
     go_wp2_with (go_at_call 179;(with_reducible refine (HIH.out _ l2 mid e b c HT.out hc.1 hc.2 (by omega) (by omega)).mono ?_);rintro e1' w1 ⟨rfl,hS1⟩)
     go_end0
     exact ⟨rfl,hS1.to HEE.out⟩
    ·have hd : decide (mid < e∧e < b) = false:=decide_eq_false hc
     have HE:=HL3.out
     rw [if_neg hc] at HE
     have HEE:=zH HE
     clear HE
     go_wp2_with fail
     go_end0
     exact ⟨rfl,HT.out.to HEE.out⟩
end Go.Proofs.YthhomflonpjbmaaGreatDoor
/-
 The walk of slices.SortStableFunc at needs, whole.
-/
namespace Go.Proofs.YthhomflonpjbmaaGreatDoor
open Go.RowKit
theorem symN_all (W0 : World) (d N : Nat) (tl : List Value) : ∀ f,SymCN f W0 d N tl
 | 0=>fun W l a m b c _ h1 h2 _ h3=>by omega
 |f + 1=>fun W l a m b c h h1 h2 hb hf=>by
  by_cases hA : m - a = 1
  ·have:=symN_one h (A:=a) (M:=m) (B:=b) a m b c rfl rfl rfl (by omega) h2 hb
   rw [symF,if_pos hA]
   exact this
  ·by_cases hB : b - m = 1
   ·have:=symN_two h (A:=a) (M:=m) (B:=b) a m b c rfl rfl rfl (by omega) (by omega) hb
    rw [symF,if_neg hA,if_pos hB]
    exact this
   ·exact symN_gen (symN_all W0 d N tl f) h a m b c (by omega) (by omega) hb hf
theorem symN_any {W0 W : World} {d N : Nat} {tl : List Value} {l : List Ned} (h : SrN W0 d tl N l W) {A M B : Int} (a m b c f : Nat) (eA : A = a) (eM : M = m) (eB : B = b) (ha : a < m) (hm : m < b) (hb : b≤N) (hf : b - a≤f) :
  Calls Tryz.prog 179 #[.slice (some ⟨d,0,none⟩) N c,.int .i64 A,.int .i64 M,.int .i64 B,cmpN] W (fun e W'=>e = .returned (.tuple #[])∧SrN W0 d tl N (symF ltN f a m b l) W'):=by
 subst eA eM eB
 exact symN_all W0 d N tl f W l a m b c h ha hm hb hf
theorem blkN_end {lt : Ned→Ned→Bool} {n f a : Nat} {l : List Ned} (h : ¬ a + 20≤n) : blk lt n f a l = insS lt a n l:=by
 cases f <;> simp [blk,h]
theorem mrgN_end {lt : Ned→Ned→Bool} {n s f a : Nat} {l : List Ned} (h : ¬ a + 2 * s≤n) : mrg lt n s f a l = if a + s < n then symF lt n a (a + s) n l else l:=by
 cases f <;> simp [mrg,h]
theorem mrgsN_end {lt : Ned→Ned→Bool} {n s f : Nat} {l : List Ned} (h : ¬ s < n) : mrgs lt n f s l = l:=by
 cases f <;> simp [mrgs,h]
set_option maxRecDepth 100000 in
set_option maxHeartbeats 8000000 in
theorem stableN_any {W0 W : World} {d N : Nat} {tl : List Value} {l : List Ned} (h : SrN W0 d tl N l W) (c : Nat) :
  Calls Tryz.prog 162 #[.slice (some ⟨d,0,none⟩) N c,.int .i64 N,cmpN] W (fun e W'=>e = .returned (.tuple #[])∧SrN W0 d tl N (stableS ltN l) W'):=by
 have H:=zH h
 have hrn : N≤1048576:=h.nb
 have hN:=h.ln
 clear h
 have hR : stableS ltN l = mrgs ltN N N 20 (blk ltN N N 0 l):=by unfold stableS;rw [hN]
 rw [hR]
 clear hN hR
 obtain ⟨R1,hR1⟩ : ∃ R1,blk ltN N N 0 l = R1:=⟨_,rfl⟩
 rw [hR1]
 obtain ⟨R2,hR2⟩ : ∃ R2,mrgs ltN N N 20 R1 = R2:=⟨_,rfl⟩
 rw [hR2]
 have HR1:=zH hR1
 have HR2:=zH hR2
 clear hR1 hR2
 go_enter Tryz.func162,Tryz.ntmps162
 go_wp2
 go_loopw [7,8] (fun i j wr=>∃ (a f : Nat) (m : List Ned),i = .int .i64 a∧j = .int .i64 (a + 20 : Nat)∧a≤N∧N≤a + f∧SrN W0 d tl N m wr∧blk ltN N f a m = R1) (fun i _ _=>N - (intOf i).toNat)
 case atStart=>exact ⟨0,N,l,rfl,rfl,by omega,by omega,H.out,HR1.out⟩
 case round=>
  obtain ⟨a,f,m,rfl,rfl,haN,hf,hS,hB⟩:=hrel
  have HT:=zH hS
  clear hS H
  by_cases hlt : a + 20≤N
  ·as_aux_lemma=>
    have hltI : ((a + 20 : Nat) : Int)≤(N : Int):=by omega
    have hltJ : (a : Int) + 20≤(N : Int):=by omega
    obtain ⟨f,rfl⟩ : ∃ f',f = f' + 1:=⟨f - 1,by omega⟩
    simp only [blk,if_pos hlt] at hB
    have HB:=zH hB
    clear hB
    go_wp2_with (go_at_call 178;(with_reducible refine (insN_any HT.out a (a + 20) c (by omega) (by omega) (by omega) (by omega)).mono ?_);rintro e1' w1 ⟨rfl,hS1⟩;have HS1:=zH hS1;clear hS1)
    go_roundw
    case rel=>exact ⟨a + 20,f,_,by first | rfl | go_num,by first | rfl | go_num,by omega,by omega,HS1.out,HB.out⟩
    case measure=>simp [intOf] <;> omega
  ·have hltI : decide (((a + 20 : Nat) : Int)≤(N : Int)) = false:=decide_eq_false (by omega)
   have hltJ : decide ((a : Int) + 20≤(N : Int)) = false:=decide_eq_false (by omega)
   rw [blkN_end hlt] at hB
   have HB:=zH hB
   clear hB
   go_wp2_with (go_at_call 178;(with_reducible refine (insN_any HT.out a N c (by omega) (by omega) (by omega) (by omega)).mono ?_);rintro e1' w1 ⟨rfl,hS1⟩;have HS1:=zH (hS1.to HB.out);clear hS1)
   go_loopw [6] (fun i wr=>∃ (s f : Nat) (m : List Ned),i = .int .i64 s∧1≤s∧s≤2 * N + 20∧N≤s + f∧SrN W0 d tl N m wr∧mrgs ltN N f s m = R2) (fun i _=>N - (intOf i).toNat)
   case atStart=>exact ⟨20,N,R1,rfl,by omega,by omega,by omega,HS1.out,HR2.out⟩
   case round=>
    obtain ⟨s,f2,m2,rfl,hs1,hsN,hf2,hS2,hB2⟩:=hrel
    have HT2:=zH hS2
    clear hS2 HS1 HT HB
    by_cases hlt2 : s < N
    ·as_aux_lemma=>
      have hlt2I : (s : Int) < (N : Int):=by omega
      obtain ⟨f2,rfl⟩ : ∃ f',f2 = f' + 1:=⟨f2 - 1,by omega⟩
      simp only [mrgs,if_pos hlt2] at hB2
      obtain ⟨R3,hR3⟩ : ∃ R3,mrg ltN N s N 0 m2 = R3:=⟨_,rfl⟩
      rw [hR3] at hB2
      have HB2:=zH hB2
      have HR3:=zH hR3
      clear hB2 hR3
      go_wp2
      go_loopw [7,8] (fun i j wr=>∃ (a f : Nat) (m : List Ned),i = .int .i64 a∧j = .int .i64 (a + 2 * s : Nat)∧a≤N∧N≤a + f∧SrN W0 d tl N m wr∧mrg ltN N s f a m = R3) (fun i _ _=>N - (intOf i).toNat)
      case atStart=>exact ⟨0,N,m2,rfl,by first | rfl | go_num,by omega,by omega,HT2.out,HR3.out⟩
      case round=>
       obtain ⟨a,f,m,rfl,rfl,haN,hf,hS,hB⟩:=hrel
       have HT:=zH hS
       clear hS
       by_cases hlt : a + 2 * s≤N
       ·have hltI : ((a + 2 * s : Nat) : Int)≤(N : Int):=by omega
        have hltJ : (a : Int) + 2 * (s : Int)≤(N : Int):=by omega
        obtain ⟨f,rfl⟩ : ∃ f',f = f' + 1:=⟨f - 1,by omega⟩
        simp only [mrg,if_pos hlt] at hB
        have HB:=zH hB
        clear hB
        go_wp2_with (go_at_call 179;(with_reducible refine (symN_any HT.out a (a + s) (a + 2 * s) c N (by omega) (by omega) (by omega) (by omega) (by omega) (by omega) (by omega)).mono ?_);rintro e1' w1 ⟨rfl,hS1⟩;have HS1:=zH hS1;clear hS1)
        go_roundw
        case rel=>exact ⟨a + 2 * s,f,_,by first | rfl | go_num,by first | rfl | go_num,by omega,by omega,HS1.out,HB.out⟩
        case measure=>simp [intOf] <;> omega
       ·have hltI : decide (((a + 2 * s : Nat) : Int)≤(N : Int)) = false:=decide_eq_false (by omega)
        have hltJ : decide ((a : Int) + 2 * (s : Int)≤(N : Int)) = false:=decide_eq_false (by omega)
        rw [mrgN_end hlt] at hB
        by_cases hlast : a + s < N
        ·rw [if_pos hlast] at hB
         have HB:=zH hB
         clear hB
         have hlastI : (a : Int) + (s : Int) < (N : Int):=by omega
         go_wp2_with (go_at_call 179;(with_reducible refine (symN_any HT.out a (a + s) N c N (by omega) (by omega) (by omega) (by omega) (by omega) (by omega) (by omega)).mono ?_);rintro e1' w1 ⟨rfl,hS1⟩;have HS1:=zH (hS1.to HB.out);clear hS1)
         go_roundw
         case rel=>exact ⟨2 * s,f2,R3,by first | rfl | go_num,by omega,by omega,by omega,HS1.out,HB2.out⟩
         case measure=>simp [intOf] <;> omega
        ·rw [if_neg hlast] at hB
         have HB:=zH (HT.out.to hB)
         clear hB
         have hlastI : decide ((a : Int) + (s : Int) < (N : Int)) = false:=decide_eq_false (by omega)
         go_wp2
         go_roundw
         case rel=>exact ⟨2 * s,f2,R3,by first | rfl | go_num,by omega,by omega,by omega,HB.out,HB2.out⟩
         case measure=>simp [intOf] <;> omega
    ·have hlt2I : decide ((s : Int) < (N : Int)) = false:=decide_eq_false (by omega)
     rw [mrgsN_end hlt2] at hB2
     have HB2:=zH (HT2.out.to hB2)
     clear hB2
     go_wp2
     go_end0
     exact ⟨rfl,HB2.out⟩
set_option maxRecDepth 100000 in
set_option maxHeartbeats 4000000 in
theorem sortN_any {W0 W : World} {d N : Nat} {tl : List Value} {l : List Ned} (h : SrN W0 d tl N l W) (c : Nat) :
  Calls Tryz.prog 134 #[.slice (some ⟨d,0,none⟩) N c,cmpN] W (fun e W'=>e = .returned (.tuple #[])∧SrN W0 d tl N (stableS ltN l) W'):=by
 have H:=zH h
 have hrn : N≤1048576:=h.nb
 clear h
 go_enter Tryz.func134,Tryz.ntmps134
 go_wp2_with (go_at_call 162;(with_reducible refine (stableN_any H.out c).mono ?_);rintro e1' w1 ⟨rfl,hS1⟩)
 go_end0
 exact ⟨rfl,hS1⟩
end Go.Proofs.YthhomflonpjbmaaGreatDoor
/-
 The walks of glyph: what Rune answers is a character of one or three bytes.
-/
namespace Go.Proofs.YthhomflonpjbmaaGreatDoor
open Go.RowKit
set_option maxRecDepth 100000 in
theorem gletter_any (x : Int) (w : World) : Calls Tryz.prog 167 #[.int .i8 x] w (fun e w'=>∃ b : Int,e = .returned (.int .u8 b)∧w' = w):=by
 by_cases h1 : x = 1
 ·subst h1
  go_enter Tryz.func167,Tryz.ntmps167
  go_wp2
  go_ret
  exact ⟨_,rfl,rfl⟩
 by_cases h2 : x = 2
 ·subst h2
  go_enter Tryz.func167,Tryz.ntmps167
  go_wp2
  go_ret
  exact ⟨_,rfl,rfl⟩
 by_cases h3 : x = 3
 ·subst h3
  go_enter Tryz.func167,Tryz.ntmps167
  go_wp2
  go_ret
  exact ⟨_,rfl,rfl⟩
 by_cases h4 : x = 4
 ·subst h4
  go_enter Tryz.func167,Tryz.ntmps167
  go_wp2
  go_ret
  exact ⟨_,rfl,rfl⟩
 go_enter Tryz.func167,Tryz.ntmps167
 go_wp2
 go_ret
 exact ⟨_,rfl,rfl⟩
set_option maxRecDepth 100000 in
theorem gkind_any (x : Int) (w : World) : Calls Tryz.prog 166 #[.int .u8 x] w (fun e w'=>∃ b : Int,e = .returned (.int .i8 b)∧w' = w):=by
 by_cases h1 : x = 76
 ·subst h1
  go_enter Tryz.func166,Tryz.ntmps166
  go_wp2
  go_ret
  exact ⟨_,rfl,rfl⟩
 by_cases h2 : x = 72
 ·subst h2
  go_enter Tryz.func166,Tryz.ntmps166
  go_wp2
  go_ret
  exact ⟨_,rfl,rfl⟩
 by_cases h3 : x = 68
 ·subst h3
  go_enter Tryz.func166,Tryz.ntmps166
  go_wp2
  go_ret
  exact ⟨_,rfl,rfl⟩
 by_cases h4 : x = 82
 ·subst h4
  go_enter Tryz.func166,Tryz.ntmps166
  go_wp2
  go_ret
  exact ⟨_,rfl,rfl⟩
 go_enter Tryz.func166,Tryz.ntmps166
 go_wp2
 go_ret
 exact ⟨_,rfl,rfl⟩
def Ar (W : World) (b : Nat) : Prop:=∃ (x y z v : Int) (e : TypeId),Arr W b [.int .i8 x,.int .i8 y,.int .i8 z,.int .i8 v] e
theorem Ar.lt {W : World} {b : Nat} (h : Ar W b) : b < W.heap.size:=h.elim fun _ h=>h.elim fun _ h=>h.elim fun _ h=>h.elim fun _ h=>h.elim fun _ h=>h.lt
theorem Ar.froz {W : World} {b : Nat} (h : Ar W b) (j : Nat) : W.frozen? ⟨b,j,none⟩ = false:=h.elim fun _ h=>h.elim fun _ h=>h.elim fun _ h=>h.elim fun _ h=>h.elim fun _ h=>h.froz j
theorem Ar.set {W : World} {b : Nat} (h : Ar W b) (j : Nat) (v : Int) : Ar (W.setCell ⟨b,j,none⟩ (.int .i8 v)) b:=by
 obtain ⟨x,y,z,t,e,h⟩:=h
 have:=h.set j (.int .i8 v)
 rcases j with _ | _ | _ | _ | j
 ·exact ⟨_,_,_,_,_,this⟩
 ·exact ⟨_,_,_,_,_,this⟩
 ·exact ⟨_,_,_,_,_,this⟩
 ·exact ⟨_,_,_,_,_,this⟩
 ·exact ⟨_,_,_,_,_,this⟩
theorem Ar.cell {W : World} {b : Nat} (h : Ar W b) {j : Nat} (hj : j < 4) : ∃ x : Int,W.cell? ⟨b,j,none⟩ = some (.int .i8 x):=by
 obtain ⟨x,y,z,t,e,h⟩:=h
 rcases (show j = 0∨j = 1∨j = 2∨j = 3 by omega) with rfl | rfl | rfl | rfl
 ·exact ⟨_,h.cell rfl⟩
 ·exact ⟨_,h.cell rfl⟩
 ·exact ⟨_,h.cell rfl⟩
 ·exact ⟨_,h.cell rfl⟩
theorem Ar.other {W : World} {b b' : Nat} (h : Ar W b) (hne : b ≠ b') (j : Nat) (v : Value) : Ar (W.setCell ⟨b',j,none⟩ v) b:=by
 obtain ⟨x,y,z,t,e,h⟩:=h
 exact ⟨_,_,_,_,_,h.other hne j v⟩
theorem Ar.below {W W' : World} {b : Nat} (h : Ar W b) (hb : Below W.heap.size W W') : Ar W' b:=by
 obtain ⟨x,y,z,t,e,h⟩:=h
 exact ⟨_,_,_,_,_,h.below hb⟩
theorem Ar.alloc {W : World} {b : Nat} (h : Ar W b) (o : Obj) : Ar (W.alloc o) b:=by
 obtain ⟨x,y,z,t,e,h⟩:=h
 exact ⟨_,_,_,_,_,h.alloc o⟩
theorem Ar.made (W : World) (x y z v : Int) (e : TypeId) : Ar (W.alloc (.cells #[.int .i8 x,.int .i8 y,.int .i8 z,.int .i8 v] e)) W.heap.size:=⟨x,y,z,v,e,heap_alloc_new W _⟩
theorem arms_one {fn : Func} {p : Tmp} (h : fn.results = #[.cell p 148]) {tmps : Array Value} {W : World} {b : Nat} (hp : tmps.getD p undef = .pointer (some ⟨b,0,none⟩)) (ho : Ar W b) :
  ∃ x y z v : Int,(results fn tmps).run Tryz.prog W = .ok (.agg #[.int .i8 x,.int .i8 y,.int .i8 z,.int .i8 v]) W:=by
 obtain ⟨x,y,z,v,e,ho⟩:=ho
 exact ⟨x,y,z,v,results_cell_row h tmps W b _ _ _ _ hp ho Tryz.underlying148 rfl (show (Tryz.prog.info? 148).map (·.size) = some 4 by kernel_rfl)⟩
theorem arms_two {fn : Func} {p u : Tmp} (h : fn.results = #[.cell p 148,.tmp u]) {tmps : Array Value} {W : World} {b : Nat} (hp : tmps.getD p undef = .pointer (some ⟨b,0,none⟩)) (ho : Ar W b) :
  ∃ x y z v : Int,(results fn tmps).run Tryz.prog W = .ok (.tuple #[.agg #[.int .i8 x,.int .i8 y,.int .i8 z,.int .i8 v],tmps.getD u undef]) W:=by
 obtain ⟨x,y,z,v,e,ho⟩:=ho
 refine ⟨x,y,z,v,?_⟩
 rw [results_cell_tmp h,hp]
 have:=run_loadVar_row (P:=Tryz.prog) W b e 148 _ (0,0) _ ho Tryz.underlying148 rfl (show (Tryz.prog.info? 148).map (·.size) = some 4 by kernel_rfl)
 simp [asAddr,this,Result.andThen]
theorem arms_ret {fn : Func} {p u : Tmp} (h : fn.results = #[.cell p 148,.tmp u]) {R : Ending→World→Prop} {a : Act} {W : World} {b : Nat} (hp : a.tmps.getD p undef = .pointer (some ⟨b,0,none⟩)) (hd : a.defers = []) (ho : Ar W b)
  (hR : ∀ x y z v : Int,R (.returned (.tuple #[.agg #[.int .i8 x,.int .i8 y,.int .i8 z,.int .i8 v],a.tmps.getD u undef])) W) : bodyPost Tryz.prog fn R .ret a W:=by
 obtain ⟨x,y,z,v,hq⟩:=arms_two h hp ho
 exact bodyPost_ret hq hd (hR x y z v)
theorem arms_ret1 {fn : Func} {p : Tmp} (h : fn.results = #[.cell p 148]) {R : Ending→World→Prop} {a : Act} {W : World} {b : Nat} (hp : a.tmps.getD p undef = .pointer (some ⟨b,0,none⟩)) (hd : a.defers = []) (ho : Ar W b)
  (hR : ∀ x y z v : Int,R (.returned (.agg #[.int .i8 x,.int .i8 y,.int .i8 z,.int .i8 v])) W) : bodyPost Tryz.prog fn R .ret a W:=by
 obtain ⟨x,y,z,v,hq⟩:=arms_one h hp ho
 exact bodyPost_ret hq hd (hR x y z v)
def lettersB : ByteArray:=⟨#[45,76,45,76,45,72,45,72,76,45,76,45,72,45,72,45,46,46,46,46,46,46,46,46,46,46,46,46,46,46,46,46,46,46,46,46,46,46,46,46,46,46,46,46,46,46,46,46,45,76,76,45,45,72,76,45,45,76,72,45,45,72,72,45,45,45,76,76,45,45,76,72,45,45,72,76,45,45,72,72,76,76,45,45,76,72,45,45,72,76,45,45,72,72,45,45,76,45,45,76,76,45,45,72,72,45,45,76,72,45,45,72,76,76,76,45,76,72,76,45,72,76,76,45,76,76,72,45,72,76,72,45,72,72,76,45,76,72,72,45,72,72,72,45,76,45,76,76,76,45,76,72,72,45,76,76,76,45,72,76,72,45,72,76,72,45,76,72,76,45,72,72,72,45,72,72,45,76,76,76,45,76,76,72,45,72,76,76,45,72,76,72,45,76,72,76,45,76,72,72,45,72,72,76,45,72,72,72,76,76,45,76,76,76,45,72,76,72,45,76,76,72,45,72,72,76,45,76,72,76,45,72,72,72,45,76,72,72,45,72,76,76,76,76,76,76,76,72,76,72,76,76,76,72,76,72,72,76,76,76,76,76,72,76,72,76,72,76,72,76,76,72,72,72,76,76,76,76,72,72,76,72,72,76,72,72,76,72,76,72,72,72,72,76,72,72,72,72,72,76,72,72,72,72,46,46,46,46,46,46,46,46,46,46,46,46,46,46,46,46,45,68,45,68,68,45,68,45,45,68,76,45,45,76,68,45,45,68,68,45,45,45,76,68,45,45,68,76,45,45,68,68,76,68,45,45,68,76,45,45,68,68,45,45,76,45,45,68,68,45,45,76,68,45,45,68,76,68,76,45,68,76,68,45,68,68,68,45,76,45,76,68,68,45,68,76,68,45,68,68,45,68,76,68,45,76,68,76,45,68,68,68,76,68,45,68,68,76,45,76,68,68,45,68,76,68,76,68,68,76,68,76,68,68,68,68,45,82,82,45,45,45,82,82,82,45,45,82,82,82,45,45,46,46,46,46,46,46,46,46,46,46,46,46,45,45,45,76,76,45,45,45,45,76,45,45,45,45,76,45,45,45,45,72,72,45,45,45,45,72,45,45,45,45,72,45,45,72,45,76,76,45,72,45,45,76,45,72,72,45,76,45]⟩
theorem lettersB_eq (a : Array UInt8) (h : a = lettersB.data) : ByteArray.mk a = lettersB:=by rw [h]
theorem lettersB_size : lettersB.size = 512:=by kernel_rfl
set_option maxRecDepth 100000 in
set_option maxHeartbeats 2000000 in
theorem gof_any (k : Nat) (hk : k < 128) (w : World) : Calls Tryz.prog 168 #[.int .i32 (9472 + k)] w (fun e w'=>∃ (x y z v : Int) (t : Bool),e = .returned (.tuple #[.agg #[.int .i8 x,.int .i8 y,.int .i8 z,.int .i8 v],.bool t])∧Below w.heap.size w w'):=by
 have k1 : decide ((9472 : Int) + k < 9472) = false:=decide_eq_false (by omega)
 have k2 : decide ((9599 : Int) < 9472 + k) = false:=decide_eq_false (by omega)
 obtain ⟨S,hS⟩ : ∃ S,lettersB = S:=⟨_,rfl⟩
 have hSz:=lettersB_size
 have hEq:=lettersB_eq
 rw [hS] at hSz hEq
 go_enter Tryz.func168,Tryz.ntmps168
 rw [hEq]
 case h=>rw [← hS];kernel_rfl
 clear hEq hS
 go_upto_region 5 with (fail)
 have h4 : ((S.extract (4 * k) 512).extract 0 4).size = 4:=by simp;omega
 generalize (S.extract (4 * k) 512).extract 0 4 = four at h4 ⊢
 generalize S.extract (4 * (9472 + k - 9472)) 512 = oth
 clear hSz
 have hA2 : Ar ((w.alloc (.cells #[.int .i8 0,.int .i8 0,.int .i8 0,.int .i8 0] 148)).alloc (.cells #[.int .i8 0,.int .i8 0,.int .i8 0,.int .i8 0] 148)) w.heap.size:=(Ar.made w 0 0 0 0 _).alloc _
 have hA4 : Ar ((w.alloc (.cells #[.int .i8 0,.int .i8 0,.int .i8 0,.int .i8 0] 148)).alloc (.cells #[.int .i8 0,.int .i8 0,.int .i8 0,.int .i8 0] 148)) (w.heap.size + 1):=by
  have:=Ar.made (w.alloc (.cells #[.int .i8 0,.int .i8 0,.int .i8 0,.int .i8 0] 148)) 0 0 0 0 148
  simpa using this
 have hB : Below w.heap.size w ((w.alloc (.cells #[.int .i8 0,.int .i8 0,.int .i8 0,.int .i8 0] 148)).alloc (.cells #[.int .i8 0,.int .i8 0,.int .i8 0,.int .i8 0] 148)):=by (repeat (first | exact Below.refl _ _ | assumption | refine below_drewN ?_ _ | refine Below.drew ?_ | (refine Below.alloc ?_ ?bs _;(case bs=>first | omega | (simp;done) | (simp;omega))) | (refine Below.setCell ?_ ?bs _;(case bs=>first | omega | (simp;done) | (simp;omega)))))
 go_upto_region 5 with (fail)
 generalize (w.alloc (.cells #[.int .i8 0,.int .i8 0,.int .i8 0,.int .i8 0] 148)).alloc (.cells #[.int .i8 0,.int .i8 0,.int .i8 0,.int .i8 0] 148) = W at hA2 hA4 hB ⊢
 have HA2:=zH hA2
 have HA4:=zH hA4
 have HB:=zH hB
 have l2:=hA2.lt
 have l4:=hA4.lt
 obtain ⟨x0,y0⟩:=hA4.cell (j:=0) (by omega)
 obtain ⟨x1,y1⟩:=hA4.cell (j:=1) (by omega)
 obtain ⟨x2,y2⟩:=hA4.cell (j:=2) (by omega)
 obtain ⟨x3,y3⟩:=hA4.cell (j:=3) (by omega)
 obtain ⟨z0,t0⟩:=hA2.cell (j:=0) (by omega)
 obtain ⟨z1,t1⟩:=hA2.cell (j:=1) (by omega)
 obtain ⟨z2,t2⟩:=hA2.cell (j:=2) (by omega)
 obtain ⟨z3,t3⟩:=hA2.cell (j:=3) (by omega)
 have f0:=hA2.froz 0
 have f1:=hA2.froz 1
 have f2:=hA2.froz 2
 have f3:=hA2.froz 3
 clear hA2 hA4 hB
 go_wp2
 ·have hR:=((((HA2.out.set 0 x0).set 1 x1).set 2 x2).set 3 x3)
  refine arms_ret (p:=2) (u:=3) rfl rfl rfl hR fun a b c d=>⟨a,b,c,d,_,rfl,?_⟩
  have h0 : w.heap.size≤w.heap.size:=Nat.le_refl _
  exact (((HB.out.setCell (p:=⟨w.heap.size,0,none⟩) h0 _).setCell (p:=⟨w.heap.size,1,none⟩) h0 _).setCell (p:=⟨w.heap.size,2,none⟩) h0 _).setCell (p:=⟨w.heap.size,3,none⟩) h0 _
 ·rename (_ == _) = false=>h46
  clear h46 x0 y0 x1 y1 x2 y2 x3 y3 z0 t0 z1 t1 z2 t2 z3 t3 f0 f1 f2 f3
  go_loopw [23] (fun i wr=>∃ j : Nat,i = .int .i64 j∧j≤4∧Hid (Ar wr w.heap.size)∧Hid (Ar wr (w.heap.size + 1))∧Hid (Below w.heap.size w wr)) (fun i _=>4 - (intOf i).toNat)
  case atStart=>exact ⟨0,rfl,by omega,HA2,HA4,HB⟩
  case round=>
   obtain ⟨j,rfl,hj,HR2,HR4,HRB⟩:=hrel
   have l2:=HR2.out.lt
   have l4:=HR4.out.lt
   by_cases hlt : j < 4
   ·have hltI : (j : Int) < 4:=by omega
    obtain ⟨x,hx⟩:=HR4.out.cell hlt
    have fx:=HR4.out.froz j
    have hjf : j < four.size:=by omega
    go_wp2_with (go_at_call 166;((with_reducible refine (gkind_any _ _).mono ?_);rintro e1' w4 ⟨v,rfl,hw⟩;obtain rfl:=hw.symm))
    go_roundw
    case rel=>exact ⟨j + 1,by first | rfl | go_num,by omega,zH (HR2.out.other (by omega) _ _),zH (HR4.out.set j v),zH (HRB.out.setCell (p:=⟨w.heap.size + 1,j,none⟩) (Nat.le_succ _) _)⟩
    case measure=>simp [intOf] <;> omega
   ·have hltI : decide ((j : Int) < 4) = false:=decide_eq_false (by omega)
    obtain rfl : j = 4:=by omega
    obtain ⟨x0,y0⟩:=HR4.out.cell (j:=0) (by omega)
    obtain ⟨x1,y1⟩:=HR4.out.cell (j:=1) (by omega)
    obtain ⟨x2,y2⟩:=HR4.out.cell (j:=2) (by omega)
    obtain ⟨x3,y3⟩:=HR4.out.cell (j:=3) (by omega)
    obtain ⟨z0,t0⟩:=HR2.out.cell (j:=0) (by omega)
    obtain ⟨z1,t1⟩:=HR2.out.cell (j:=1) (by omega)
    obtain ⟨z2,t2⟩:=HR2.out.cell (j:=2) (by omega)
    obtain ⟨z3,t3⟩:=HR2.out.cell (j:=3) (by omega)
    have f0:=HR2.out.froz 0
    have f1:=HR2.out.froz 1
    have f2:=HR2.out.froz 2
    have f3:=HR2.out.froz 3
    go_wp2
    have hR:=((((HR2.out.set 0 x0).set 1 x1).set 2 x2).set 3 x3)
    refine arms_ret (p:=2) (u:=3) rfl rfl rfl hR fun a b c d=>⟨a,b,c,d,_,rfl,?_⟩
    have h0 : w.heap.size≤w.heap.size:=Nat.le_refl _
    exact (((HRB.out.setCell (p:=⟨w.heap.size,0,none⟩) h0 _).setCell (p:=⟨w.heap.size,1,none⟩) h0 _).setCell (p:=⟨w.heap.size,2,none⟩) h0 _).setCell (p:=⟨w.heap.size,3,none⟩) h0 _
set_option maxRecDepth 100000 in
set_option maxHeartbeats 2000000 in
theorem gcounted_any (x y z v : Int) (w : World) : Calls Tryz.prog 140 #[.agg #[.int .i8 x,.int .i8 y,.int .i8 z,.int .i8 v]] w (fun e w'=>∃ x y z v : Int,e = .returned (.agg #[.int .i8 x,.int .i8 y,.int .i8 z,.int .i8 v])∧Below w.heap.size w w'):=by
 have hA1 : Ar ((w.alloc (.cells #[.int .i8 x,.int .i8 y,.int .i8 z,.int .i8 v] 148)).alloc (.cells #[.int .i8 0,.int .i8 0,.int .i8 0,.int .i8 0] 148)) w.heap.size:=(Ar.made w x y z v _).alloc _
 have hA2 : Ar ((w.alloc (.cells #[.int .i8 x,.int .i8 y,.int .i8 z,.int .i8 v] 148)).alloc (.cells #[.int .i8 0,.int .i8 0,.int .i8 0,.int .i8 0] 148)) (w.heap.size + 1):=by
  have:=Ar.made (w.alloc (.cells #[.int .i8 x,.int .i8 y,.int .i8 z,.int .i8 v] 148)) 0 0 0 0 148
  simpa using this
 have hB : Below w.heap.size w ((w.alloc (.cells #[.int .i8 x,.int .i8 y,.int .i8 z,.int .i8 v] 148)).alloc (.cells #[.int .i8 0,.int .i8 0,.int .i8 0,.int .i8 0] 148)):=by (repeat (first | exact Below.refl _ _ | assumption | refine below_drewN ?_ _ | refine Below.drew ?_ | (refine Below.alloc ?_ ?bs _;(case bs=>first | omega | (simp;done) | (simp;omega))) | (refine Below.setCell ?_ ?bs _;(case bs=>first | omega | (simp;done) | (simp;omega)))))
 go_enter Tryz.func140,Tryz.ntmps140
 go_wp2
 generalize (w.alloc (.cells #[.int .i8 x,.int .i8 y,.int .i8 z,.int .i8 v] 148)).alloc (.cells #[.int .i8 0,.int .i8 0,.int .i8 0,.int .i8 0] 148) = W at hA1 hA2 hB ⊢
 have HA1:=zH hA1
 have HA2:=zH hA2
 have HB:=zH hB
 clear hA1 hA2 hB
 go_loopw [4] (fun i wr=>∃ j : Nat,i = .int .i64 j∧j≤4∧Hid (Ar wr w.heap.size)∧Hid (Ar wr (w.heap.size + 1))∧Hid (Below w.heap.size w wr)) (fun i _=>4 - (intOf i).toNat)
 case atStart=>exact ⟨0,rfl,by omega,HA1,HA2,HB⟩
 case round=>
  obtain ⟨j,rfl,hj,HR1,HR2,HRB⟩:=hrel
  have l1:=HR1.out.lt
  have l2:=HR2.out.lt
  by_cases hlt : j < 4
  ·have hltI : (j : Int) < 4:=by omega
   obtain ⟨x,hx⟩:=HR1.out.cell hlt
   have fx:=HR1.out.froz j
   go_wp2_with (first | (go_at_call 166;((with_reducible refine (gkind_any _ _).mono ?_);rintro e1' w4 ⟨v,rfl,hw⟩;obtain rfl:=hw.symm)) | (go_at_call 167;((with_reducible refine (gletter_any _ _).mono ?_);rintro e1' w5 ⟨v5,rfl,hw⟩;obtain rfl:=hw.symm)))
   go_roundw
   case rel=>exact ⟨j + 1,by first | rfl | go_num,by omega,zH (HR1.out.set j v),zH (HR2.out.other (by omega) _ _),zH (HRB.out.setCell (p:=⟨w.heap.size,j,none⟩) (Nat.le_refl _) _)⟩
   case measure=>simp [intOf] <;> omega
  ·have hltI : decide ((j : Int) < 4) = false:=decide_eq_false (by omega)
   obtain rfl : j = 4:=by omega
   obtain ⟨x0,y0⟩:=HR1.out.cell (j:=0) (by omega)
   obtain ⟨x1,y1⟩:=HR1.out.cell (j:=1) (by omega)
   obtain ⟨x2,y2⟩:=HR1.out.cell (j:=2) (by omega)
   obtain ⟨x3,y3⟩:=HR1.out.cell (j:=3) (by omega)
   obtain ⟨z0,t0⟩:=HR2.out.cell (j:=0) (by omega)
   obtain ⟨z1,t1⟩:=HR2.out.cell (j:=1) (by omega)
   obtain ⟨z2,t2⟩:=HR2.out.cell (j:=2) (by omega)
   obtain ⟨z3,t3⟩:=HR2.out.cell (j:=3) (by omega)
   have f0:=HR2.out.froz 0
   have f1:=HR2.out.froz 1
   have f2:=HR2.out.froz 2
   have f3:=HR2.out.froz 3
   go_wp2
   have hR:=((((HR2.out.set 0 x0).set 1 x1).set 2 x2).set 3 x3)
   refine arms_ret1 (p:=2) rfl rfl rfl hR fun a b c d=>⟨a,b,c,d,rfl,?_⟩
   have h0 : w.heap.size≤w.heap.size + 1:=Nat.le_succ _
   exact (((HRB.out.setCell (p:=⟨w.heap.size + 1,0,none⟩) h0 _).setCell (p:=⟨w.heap.size + 1,1,none⟩) h0 _).setCell (p:=⟨w.heap.size + 1,2,none⟩) h0 _).setCell (p:=⟨w.heap.size + 1,3,none⟩) h0 _
end Go.Proofs.YthhomflonpjbmaaGreatDoor
