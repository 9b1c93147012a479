/-
 The walk of the law MeasureBounds.
-/
import Derived.Test.YthhomflonpjbmaaGreatDoorMb34
import Derived.Test.YthhomflonpjbmaaGreatDoorMb44
set_option linter.unusedVariables false
set_option linter.unusedSimpArgs false
namespace Go.Proofs.YthhomflonpjbmaaGreatDoor
open Go.RowKit Go.Maps
set_option maxRecDepth 100000 in
set_option maxHeartbeats 8000000 in
theorem bounds_any (w : World) (p : Option Addr) (c : Nat) (ns : List ND) (v : Value) (asks : List (Int × Int)) (hT : TreeAt w p ns) (hl : ns.length≤4398046511104) (h8 : ∀ x ∈ ns,X8 x) (hz : ∀ x ∈ ns,NSz x) (hv : SlP2 w v asks) :
  Calls Tryz.prog 3 #[.agg #[.slice p ns.length c],v] w (VBel (.bool true) w):=by
 obtain ⟨pa,ca,rfl,hal,hxa⟩:=hv
 have hid : ∀ x ∈ ns,x.id.size≤maxLen:=fun x hx=>Nat.le_trans (hz x hx).id (by decide)
 have HBY:=zH (fun W (hb : Below w.heap.size w W)=>beyond_any W p c ns (hT.below hb) hl hz)
 have HNW:=zH (fun W (hb : Below w.heap.size w W)=>new_gen W p c ns (hT.below hb) hl hid h8)
 have HXA:=zH hxa
 obtain ⟨N,hN⟩ : ∃ N,ns.length = N:=⟨_,rfl⟩
 obtain ⟨an,han⟩ : ∃ an,asks.length = an:=⟨_,rfl⟩
 have HAN:=zH han
 rw [hN] at HBY HNW ⊢
 rw [han] at hal ⊢
 have hb1 : Below w.heap.size w (w.alloc (.cells #[.slice p N c] 24)):=Below.alloc (Below.refl _ _) (Nat.le_refl _) _
 have hc1 : (w.alloc (.cells #[.slice p N c] 24)).cell? ⟨w.heap.size,0,none⟩ = some (.slice p N c):=(show Arr (w.alloc (.cells #[.slice p N c] 24)) w.heap.size [.slice p N c] 24 from heap_alloc_new w _).cell (j:=0) rfl
 have hz1 : w.heap.size < (w.alloc (.cells #[.slice p N c] 24)).heap.size:=by simp
 have HB1:=zH hb1
 have HC1:=zH hc1
 have HZ1:=zH hz1
 clear hT hl h8 hz hid hxa hN han hb1 hc1 hz1
 go_enter Tryz.func3,Tryz.ntmps3
 go_upto_region 1 with (fail)
 generalize w.alloc (.cells #[.slice p N c] 24) = w1 at HB1 HC1 HZ1 ⊢
 have c1:=HC1.out
 have l1:=HZ1.out
 go_upto_if 17 with (go_at_call 7;((with_reducible refine (HBY.out _ HB1.out).mono ?_);rintro e1' w2 ⟨b,rfl,hb2⟩;have HB2 : Hid (Below w1.heap.size w1 w2):=zH hb2;have c2:=(HB2.out.cell (p:=⟨w.heap.size,0,none⟩) HZ1.out).trans HC1.out;have l2 : w.heap.size < w2.heap.size:=Nat.lt_of_lt_of_le HZ1.out HB2.out.size;have HW2:=zH (HB1.out.trans (HB2.out.mono HB1.out.size));clear hb2))
 cases b
 ·by_cases h0 : (checkS ns).1 = 0
  ·have HG : Hid (∀ W e W',NewG ns W e W'→∃ pm g bk bm cc,e = .returned (.tuple #[.pointer (some ⟨pm,0,none⟩),.int .i64 0])∧Below W.heap.size W W'∧W.heap.size≤bm∧MG ⟨pm,g,bk,bm,cc,ns,measF tabF ns⟩ W'):=zH fun W e W' h=>h.ok h0
   have HOK : Hid (∀ q : MP,q.ns = ns→q.f = measF tabF ns→Law tabF q):=zH fun q e1 e2=>by
    have ht : TreeOk q.ns:=by rw [e1];exact tree_ok h0
    exact ⟨ht,by rw [e1];exact e2,tab_all q ht⟩
   clear h0
   go_upto_region 9 with (first | (go_at_call 8;((with_reducible refine (HNW.out _ HW2.out).mono ?_);rintro e1' w3 h3;obtain ⟨pm,g,bk,bm,cc,rfl,hb3,hm3,hM3⟩:=HG.out _ _ _ h3;have HB3:=zH hb3;have HM3:=zH hM3;have HQ3:=zH hm3;have c3:=(HB3.out.cell (p:=⟨w.heap.size,0,none⟩) l2).trans c2;have l3 : w.heap.size < w3.heap.size:=Nat.lt_of_lt_of_le l2 HB3.out.size;have HW3:=zH (HW2.out.trans (HB3.out.mono HW2.out.size));clear h3 hb3 hM3)) | (go_at_call 8;((with_reducible refine (HNW.out _ HW3.out).mono ?_);rintro e1' w4 h4;obtain ⟨pm2,g2,bk2,bm2,cc2,rfl,hb4,hm4,hM4⟩:=HG.out _ _ _ h4;have HB4:=zH hb4;have HM4:=zH hM4;have HQ4:=zH hm4;clear h4 hb4 hM4)) | (go_at_call 9;((with_reducible refine (alive_new _).mono ?_);rintro e1' w5 ⟨rfl,hb5⟩;have HB5:=zH hb5;clear hb5)))
   obtain ⟨P,hP⟩ : ∃ P : MP,(⟨pm,g,bk,bm,cc,ns,measF tabF ns⟩ : MP) = P:=⟨_,rfl⟩
   obtain ⟨Q,hQ⟩ : ∃ Q : MP,(⟨pm2,g2,bk2,bm2,cc2,ns,measF tabF ns⟩ : MP) = Q:=⟨_,rfl⟩
   have LP:=HOK.out P (by rw [← hP]) (by rw [← hP])
   have LQ:=HOK.out Q (by rw [← hQ]) (by rw [← hQ])
   have hbm3 : bm < w3.heap.size:=HM3.out.lm
   have h2z : w1.heap.size≤w2.heap.size:=HB2.out.size
   have HTW : Hid (Two w1 P Q w5):=zH (by
    have t:=HM3.out
    have t2:=HM4.out
    rw [hP] at t
    rw [hQ] at t2
    have b1 : bm = P.bm:=by rw [← hP]
    have b2 : bm2 = Q.bm:=by rw [← hQ]
    have z3:=HB3.out.size
    have q3:=HQ3.out
    have q4:=HQ4.out
    exact ⟨(t.below HB4.out).below HB5.out,t2.below HB5.out,((HB2.out.trans (HB3.out.mono h2z)).trans (HB4.out.mono (by omega))).trans (HB5.out.mono (by have:=HB4.out.size;omega)),by omega,by omega,by omega⟩)
   have hpm : pm = P.pm:=by rw [← hP]
   have hpm2 : pm2 = Q.pm:=by rw [← hQ]
   have HAQ : Hid (∀ n y z,ansS P n y z = ansS Q n y z):=zH fun n y z=>by rw [← hP,← hQ];rfl
   have HPT:=zH (fun n z hz W hW=>ask_tall LP n z hz W hW)
   have HPL:=zH (fun n W hW=>ask_least LP n W hW)
   have HPM:=zH (fun n W hW=>ask_most LP n W hW)
   have HQT:=zH (fun n z hz W hW=>ask_tall LQ n z hz W hW)
   have HQL:=zH (fun n W hW=>ask_least LQ n W hW)
   have HQM:=zH (fun n W hW=>ask_most LQ n W hW)
   have HQR:=zH (fun n y z=>ansS_range LQ n y z)
   rw [← hpm] at HPT HPL HPM
   rw [← hpm2] at HQT HQL HQM
   clear LP LQ HM3 HM4 hP hQ HOK HNW HBY HG hbm3 h2z HB3 HB4 HB5 HQ3 HQ4 c1 c2 c3 l1 l2 l3 hm3 hm4 hpm hpm2 HB2 HW2 HW3
   go_wp2
   go_loopw [9] (fun i wr=>∃ z : Int,i = .int .i64 z∧-1≤z∧z < an∧Hid (Two w1 P Q wr)) (fun i _=>(intOf i + 1).toNat)
   case atStart=>exact ⟨_,rfl,by omega,by omega,HTW⟩
   case round=>
    obtain ⟨z,rfl,hz1,hz2,HS0⟩:=hrel
    have hbw:=HB1.out.trans (HS0.out.b.mono HB1.out.size)
    by_cases hz0 : 0≤z
    ·obtain ⟨m,rfl⟩ : ∃ m : Nat,z = m:=⟨z.toNat,by omega⟩
     obtain ⟨⟨n,y⟩,hny⟩ : ∃ x,asks[m]? = some x:=⟨_,List.getElem?_eq_getElem (by rw [HAN.out];omega)⟩
     obtain ⟨ga,oa,rfl,hga,hca,hcb,hn64,hy64⟩:=HXA.out m _ hny
     have ca1:=(hbw.cell (p:=⟨ga,oa + m * 2,none⟩) hga).trans hca
     have cb1:=(hbw.cell (p:=⟨ga,oa + m * 2 + 1,none⟩) hga).trans hcb
     have lga : ga < wr.heap.size:=Nat.lt_of_lt_of_le hga hbw.size
     dsimp only at ca1 cb1 hn64 hy64
     have HT:=zH (HQT.out n y hy64)
     have HL:=zH (HQL.out n)
     have HM:=zH (HQM.out n)
     have rA:=HQR.out n 2 (sideS y)
     have rB:=HQR.out n 0 0
     have rC:=HQR.out n 1 0
     generalize ansS Q n 2 (sideS y) = A at HT rA
     generalize ansS Q n 0 0 = B at HL rB
     generalize ansS Q n 1 0 = C at HM rC
     have a1 : decide (A < 0) = false:=decide_eq_false (by omega)
     have a2 : decide (4096 < A) = false:=decide_eq_false (by omega)
     have b1 : decide (B < 0) = false:=decide_eq_false (by omega)
     have b2 : decide (4096 < B) = false:=decide_eq_false (by omega)
     have d1 : decide (C < 0) = false:=decide_eq_false (by omega)
     have d2 : decide (4096 < C) = false:=decide_eq_false (by omega)
     clear hny hca hcb hbw
     go_wp2_with (first | (go_at_call 10;((with_reducible refine (HT.out _ HS0.out.mq).mono ?_);rintro e1' w6 hp6;have HS1:=zH (HS0.out.callq hp6);obtain ⟨rfl,_,_⟩:=hp6)) | (go_at_call 11;((with_reducible refine (HL.out _ HS1.out.mq).mono ?_);rintro e1' w7 hp7;have HS2:=zH (HS1.out.callq hp7);obtain ⟨rfl,_,_⟩:=hp7)) | (go_at_call 11;((with_reducible refine (HL.out _ HS2.out.mq).mono ?_);rintro e1' w8 hp8;have HS3:=zH (HS2.out.callq hp8);obtain ⟨rfl,_,_⟩:=hp8)) | (go_at_call 12;((with_reducible refine (HM.out _ HS3.out.mq).mono ?_);rintro e1' w9 hp9;have HS4:=zH (HS3.out.callq hp9);obtain ⟨rfl,_,_⟩:=hp9)) | (go_at_call 12;((with_reducible refine (HM.out _ HS4.out.mq).mono ?_);rintro e1' w10 hp10;have HS5:=zH (HS4.out.callq hp10);obtain ⟨rfl,_,_⟩:=hp10)))
     go_roundw
     case rel=>exact ⟨(m : Int) - 1,by first | rfl | go_num,by omega,by omega,HS5⟩
     case measure=>simp [intOf] <;> omega
    ·have hz0b : decide (0≤z) = false:=decide_eq_false hz0
     clear hbw
     go_wp2
     go_loopw [13] (fun i wr=>∃ k : Nat,i = .int .i64 k∧k≤an∧Hid (Two w1 P Q wr)) (fun i _=>an - (intOf i).toNat)
     case atStart=>exact ⟨0,rfl,by omega,HS0⟩
     case round=>
      obtain ⟨m,rfl,hm,HU0⟩:=hrel
      have hbw:=HB1.out.trans (HU0.out.b.mono HB1.out.size)
      by_cases hlt : m < an
      ·have hltI : (m : Int) < (an : Int):=by omega
       obtain ⟨⟨n,y⟩,hny⟩ : ∃ x,asks[m]? = some x:=⟨_,List.getElem?_eq_getElem (by rw [HAN.out];omega)⟩
       obtain ⟨ga,oa,rfl,hga,hca,hcb,hn64,hy64⟩:=HXA.out m _ hny
       have ca1:=(hbw.cell (p:=⟨ga,oa + m * 2,none⟩) hga).trans hca
       have cb1:=(hbw.cell (p:=⟨ga,oa + m * 2 + 1,none⟩) hga).trans hcb
       have lga : ga < wr.heap.size:=Nat.lt_of_lt_of_le hga hbw.size
       dsimp only at ca1 cb1 hn64 hy64
       have HT:=zH (HQT.out n y hy64)
       have HL:=zH (HQL.out n)
       have HM:=zH (HQM.out n)
       have HPT2:=zH (HPT.out n y hy64)
       have HPL2:=zH (HPL.out n)
       have HPM2:=zH (HPM.out n)
       rw [HAQ.out] at HPT2 HPL2 HPM2
       generalize ansS Q n 2 (sideS y) = A at HT HPT2
       generalize ansS Q n 0 0 = B at HL HPL2
       generalize ansS Q n 1 0 = C at HM HPM2
       clear hny hca hcb hbw
       go_wp2_with (first | (go_at_call 10;((with_reducible refine (HPT2.out _ HU0.out.mp).mono ?_);rintro e1' w6 hp6;have HU1:=zH (HU0.out.callp hp6);obtain ⟨rfl,_,_⟩:=hp6)) | (go_at_call 10;((with_reducible refine (HT.out _ HU1.out.mq).mono ?_);rintro e1' w7 hp7;have HU2:=zH (HU1.out.callq hp7);obtain ⟨rfl,_,_⟩:=hp7)) | (go_at_call 11;((with_reducible refine (HPL2.out _ HU2.out.mp).mono ?_);rintro e1' w8 hp8;have HU3:=zH (HU2.out.callp hp8);obtain ⟨rfl,_,_⟩:=hp8)) | (go_at_call 11;((with_reducible refine (HL.out _ HU3.out.mq).mono ?_);rintro e1' w9 hp9;have HU4:=zH (HU3.out.callq hp9);obtain ⟨rfl,_,_⟩:=hp9)) | (go_at_call 12;((with_reducible refine (HPM2.out _ HU4.out.mp).mono ?_);rintro e1' w10 hp10;have HU5:=zH (HU4.out.callp hp10);obtain ⟨rfl,_,_⟩:=hp10)) | (go_at_call 12;((with_reducible refine (HM.out _ HU5.out.mq).mono ?_);rintro e1' w11 hp11;have HU6:=zH (HU5.out.callq hp11);obtain ⟨rfl,_,_⟩:=hp11)))
       go_roundw
       case rel=>exact ⟨m + 1,by first | rfl | go_num,by omega,HU6⟩
       case measure=>simp [intOf] <;> omega
      ·have hltI : decide ((m : Int) < (an : Int)) = false:=decide_eq_false (by omega)
       have HBW:=zH hbw
       clear hbw
       go_wp2
       go_ret
       exact ⟨rfl,HBW.out⟩
  ·have HG : Hid (∀ W e W',NewG ns W e W'→e = .returned (.tuple #[.pointer none,.int .i64 (checkS ns).1])∧Below W.heap.size W W'):=zH fun W e W' h=>by
    rcases h with ⟨h1,_⟩ | ⟨_,h1,h2⟩
    ·exact absurd h1 h0
    ·exact ⟨h1,h2⟩
   have h0b : ((checkS ns).1 == 0) = false:=by simpa using h0
   have h0c : ((checkS ns).1 != 0) = true:=by simp [h0]
   generalize (checkS ns).1 = code at HG h0b h0c
   clear h0
   go_wp2_with (first | (go_at_call 8;((with_reducible refine (HNW.out _ HW2.out).mono ?_);rintro e1' w3 h3;obtain ⟨rfl,hb3⟩:=HG.out _ _ _ h3;have c3:=(hb3.cell (p:=⟨w.heap.size,0,none⟩) l2).trans c2;have l3 : w.heap.size < w3.heap.size:=Nat.lt_of_lt_of_le l2 hb3.size;have HW3:=zH (HW2.out.trans (hb3.mono HW2.out.size));clear h3 hb3)) | (go_at_call 8;((with_reducible refine (HNW.out _ HW3.out).mono ?_);rintro e1' w4 h4;obtain ⟨rfl,hb4⟩:=HG.out _ _ _ h4;have HW4:=zH (HW3.out.trans (hb4.mono HW3.out.size));clear h4 hb4)) | (go_at_call 9;((with_reducible refine (alive_new _).mono ?_);rintro e1' w5 ⟨rfl,hb5⟩;have HW5:=zH (HW4.out.trans (hb5.mono HW4.out.size));clear hb5)))
   go_ret
   exact ⟨rfl,HW5.out⟩
 ·go_wp2
  go_ret
  exact ⟨rfl,HW2.out⟩
end Go.Proofs.YthhomflonpjbmaaGreatDoor
