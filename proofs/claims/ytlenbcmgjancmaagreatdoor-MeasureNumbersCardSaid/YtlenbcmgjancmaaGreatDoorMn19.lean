import Derived.Test.YtlenbcmgjancmaaGreatDoorMn18
set_option linter.unusedVariables false
set_option linter.unusedSimpArgs false
namespace Go.Proofs.YtlenbcmgjancmaaGreatDoor
open Go.RowKit
set_option maxRecDepth 100000 in
set_option maxHeartbeats 4000000 in
theorem rot_any {W0 W:World} {d bx br cr:Nat} {r l:List Int} (h:Srt W0 d bx br cr r l W) {N:Nat} (hN:l.length=N) {A M B:Int} (a m b c:Nat) (eA:A=a) (eM:M=m) (eB:B=b) (ha:a<m) (hm:m<b) (hb:b≤N) :
  Calls Tryz.prog 196 #[.slice (some ⟨d,0,none⟩) N c,.int .i64 A,.int .i64 M,.int .i64 B,cmpV bx] W (fun e W'=>e=.returned (.tuple #[])∧Srt W0 d bx br cr r (rotS a m b l) W'):=by
 subst eA eM eB
 have H:=zH h
 have hrn:N≤1048576:=by have:=h.rn;have:=h.ln;omega
 clear h
 have HN:=zH hN
 clear hN
 go_enter Tryz.func196,Tryz.ntmps196
 go_wp2
 go_loopw [10,11] (fun i j wr=>∃ (x y f:Nat) (k:List Int),i=.int .i64 x∧j=.int .i64 y∧1≤x∧1≤y∧x≤m∧m+y≤N∧x+y≤f∧k.length=N∧Srt W0 d bx br cr r k wr∧rotF m f x y k=rotS a m b l) (fun i j _=>(intOf i).toNat+(intOf j).toNat)
 case atStart=>exact⟨m - a,b - m,b - a+1,l,by first|rfl|go_num,by first|rfl|go_num,by omega,by omega,by omega,by omega,by omega,HN.out,H.out,rfl⟩
 case round=>
  obtain⟨x,y,f,k,rfl,rfl,hx1,hy1,hxm,hyN,hf,hk,hS,hR⟩:=hrel
  obtain⟨f,rfl⟩:∃ f',f=f'+1:=⟨f - 1,by omega⟩
  have HS:=zH hS
  have HK:=zH hk
  clear hS hk
  simp only [rotF] at hR
  by_cases he:x=y
  ·subst he
   rw [if_pos rfl] at hR
   have HR:=zH hR
   clear hR
   go_wp2_with (go_at_call 197;(with_reducible refine(swr_any HS.out HK.out (m - x) m x c (by omega) (by omega) (by omega) (by omega) (by omega)).mono ?_);rintro e1' w1 ⟨rfl,hS1⟩)
   go_end0
   exact⟨rfl,hS1.to HR.out⟩
  ·rw [if_neg he] at hR
   by_cases hlt:y<x
   ·rw [if_pos hlt] at hR
    have HR:=zH hR
    clear hR
    go_wp2_with (go_at_call 197;(with_reducible refine(swr_any HS.out HK.out (m - x) m y c (by omega) (by omega) (by omega) (by omega) (by omega)).mono ?_);rintro e1' w1 ⟨rfl,hS1⟩;have HS1:=zH hS1;clear hS1)
    go_roundw
    case rel=>exact⟨x - y,y,f,_,by first|rfl|go_num,rfl,by omega,by omega,by omega,by omega,by omega,by rw [HS1.out.ln,← HS.out.ln,HK.out],HS1.out,HR.out⟩
    case measure=>simp [intOf]<;>omega
   ·rw [if_neg hlt] at hR
    have HR:=zH hR
    clear hR
    go_wp2_with (go_at_call 197;(with_reducible refine(swr_any HS.out HK.out (m - x) (m+y - x) x c (by omega) (by omega) (by omega) (by omega) (by omega)).mono ?_);rintro e1' w1 ⟨rfl,hS1⟩;have HS1:=zH hS1;clear hS1)
    go_roundw
    case rel=>exact⟨x,y - x,f,_,rfl,by first|rfl|go_num,by omega,by omega,by omega,by omega,by omega,by rw [HS1.out.ln,← HS.out.ln,HK.out],HS1.out,HR.out⟩
    case measure=>simp [intOf]<;>omega
set_option maxRecDepth 100000 in
set_option maxHeartbeats 4000000 in
theorem ins_any {W0 W:World} {d bx br cr:Nat} {r l:List Int} (h:Srt W0 d bx br cr r l W) {N:Nat} (hN:l.length=N) {A B:Int} (a b c:Nat) (eA:A=a) (eB:B=b) (ha:a≤b) (hb:b≤N) :
  Calls Tryz.prog 191 #[.slice (some ⟨d,0,none⟩) N c,.int .i64 A,.int .i64 B,cmpV bx] W (fun e W'=>e=.returned (.tuple #[])∧Srt W0 d bx br cr r (insS (ltR r) a b l) W'):=by
 subst eA eB
 have H:=zH h
 have hrn:N≤1048576:=by have:=h.rn;have:=h.ln;omega
 clear h
 have HN:=zH hN
 clear hN
 go_enter Tryz.func191,Tryz.ntmps191
 go_wp2
 go_loopw [8] (fun i wr=>∃ (x:Nat) (k:List Int),i=.int .i64 x∧1≤x∧a<x∧x≤b+1∧k.length=N∧Srt W0 d bx br cr r k wr∧insF (ltR r) a (b - x) x k=insS (ltR r) a b l) (fun i _=>b+1 - (intOf i).toNat)
 case atStart=>exact⟨a+1,l,by first|rfl|go_num,by omega,by omega,by omega,HN.out,H.out,rfl⟩
 case round=>
  obtain⟨x,k,rfl,hx1,hax,hxb,hk,hS,hR⟩:=hrel
  have HS:=zH hS
  have HK:=zH hk
  have HR:=zH hR
  clear hS hk hR
  by_cases hlt:x<b
  ·have hltI:(x:Int)<(b:Int):=by omega
   have HR1:Hid (insF (ltR r) a (b - (x+1)) (x+1) (sink (ltR r) a x k)=insS (ltR r) a b l):=zH (by rw [← HR.out,show b - x=(b - (x+1))+1 by omega];rfl)
   go_wp2
   go_loopw [9] (fun j wr=>∃ (y:Nat) (m:List Int),j=.int .i64 y∧a≤y∧y≤x∧m.length=N∧Srt W0 d bx br cr r m wr∧sink (ltR r) a y m=sink (ltR r) a x k) (fun j _=>(intOf j).toNat)
   case atStart=>exact⟨x,k,rfl,by omega,by omega,HK.out,HS.out,rfl⟩
   case round=>
    obtain⟨y,m,rfl,hay,hyx,hm,hT,hQ⟩:=hrel
    have HT:=zH hT
    have HM:=zH hm
    have HQ:=zH hQ
    clear hT hm hQ
    by_cases hlt2:a<y
    ·have hltJ:(a:Int)<(y:Int):=by omega
     obtain⟨q,rfl⟩:∃ q,y=q+1:=⟨y - 1,by omega⟩
     have hltK:(a:Int)<(q:Int)+1:=by omega
     have hI1:((q+1:Nat):Int)<(N:Int):=by omega
     have hI3:(q:Int)+1<(N:Int):=by omega
     have hI4:(q:Int)<(N:Int):=by omega
     have hI2:((q+1:Nat):Int) - 1<(N:Int):=by omega
     have c1:=HT.out.at (i:=q+1) (by have:=HM.out;omega)
     have c2:=HT.out.at (i:=q) (by have:=HM.out;omega)
     have HC:=zH fun n=>(cmp_any (HT.out.drewN n) (gd m (q+1)) (gd m q) (HT.out.ok _ (gd_mem (by have:=HM.out;omega))) (HT.out.ok _ (gd_mem (by have:=HM.out;omega))))
     have hq:sink (ltR r) a (q+1) m=if a<q+1∧decide (gd r (gd m q).toNat - gd r (gd m (q+1)).toNat<0)=true then sink (ltR r) a q (swp m (q+1) q) else m:=rfl
     rw [HQ.out] at hq
     generalize gd r (gd m q).toNat - gd r (gd m (q+1)).toNat=D at *
     by_cases hD:D<0
     ·rw [if_pos ⟨hlt2,by simpa using hD⟩] at hq
      have HQ1:=zH hq
      clear hq
      go_wp2
      go_quiet ((go_at_call 175;with_reducible exact Calls.quiet_of (HC.out _)))
      have f1:=HT.out.dat.froz (q+1)
      have f2:=HT.out.dat.froz q
      obtain⟨y1,c5,f5⟩:=HT.out.mid (i:=q+1) (j:=q) (by have:=HM.out;omega) (gd m q)
      have HW:=zH (HT.out.swap (i:=q+1) (j:=q) (by have:=HM.out;omega) (by have:=HM.out;omega))
      clear HC
      generalize gd m (q+1)=u at *
      generalize gd m q=v at *
      go_wp2
      go_region
      go_wp2
      go_roundw
      case rel=>exact⟨q,swp m (q+1) q,by first|rfl|go_num,by omega,by omega,by rw [swp_len];exact HM.out,by first|exact HW.out.drewN _|exact HW.out.drew|exact(HW.out.drewN _).drew,HQ1.out.symm⟩
      case measure=>simp [intOf]<;>omega
     ·rw [if_neg fun h=>hD (by simpa using h.2)] at hq
      have HQ1:=zH hq
      clear hq
      go_wp2
      go_quiet ((go_at_call 175;with_reducible exact Calls.quiet_of (HC.out _)))
      have HT1:=zH (HT.out.drewN nq)
      go_wp2
      go_roundw
      case rel=>exact⟨x+1,m,by first|rfl|go_num,by omega,by omega,by omega,HM.out,HT1.out,by rw [← HR1.out,HQ1.out]⟩
      case measure=>simp [intOf]<;>omega
    ·have hltJ:¬ (a:Int)<(y:Int):=by omega
     obtain rfl:y=a:=by omega
     have HQ1:Hid (m=sink (ltR r) y x k):=zH (by rw [← HQ.out];cases y<;>simp [sink])
     go_wp2
     go_quiet (fail)
     go_wp2
     go_roundw
     case rel=>exact⟨x+1,m,by first|rfl|go_num,by omega,by omega,by omega,HM.out,by first|exact HT.out|exact HT.out.drewN _,by rw [← HR1.out,HQ1.out]⟩
     case measure=>simp [intOf]<;>omega
  ·have hlt':¬ (x:Int)<(b:Int):=by omega
   have HE:Hid (k=insS (ltR r) a b l):=zH (by rw [← HR.out,show b - x=0 by omega];rfl)
   go_wp2
   go_end0
   exact⟨rfl,HS.out.to HE.out⟩
end Go.Proofs.YtlenbcmgjancmaaGreatDoor
namespace Go.Proofs.YtlenbcmgjancmaaGreatDoor
open Go.RowKit
theorem bs_yes {p:Nat→Bool} {f i j q:Nat} (h:i<j) (hq:q=(i+j) / 2) (hp:p q=true):bs p (f+1) i j=bs p f (q+1) j:=by
 subst hq
 simp only [bs,if_pos h,hp,if_true]
theorem bs_no {p:Nat→Bool} {f i j q:Nat} (h:i<j) (hq:q=(i+j) / 2) (hp:p q=false):bs p (f+1) i j=bs p f i q:=by
 subst hq
 simp only [bs,if_pos h,hp,Bool.false_eq_true,if_false]
set_option maxRecDepth 100000 in
set_option maxHeartbeats 4000000 in
theorem sym_one {W0 W:World} {d bx br cr:Nat} {r l:List Int} (h:Srt W0 d bx br cr r l W) {N:Nat} (hN:l.length=N) {A M B:Int} (a m b c:Nat) (eA:A=a) (eM:M=m) (eB:B=b) (ha:m=a+1) (hm:m<b) (hb:b≤N) :
  Calls Tryz.prog 192 #[.slice (some ⟨d,0,none⟩) N c,.int .i64 A,.int .i64 M,.int .i64 B,cmpV bx] W (fun e W'=>e=.returned (.tuple #[])∧Srt W0 d bx br cr r (upF (bs (fun h=>ltR r (gd l h) (gd l a)) (b - m) m b - 1 - a) a l) W'):=by
 subst eA eM eB
 have H:=zH h
 have hrn:N≤1048576:=by have:=h.rn;have:=h.ln;omega
 clear h
 have HN:=zH hN
 clear hN
 obtain⟨I,hI⟩:∃ I,bs (fun h=>ltR r (gd l h) (gd l a)) (b - m) m b=I:=⟨_,rfl⟩
 have HI:=zH hI
 rw [hI]
 clear hI
 have e1:(m:Int) - (a:Int)=1:=by omega
 go_enter Tryz.func192,Tryz.ntmps192
 go_wp2
 go_loopw [10,11] (fun i j wr=>∃ x y f:Nat,i=.int .i64 x∧j=.int .i64 y∧m≤x∧x≤y∧y≤b∧y - x≤f∧Srt W0 d bx br cr r l wr∧bs (fun h=>ltR r (gd l h) (gd l a)) f x y=I) (fun i j _=>(intOf j).toNat - (intOf i).toNat)
 case atStart=>exact⟨m,b,b - m,rfl,rfl,by omega,by omega,by omega,by omega,H.out,HI.out⟩
 case round=>
  obtain⟨x,y,f,rfl,rfl,hmx,hxy,hyb,hf,hS,hQ⟩:=hrel
  have HT:=zH hS
  clear hS
  by_cases hlt:x<y
  ·have hltI:(x:Int)<(y:Int):=by omega
   obtain⟨f,rfl⟩:∃ f',f=f'+1:=⟨f - 1,by omega⟩
   obtain⟨q,hq⟩:∃ q,q=(x+y) / 2:=⟨_,rfl⟩
   have e2:((x:Int)+(y:Int)) / 2=(q:Int):=by omega
   have hI1:(q:Int)<(N:Int):=by omega
   have hI2:(a:Int)<(N:Int):=by omega
   have c1:=HT.out.at (i:=q) (by have:=HN.out;omega)
   have c2:=HT.out.at (i:=a) (by have:=HN.out;omega)
   have HC:=zH fun n=>(cmp_any (HT.out.drewN n) (gd l q) (gd l a) (HT.out.ok _ (gd_mem (by have:=HN.out;omega))) (HT.out.ok _ (gd_mem (by have:=HN.out;omega))))
   have hY:gd r (gd l a).toNat - gd r (gd l q).toNat<0→bs (fun h=>ltR r (gd l h) (gd l a)) f (q+1) y=I:=fun hD=>by rw [← hQ];exact(bs_yes hlt hq (by simpa using hD)).symm
   have hZ:¬ gd r (gd l a).toNat - gd r (gd l q).toNat<0→bs (fun h=>ltR r (gd l h) (gd l a)) f x q=I:=fun hD=>by rw [← hQ];exact(bs_no hlt hq (by simpa using hD)).symm
   clear hQ
   generalize gd r (gd l a).toNat - gd r (gd l q).toNat=D at *
   by_cases hD:D<0
   ·have HQ:=zH (hY hD)
    clear hY hZ
    have hqx:x≤q∧q<y:=by omega
    clear hq
    go_wp2
    go_quiet ((go_at_call 175;with_reducible exact Calls.quiet_of (HC.out _)))
    go_wp2
    go_roundw
    case rel=>exact⟨q+1,y,f,by first|rfl|go_num,rfl,by omega,by omega,by omega,by omega,HT.out.drewN _,HQ.out⟩
    case measure=>simp [intOf]<;>omega
   ·have hDd:decide (D<0)=false:=decide_eq_false hD
    have HQ:=zH (hZ hD)
    clear hD
    clear hY hZ
    have hqx:x≤q∧q<y:=by omega
    clear hq
    go_wp2
    go_quiet ((go_at_call 175;with_reducible exact Calls.quiet_of (HC.out _)))
    go_wp2
    go_roundw
    case rel=>exact⟨x,q,f,rfl,by first|rfl|go_num,by omega,by omega,by omega,by omega,HT.out.drewN _,HQ.out⟩
    case measure=>simp [intOf]<;>omega
  ·obtain rfl:y=x:=by omega
   have hIx:y=I:=by
    rw [← hQ]
    cases f<;>simp [bs]
   subst hIx
   clear hQ HI
   go_wp2
   go_loopw [13] (fun k wr=>∃ (x:Nat) (l1:List Int),k=.int .i64 x∧a≤x∧x+1≤y∧l1.length=N∧Srt W0 d bx br cr r l1 wr∧upF (y - 1 - x) x l1=upF (y - 1 - a) a l) (fun k _=>y - (intOf k).toNat)
   case atStart=>exact⟨a,l,rfl,by omega,by omega,HN.out,HT.out,rfl⟩
   case round=>
    obtain⟨x,l1,rfl,hax,hxy2,hl1,hS,hQ⟩:=hrel
    have HT1:=zH hS
    have HL:=zH hl1
    have HQ:=zH hQ
    clear hS hl1 hQ HT
    by_cases hlt3:x<y - 1
    ·have hltI:(x:Int)<(y:Int) - 1:=by omega
     have hI1:(x:Int)<(N:Int):=by omega
     have hI2:(x:Int)+1<(N:Int):=by omega
     have c1:=HT1.out.at (i:=x) (by have:=HL.out;omega)
     have c2:=HT1.out.at (i:=x+1) (by have:=HL.out;omega)
     have f1:=HT1.out.dat.froz x
     have f2:=HT1.out.dat.froz (x+1)
     obtain⟨y1,c5,f5⟩:=HT1.out.mid (i:=x) (j:=x+1) (by have:=HL.out;omega) (gd l1 (x+1))
     have HW:=zH (HT1.out.swap (i:=x) (j:=x+1) (by have:=HL.out;omega) (by have:=HL.out;omega))
     generalize gd l1 x=u at *
     generalize gd l1 (x+1)=v at *
     go_wp2
     go_region
     go_wp2
     go_roundw
     case rel=>exact⟨x+1,swp l1 x (x+1),by first|rfl|go_num,by omega,by omega,by rw [swp_len];exact HL.out,by first|exact HW.out.drew|exact HW.out.drewN _|exact HW.out,by rw [← HQ.out,show y - 1 - x=(y - 1 - (x+1))+1 by omega];rfl⟩
     case measure=>simp [intOf]<;>omega
    ·have hltI:¬ (x:Int)<(y:Int) - 1:=by omega
     have HE:Hid (l1=upF (y - 1 - a) a l):=zH (by rw [← HQ.out,show y - 1 - x=0 by omega];rfl)
     go_wp2
     refine bodyPost_ret (results_none rfl _ _ _) rfl ?_
     exact⟨rfl,HT1.out.to HE.out⟩
set_option maxRecDepth 100000 in
set_option maxHeartbeats 4000000 in
theorem sym_two {W0 W:World} {d bx br cr:Nat} {r l:List Int} (h:Srt W0 d bx br cr r l W) {N:Nat} (hN:l.length=N) {A M B:Int} (a m b c:Nat) (eA:A=a) (eM:M=m) (eB:B=b) (ha:a+1<m) (hm:b=m+1) (hb:b≤N) :
  Calls Tryz.prog 192 #[.slice (some ⟨d,0,none⟩) N c,.int .i64 A,.int .i64 M,.int .i64 B,cmpV bx] W (fun e W'=>e=.returned (.tuple #[])∧Srt W0 d bx br cr r (dnF (bs (fun h=>!ltR r (gd l m) (gd l h)) (m - a) a m) m l) W'):=by
 subst eA eM eB
 have H:=zH h
 have hrn:N≤1048576:=by have:=h.rn;have:=h.ln;omega
 clear h
 have HN:=zH hN
 clear hN
 obtain⟨I,hI⟩:∃ I,bs (fun h=>!ltR r (gd l m) (gd l h)) (m - a) a m=I:=⟨_,rfl⟩
 have HI:=zH hI
 rw [hI]
 clear hI
 have e0:((m:Int) - (a:Int) == 1)=false:=by rw [beq_eq_false_iff_ne];omega
 have e1:(b:Int) - (m:Int)=1:=by omega
 go_enter Tryz.func192,Tryz.ntmps192
 go_wp2
 go_loopw [14,15] (fun i j wr=>∃ x y f:Nat,i=.int .i64 x∧j=.int .i64 y∧a≤x∧x≤y∧y≤m∧y - x≤f∧Srt W0 d bx br cr r l wr∧bs (fun h=>!ltR r (gd l m) (gd l h)) f x y=I) (fun i j _=>(intOf j).toNat - (intOf i).toNat)
 case atStart=>exact⟨a,m,m - a,rfl,rfl,by omega,by omega,by omega,by omega,H.out,HI.out⟩
 case round=>
  obtain⟨x,y,f,rfl,rfl,hmx,hxy,hyb,hf,hS,hQ⟩:=hrel
  have HT:=zH hS
  clear hS
  by_cases hlt:x<y
  ·have hltI:(x:Int)<(y:Int):=by omega
   obtain⟨f,rfl⟩:∃ f',f=f'+1:=⟨f - 1,by omega⟩
   obtain⟨q,hq⟩:∃ q,q=(x+y) / 2:=⟨_,rfl⟩
   have e2:((x:Int)+(y:Int)) / 2=(q:Int):=by omega
   have hI1:(q:Int)<(N:Int):=by omega
   have hI2:(m:Int)<(N:Int):=by omega
   have c1:=HT.out.at (i:=q) (by have:=HN.out;omega)
   have c2:=HT.out.at (i:=m) (by have:=HN.out;omega)
   have HC:=zH fun n=>(cmp_any (HT.out.drewN n) (gd l m) (gd l q) (HT.out.ok _ (gd_mem (by have:=HN.out;omega))) (HT.out.ok _ (gd_mem (by have:=HN.out;omega))))
   have hZ:gd r (gd l q).toNat - gd r (gd l m).toNat<0→bs (fun h=>!ltR r (gd l m) (gd l h)) f x q=I:=fun hD=>by rw [← hQ];exact(bs_no hlt hq (by simpa using hD)).symm
   have hY:¬ gd r (gd l q).toNat - gd r (gd l m).toNat<0→bs (fun h=>!ltR r (gd l m) (gd l h)) f (q+1) y=I:=fun hD=>by rw [← hQ];exact(bs_yes hlt hq (by simpa using hD)).symm
   clear hQ
   generalize gd r (gd l q).toNat - gd r (gd l m).toNat=D at *
   by_cases hD:D<0
   ·have HQ:=zH (hZ hD)
    clear hY hZ
    have hqx:x≤q∧q<y:=by omega
    clear hq
    go_wp2
    go_quiet ((go_at_call 175;with_reducible exact Calls.quiet_of (HC.out _)))
    go_wp2
    go_roundw
    case rel=>exact⟨x,q,f,rfl,by first|rfl|go_num,by omega,by omega,by omega,by omega,HT.out.drewN _,HQ.out⟩
    case measure=>simp [intOf]<;>omega
   ·have hDd:decide (D<0)=false:=decide_eq_false hD
    have HQ:=zH (hY hD)
    clear hD
    clear hY hZ
    have hqx:x≤q∧q<y:=by omega
    clear hq
    go_wp2
    go_quiet ((go_at_call 175;with_reducible exact Calls.quiet_of (HC.out _)))
    go_wp2
    go_roundw
    case rel=>exact⟨q+1,y,f,by first|rfl|go_num,rfl,by omega,by omega,by omega,by omega,HT.out.drewN _,HQ.out⟩
    case measure=>simp [intOf]<;>omega
  ·obtain rfl:y=x:=by omega
   have hIx:y=I:=by
    rw [← hQ]
    cases f<;>simp [bs]
   subst hIx
   clear hQ HI
   go_wp2
   go_loopw [17] (fun k wr=>∃ (x:Nat) (l1:List Int),k=.int .i64 x∧x≤m∧y≤x∧l1.length=N∧Srt W0 d bx br cr r l1 wr∧dnF y x l1=dnF y m l) (fun k _=>(intOf k).toNat)
   case atStart=>exact⟨m,l,rfl,by omega,by omega,HN.out,HT.out,rfl⟩
   case round=>
    obtain⟨x,l1,rfl,hax,hxy2,hl1,hS,hQ⟩:=hrel
    have HT1:=zH hS
    have HL:=zH hl1
    have HQ:=zH hQ
    clear hS hl1 hQ HT
    by_cases hlt3:y<x
    ·obtain⟨q,rfl⟩:∃ q,x=q+1:=⟨x - 1,by omega⟩
     have hltI:(y:Int)<((q+1:Nat):Int):=by omega
     have hltK:(y:Int)<(q:Int)+1:=by omega
     have hI1:(q:Int)<(N:Int):=by omega
     have hI2:(q:Int)+1<(N:Int):=by omega
     have c1:=HT1.out.at (i:=q+1) (by have:=HL.out;omega)
     have c2:=HT1.out.at (i:=q) (by have:=HL.out;omega)
     have f1:=HT1.out.dat.froz (q+1)
     have f2:=HT1.out.dat.froz q
     have hq1:dnF y (q+1) l1=if y<q+1 then dnF y q (swp l1 (q+1) q) else l1:=rfl
     rw [if_pos hlt3,HQ.out] at hq1
     have HQ1:=zH hq1
     clear hq1
     obtain⟨y1,c5,f5⟩:=HT1.out.mid (i:=q+1) (j:=q) (by have:=HL.out;omega) (gd l1 q)
     have HW:=zH (HT1.out.swap (i:=q+1) (j:=q) (by have:=HL.out;omega) (by have:=HL.out;omega))
     generalize gd l1 (q+1)=u at *
     generalize gd l1 q=v at *
     go_wp2
     go_region
     go_wp2
     go_roundw
     case rel=>exact⟨q,swp l1 (q+1) q,by first|rfl|go_num,by omega,by omega,by rw [swp_len];exact HL.out,by first|exact HW.out.drew|exact HW.out.drewN _|exact HW.out,HQ1.out.symm⟩
     case measure=>simp [intOf]<;>omega
    ·obtain rfl:x=y:=by omega
     have HE:Hid (l1=dnF x m l):=zH (by rw [← HQ.out];cases x<;>simp [dnF])
     have hltI:¬ (x:Int)<(x:Int):=by omega
     go_wp2
     refine bodyPost_ret (results_none rfl _ _ _) rfl ?_
     exact⟨rfl,HT1.out.to HE.out⟩
end Go.Proofs.YtlenbcmgjancmaaGreatDoor
namespace Go.Proofs.YtlenbcmgjancmaaGreatDoor
open Go.RowKit
def SymC (f:Nat) (W0:World) (d bx br cr N:Nat) (r:List Int):Prop :=
 ∀ (W:World) (l:List Int) (a m b c:Nat),Srt W0 d bx br cr r l W→l.length=N→a<m→m<b→b≤N→b - a≤f→
  Calls Tryz.prog 192 #[.slice (some ⟨d,0,none⟩) N c,.int .i64 a,.int .i64 m,.int .i64 b,cmpV bx] W (fun e W'=>e=.returned (.tuple #[])∧Srt W0 d bx br cr r (symF (ltR r) f a m b l) W')
def GenC (W0:World) (d bx br cr:Nat) (r l:List Int) (a m b S:Nat) (v2 v3:Value) (W:World):Prop :=
 ∃ x y f:Nat,v2=.int .i64 x∧v3=.int .i64 y∧a≤x∧x≤y∧y≤(a+b) / 2∧y≤m∧(a+b) / 2+m≤x+b∧y - x≤f∧Srt W0 d bx br cr r l W∧bs (fun c=>!ltR r (gd l ((a+b) / 2+m - 1 - c)) (gd l c)) f x y=S
set_option maxRecDepth 100000 in
set_option maxHeartbeats 8000000 in
theorem sym_gen {f W0 d bx br cr N r} (IH:SymC f W0 d bx br cr N r) {W:World} {l:List Int} (h:Srt W0 d bx br cr r l W) (hN:l.length=N) (a m b c:Nat) (ha:a+1<m) (hm:m+1<b) (hb:b≤N) (hf:b - a≤f+1) :
  Calls Tryz.prog 192 #[.slice (some ⟨d,0,none⟩) N c,.int .i64 a,.int .i64 m,.int .i64 b,cmpV bx] W (fun e W'=>e=.returned (.tuple #[])∧Srt W0 d bx br cr r (symF (ltR r) (f+1) a m b l) W'):=by
 have H:=zH h
 unfold SymC at IH
 have HIH:=zH IH
 have hrn:N≤1048576:=by have:=h.rn;have:=h.ln;omega
 clear h IH
 have HN:=zH hN
 have HNR:Hid (r.length=N):=zH (by rw [← hN];exact H.out.ln.symm)
 clear hN
 have hs:=sym_s (ltR r) l a m b (by omega) (by omega)
 have hsp:symF (ltR r) (f+1) a m b l=(
   let mid:=(a+b) / 2
   let n:=mid+m
   let s:=if mid<m then bs (fun c=>!ltR r (gd l (n - 1 - c)) (gd l c)) (mid - (n - b)) (n - b) mid else bs (fun c=>!ltR r (gd l (n - 1 - c)) (gd l c)) (m - a) a m
   let e:=n - s
   let l1:=if s<m∧m<e then rotS s m e l else l
   let l2:=if a<s∧s<mid then symF (ltR r) f a s mid l1 else l1
   if mid<e∧e<b then symF (ltR r) f mid e b l2 else l2):=by
  rw [symF,if_neg (by omega),if_neg (by omega)]
 dsimp only at hs hsp
 obtain⟨mid,hmid⟩:∃ mid,(a+b) / 2=mid:=⟨_,rfl⟩
 rw [hmid] at hs hsp
 obtain⟨S,hS⟩:∃ S,(if mid<m then bs (fun c=>!ltR r (gd l (mid+m - 1 - c)) (gd l c)) (mid - (mid+m - b)) (mid+m - b) mid else bs (fun c=>!ltR r (gd l (mid+m - 1 - c)) (gd l c)) (m - a) a m)=S:=⟨_,rfl⟩
 rw [hS] at hs hsp
 obtain⟨k1,k2,k3,k4,k5,k6⟩:=hs
 obtain⟨e,he⟩:∃ e,mid+m - S=e:=⟨_,rfl⟩
 rw [he] at hsp k4 k5 k6
 obtain⟨l1,hl1⟩:∃ l1,(if S<m∧m<e then rotS S m e l else l)=l1:=⟨_,rfl⟩
 rw [hl1] at hsp
 obtain⟨l2,hl2⟩:∃ l2,(if a<S∧S<mid then symF (ltR r) f a S mid l1 else l1)=l2:=⟨_,rfl⟩
 rw [hl2] at hsp
 obtain⟨l3,hl3⟩:∃ l3,(if mid<e∧e<b then symF (ltR r) f mid e b l2 else l2)=l3:=⟨_,rfl⟩
 rw [hl3] at hsp
 rw [hsp]
 have HS:=zH hS
 have HL1:=zH hl1
 have HL2:=zH hl2
 have HL3:=zH hl3
 clear hsp hS hl1 hl2 hl3
 have e0:((m:Int) - (a:Int) == 1)=false:=by rw [beq_eq_false_iff_ne];omega
 have e1:((b:Int) - (m:Int) == 1)=false:=by rw [beq_eq_false_iff_ne];omega
 have e2:((a:Int)+(b:Int)) / 2=(mid:Int):=by omega
 go_enter Tryz.func192,Tryz.ntmps192
 go_upto_if 140 with (fail)
 go_cut [20,21] (GenC W0 d bx br cr r l a m b S)
 case first=>as_aux_lemma=>
  by_cases hmm:mid<m
  ·have hmmI:(mid:Int)<(m:Int):=by omega
   go_wp2_with fail
   go_meet
   refine⟨mid+m - b,mid,mid - (mid+m - b),?_,rfl,by omega,by omega,by omega,by omega,by omega,by omega,H.out,?_⟩
   ·first|rfl|go_num|(congr 1;omega)
   ·rw [hmid,← HS.out,if_pos hmm]
  ·have hmmI:decide ((mid:Int)<(m:Int))=false:=decide_eq_false (by omega)
   go_wp2_with fail
   go_meet
   refine⟨a,m,m - a,rfl,rfl,by omega,by omega,by omega,by omega,by omega,by omega,H.out,?_⟩
   rw [hmid,← HS.out,if_neg hmm]
 case rest=>
 obtain⟨x0,y0,f0,rfl,rfl,g1,g2,g3,g4,g5,g6,g7,g8⟩:=hcut
 have HT0:=zH g7
 have HB0:=zH g8
 clear g7 g8 H
 rw [hmid] at g3 g5
 go_wp2
 go_loopw [20,21] (fun i j wr=>∃ x y f:Nat,i=.int .i64 x∧j=.int .i64 y∧a≤x∧x≤y∧y≤mid∧y≤m∧mid+m≤x+b∧y - x≤f∧Srt W0 d bx br cr r l wr∧bs (fun c=>!ltR r (gd l (mid+m - 1 - c)) (gd l c)) f x y=S) (fun i j _=>(intOf j).toNat - (intOf i).toNat)
 case atStart=>exact⟨x0,y0,f0,rfl,rfl,by omega,by omega,by omega,by omega,by omega,by omega,HT0.out,by have:=HB0.out;rwa [hmid] at this⟩
 case round=>
  obtain⟨x,y,f1,rfl,rfl,hax,hxy,hym,hym2,hxb,hf1,hS1,hQ⟩:=hrel
  have HT:=zH hS1
  clear hS1 HT0 HB0
  by_cases hlt:x<y
  ·have hltI:(x:Int)<(y:Int):=by omega
   obtain⟨f1,rfl⟩:∃ f',f1=f'+1:=⟨f1 - 1,by omega⟩
   obtain⟨q,hq⟩:∃ q,q=(x+y) / 2:=⟨_,rfl⟩
   obtain⟨z,hz⟩:∃ z,mid+m - 1 - q=z:=⟨_,rfl⟩
   have e3:((x:Int)+(y:Int)) / 2=(q:Int):=by omega
   have e4:(mid:Int)+(m:Int) - 1 - (q:Int)=(z:Int):=by omega
   have hI1:(q:Int)<(N:Int):=by omega
   have hI2:(z:Int)<(N:Int):=by omega
   have c1:=HT.out.at (i:=q) (by have:=HN.out;omega)
   have c2:=HT.out.at (i:=z) (by have:=HN.out;omega)
   have HC:=zH fun n=>(cmp_any (HT.out.drewN n) (gd l z) (gd l q) (HT.out.ok _ (gd_mem (by have:=HN.out;omega))) (HT.out.ok _ (gd_mem (by have:=HN.out;omega))))
   have hZ:gd r (gd l q).toNat - gd r (gd l z).toNat<0→bs (fun c=>!ltR r (gd l (mid+m - 1 - c)) (gd l c)) f1 x q=S:=fun hD=>by rw [← hQ];exact(bs_no hlt hq (by rw [hz];simpa using hD)).symm
   have hY:¬ gd r (gd l q).toNat - gd r (gd l z).toNat<0→bs (fun c=>!ltR r (gd l (mid+m - 1 - c)) (gd l c)) f1 (q+1) y=S:=fun hD=>by rw [← hQ];exact(bs_yes hlt hq (by rw [hz];simpa using hD)).symm
   clear hQ
   generalize gd r (gd l q).toNat - gd r (gd l z).toNat=D at *
   by_cases hD:D<0
   ·as_aux_lemma=>
     have HQ:=zH (hZ hD)
     clear hY hZ
     have hqx:x≤q∧q<y:=by omega
     clear hq
     go_wp2
     go_quiet ((go_at_call 175;with_reducible exact Calls.quiet_of (HC.out _)))
     go_wp2
     go_roundw
     case rel=>exact⟨x,q,f1,rfl,by first|rfl|go_num,by omega,by omega,by omega,by omega,by omega,by omega,HT.out.drewN _,HQ.out⟩
     case measure=>simp [intOf]<;>omega
   ·as_aux_lemma=>
     have hDd:decide (D<0)=false:=decide_eq_false hD
     have HQ:=zH (hY hD)
     clear hD
     clear hY hZ
     have hqx:x≤q∧q<y:=by omega
     clear hq
     go_wp2
     go_quiet ((go_at_call 175;with_reducible exact Calls.quiet_of (HC.out _)))
     go_wp2
     go_roundw
     case rel=>exact⟨q+1,y,f1,by first|rfl|go_num,rfl,by omega,by omega,by omega,by omega,by omega,by omega,HT.out.drewN _,HQ.out⟩
     case measure=>simp [intOf]<;>omega
  ·as_aux_lemma=>
    obtain rfl:y=x:=by omega
    have hIx:y=S:=by
     rw [← hQ]
     cases f1<;>simp [bs]
    subst hIx
    clear hQ
    have e5:(mid:Int)+(m:Int) - (y:Int)=(e:Int):=by omega
    clear HS
    go_upto_region 39 with (fail)
    go_cut [185] (fun v W'=>v=.bool (decide (y<m∧m<e))∧Srt W0 d bx br cr r l W')
    case first=>as_aux_lemma=>
     by_cases h1:y<m
     ·have h1I:(y:Int)<(m:Int):=by omega
      by_cases h2:m<e
      ·have h2I:(m:Int)<(e:Int):=by omega
       go_wp2_with fail
       go_meet
       exact⟨by simp [h1,h2],by first|exact HT.out|exact HT.out.drewN _⟩
      ·have h2I:decide ((m:Int)<(e:Int))=false:=decide_eq_false (by omega)
       go_wp2_with fail
       go_meet
       exact⟨by simp [h1,h2],by first|exact HT.out|exact HT.out.drewN _⟩
     ·have h1I:decide ((y:Int)<(m:Int))=false:=decide_eq_false (by omega)
      go_wp2_with fail
      go_meet
      exact⟨by simp [h1],by first|exact HT.out|exact HT.out.drewN _⟩
    case rest=>
    obtain⟨rfl,hS1⟩:=hcut
    have HT:=zH hS1
    clear hS1
    go_upto_if 185 with (fail)
    go_cut [] (fun W'=>Srt W0 d bx br cr r l1 W')
    case first=>as_aux_lemma=>
     by_cases hc:y<m∧m<e
     ·have hd:decide (y<m∧m<e)=true:=decide_eq_true hc
      have HE:=HL1.out
      rw [if_pos hc] at HE
      have HEE:=zH HE
      clear HE
      go_wp2_with (go_at_call 196;(with_reducible refine((rot_any HT.out HN.out y m e c rfl rfl rfl hc.1 hc.2 (by omega))).mono ?_);rintro e1' w1 ⟨rfl,hS1⟩)
      go_meet
      exact hS1.to HEE.out
     ·have hd:decide (y<m∧m<e)=false:=decide_eq_false hc
      have HE:=HL1.out
      rw [if_neg hc] at HE
      have HEE:=zH HE
      clear HE
      go_wp2_with fail
      go_meet
      exact HT.out.to HEE.out
    case rest=>
    have HT:=zH hcut
    clear hcut
    have HN1:Hid (l1.length=N):=zH (by rw [HT.out.ln,HNR.out])
    go_upto_region 41 with (fail)
    go_cut [199] (fun v W'=>v=.bool (decide (a<y∧y<mid))∧Srt W0 d bx br cr r l1 W')
    case first=>as_aux_lemma=>
     by_cases h1:a<y
     ·have h1I:(a:Int)<(y:Int):=by omega
      by_cases h2:y<mid
      ·have h2I:(y:Int)<(mid:Int):=by omega
       go_wp2_with fail
       go_meet
       exact⟨by simp [h1,h2],by first|exact HT.out|exact HT.out.drewN _⟩
      ·have h2I:decide ((y:Int)<(mid:Int))=false:=decide_eq_false (by omega)
       go_wp2_with fail
       go_meet
       exact⟨by simp [h1,h2],by first|exact HT.out|exact HT.out.drewN _⟩
     ·have h1I:decide ((a:Int)<(y:Int))=false:=decide_eq_false (by omega)
      go_wp2_with fail
      go_meet
      exact⟨by simp [h1],by first|exact HT.out|exact HT.out.drewN _⟩
    case rest=>
    obtain⟨rfl,hS1⟩:=hcut
    have HT:=zH hS1
    clear hS1
    go_upto_if 199 with (fail)
    go_cut [] (fun W'=>Srt W0 d bx br cr r l2 W')
    case first=>as_aux_lemma=>
     by_cases hc:a<y∧y<mid
     ·have hd:decide (a<y∧y<mid)=true:=decide_eq_true hc
      have HE:=HL2.out
      rw [if_pos hc] at HE
      have HEE:=zH HE
      clear HE
      go_wp2_with (go_at_call 192;(with_reducible refine((HIH.out _ l1 a y mid c HT.out HN1.out hc.1 hc.2 (by omega) (by omega))).mono ?_);rintro e1' w1 ⟨rfl,hS1⟩)
      go_meet
      exact hS1.to HEE.out
     ·have hd:decide (a<y∧y<mid)=false:=decide_eq_false hc
      have HE:=HL2.out
      rw [if_neg hc] at HE
      have HEE:=zH HE
      clear HE
      go_wp2_with fail
      go_meet
      exact HT.out.to HEE.out
    case rest=>
    have HT:=zH hcut
    clear hcut
    have HN2:Hid (l2.length=N):=zH (by rw [HT.out.ln,HNR.out])
    go_upto_region 43 with (fail)
    go_cut [213] (fun v W'=>v=.bool (decide (mid<e∧e<b))∧Srt W0 d bx br cr r l2 W')
    case first=>as_aux_lemma=>
     by_cases h1:mid<e
     ·have h1I:(mid:Int)<(e:Int):=by omega
      by_cases h2:e<b
      ·have h2I:(e:Int)<(b:Int):=by omega
       go_wp2_with fail
       go_meet
       exact⟨by simp [h1,h2],by first|exact HT.out|exact HT.out.drewN _⟩
      ·have h2I:decide ((e:Int)<(b:Int))=false:=decide_eq_false (by omega)
       go_wp2_with fail
       go_meet
       exact⟨by simp [h1,h2],by first|exact HT.out|exact HT.out.drewN _⟩
     ·have h1I:decide ((mid:Int)<(e:Int))=false:=decide_eq_false (by omega)
      go_wp2_with fail
      go_meet
      exact⟨by simp [h1],by first|exact HT.out|exact HT.out.drewN _⟩
    case rest=>
    obtain⟨rfl,hS1⟩:=hcut
    have HT:=zH hS1
    clear hS1
    by_cases hc:mid<e∧e<b
    ·have hd:decide (mid<e∧e<b)=true:=decide_eq_true hc
     have HE:=HL3.out
     rw [if_pos hc] at HE
     have HEE:=zH HE
     clear HE
     go_wp2_with (go_at_call 192;(with_reducible refine(HIH.out _ l2 mid e b c HT.out HN2.out hc.1 hc.2 (by omega) (by omega)).mono ?_);rintro e1' w1 ⟨rfl,hS1⟩)
     go_end0
     exact⟨rfl,hS1.to HEE.out⟩
    ·have hd:decide (mid<e∧e<b)=false:=decide_eq_false hc
     have HE:=HL3.out
     rw [if_neg hc] at HE
     have HEE:=zH HE
     clear HE
     go_wp2_with fail
     go_end0
     exact⟨rfl,HT.out.to HEE.out⟩
end Go.Proofs.YtlenbcmgjancmaaGreatDoor
namespace Go.Proofs.YtlenbcmgjancmaaGreatDoor
open Go.RowKit
theorem sym_all (W0:World) (d bx br cr N:Nat) (r:List Int):∀ f,SymC f W0 d bx br cr N r
 | 0=>fun W l a m b c _ _ h1 h2 _ h3=>by omega
 |f+1=>fun W l a m b c h hN h1 h2 hb hf=>by
  by_cases hA:m - a=1
  ·have:=sym_one h hN (A:=a) (M:=m) (B:=b) a m b c rfl rfl rfl (by omega) h2 hb
   rw [symF,if_pos hA]
   exact this
  ·by_cases hB:b - m=1
   ·have:=sym_two h hN (A:=a) (M:=m) (B:=b) a m b c rfl rfl rfl (by omega) (by omega) hb
    rw [symF,if_neg hA,if_pos hB]
    exact this
   ·exact sym_gen (sym_all W0 d bx br cr N r f) h hN a m b c (by omega) (by omega) hb hf
theorem sym_any {W0 W:World} {d bx br cr:Nat} {r l:List Int} (h:Srt W0 d bx br cr r l W) {N:Nat} (hN:l.length=N) {A M B:Int} (a m b c f:Nat) (eA:A=a) (eM:M=m) (eB:B=b) (ha:a<m) (hm:m<b) (hb:b≤N) (hf:b - a≤f) :
  Calls Tryz.prog 192 #[.slice (some ⟨d,0,none⟩) N c,.int .i64 A,.int .i64 M,.int .i64 B,cmpV bx] W (fun e W'=>e=.returned (.tuple #[])∧Srt W0 d bx br cr r (symF (ltR r) f a m b l) W'):=by
 subst eA eM eB
 exact sym_all W0 d bx br cr N r f W l a m b c h hN ha hm hb hf
theorem blk_end {lt:Int→Int→Bool} {n f a:Nat} {l:List Int} (h:¬ a+20≤n):blk lt n f a l=insS lt a n l:=by
 cases f<;>simp [blk,h]
theorem mrg_end {lt:Int→Int→Bool} {n s f a:Nat} {l:List Int} (h:¬ a+2*s≤n):mrg lt n s f a l=if a+s<n then symF lt n a (a+s) n l else l:=by
 cases f<;>simp [mrg,h]
theorem mrgs_end {lt:Int→Int→Bool} {n s f:Nat} {l:List Int} (h:¬ s<n):mrgs lt n f s l=l:=by
 cases f<;>simp [mrgs,h]
set_option maxRecDepth 100000 in
set_option maxHeartbeats 8000000 in
theorem stable_any {W0 W:World} {d bx br cr:Nat} {r l:List Int} (h:Srt W0 d bx br cr r l W) {N:Nat} (hN:l.length=N) (c:Nat) :
  Calls Tryz.prog 184 #[.slice (some ⟨d,0,none⟩) N c,.int .i64 N,cmpV bx] W (fun e W'=>e=.returned (.tuple #[])∧Srt W0 d bx br cr r (stableS (ltR r) l) W'):=by
 have H:=zH h
 have hrn:N≤1048576:=by have:=h.rn;have:=h.ln;omega
 have HNR:Hid (r.length=N):=zH (by rw [← hN];exact h.ln.symm)
 clear h
 have HN:=zH hN
 have hR:stableS (ltR r) l=mrgs (ltR r) N N 20 (blk (ltR r) N N 0 l):=by unfold stableS;rw [hN]
 rw [hR]
 clear hN hR
 obtain⟨R1,hR1⟩:∃ R1,blk (ltR r) N N 0 l=R1:=⟨_,rfl⟩
 rw [hR1]
 obtain⟨R2,hR2⟩:∃ R2,mrgs (ltR r) N N 20 R1=R2:=⟨_,rfl⟩
 rw [hR2]
 have HR1:=zH hR1
 have HR2:=zH hR2
 clear hR1 hR2
 go_enter Tryz.func184,Tryz.ntmps184
 go_wp2
 go_loopw [7,8] (fun i j wr=>∃ (a f:Nat) (m:List Int),i=.int .i64 a∧j=.int .i64 (a+20:Nat)∧a≤N∧N≤a+f∧m.length=N∧Srt W0 d bx br cr r m wr∧blk (ltR r) N f a m=R1) (fun i _ _=>N - (intOf i).toNat)
 case atStart=>exact⟨0,N,l,rfl,rfl,by omega,by omega,HN.out,H.out,HR1.out⟩
 case round=>
  obtain⟨a,f,m,rfl,rfl,haN,hf,hm,hS,hB⟩:=hrel
  have HT:=zH hS
  have HM:=zH hm
  clear hS hm H
  by_cases hlt:a+20≤N
  ·as_aux_lemma=>
    have hltI:((a+20:Nat):Int)≤(N:Int):=by omega
    have hltJ:(a:Int)+20≤(N:Int):=by omega
    obtain⟨f,rfl⟩:∃ f',f=f'+1:=⟨f - 1,by omega⟩
    simp only [blk,if_pos hlt] at hB
    have HB:=zH hB
    clear hB
    go_wp2_with (go_at_call 191;(with_reducible refine(ins_any HT.out HM.out a (a+20) c (by omega) (by omega) (by omega) (by omega)).mono ?_);rintro e1' w1 ⟨rfl,hS1⟩;have HS1:=zH hS1;clear hS1)
    go_roundw
    case rel=>exact⟨a+20,f,_,by first|rfl|go_num,by first|rfl|go_num,by omega,by omega,by rw [HS1.out.ln,HNR.out],HS1.out,HB.out⟩
    case measure=>simp [intOf]<;>omega
  ·have hltI:decide (((a+20:Nat):Int)≤(N:Int))=false:=decide_eq_false (by omega)
   have hltJ:decide ((a:Int)+20≤(N:Int))=false:=decide_eq_false (by omega)
   rw [blk_end hlt] at hB
   have HB:=zH hB
   clear hB
   go_wp2_with (go_at_call 191;(with_reducible refine(ins_any HT.out HM.out a N c (by omega) (by omega) (by omega) (by omega)).mono ?_);rintro e1' w1 ⟨rfl,hS1⟩;have HS1:=zH (hS1.to HB.out);clear hS1)
   go_loopw [6] (fun i wr=>∃ (s f:Nat) (m:List Int),i=.int .i64 s∧1≤s∧s≤2*N+20∧N≤s+f∧m.length=N∧Srt W0 d bx br cr r m wr∧mrgs (ltR r) N f s m=R2) (fun i _=>N - (intOf i).toNat)
   case atStart=>exact⟨20,N,R1,rfl,by omega,by omega,by omega,by rw [HS1.out.ln,HNR.out],HS1.out,HR2.out⟩
   case round=>
    obtain⟨s,f2,m2,rfl,hs1,hsN,hf2,hm2,hS2,hB2⟩:=hrel
    have HT2:=zH hS2
    have HM2:=zH hm2
    clear hS2 hm2 HS1 HT HM HB
    by_cases hlt2:s<N
    ·as_aux_lemma=>
      have hlt2I:(s:Int)<(N:Int):=by omega
      obtain⟨f2,rfl⟩:∃ f',f2=f'+1:=⟨f2 - 1,by omega⟩
      simp only [mrgs,if_pos hlt2] at hB2
      obtain⟨R3,hR3⟩:∃ R3,mrg (ltR r) N s N 0 m2=R3:=⟨_,rfl⟩
      rw [hR3] at hB2
      have HB2:=zH hB2
      have HR3:=zH hR3
      clear hB2 hR3
      go_wp2
      go_loopw [7,8] (fun i j wr=>∃ (a f:Nat) (m:List Int),i=.int .i64 a∧j=.int .i64 (a+2*s:Nat)∧a≤N∧N≤a+f∧m.length=N∧Srt W0 d bx br cr r m wr∧mrg (ltR r) N s f a m=R3) (fun i _ _=>N - (intOf i).toNat)
      case atStart=>exact⟨0,N,m2,rfl,by first|rfl|go_num,by omega,by omega,HM2.out,HT2.out,HR3.out⟩
      case round=>
       obtain⟨a,f,m,rfl,rfl,haN,hf,hm,hS,hB⟩:=hrel
       have HT:=zH hS
       have HM:=zH hm
       clear hS hm
       by_cases hlt:a+2*s≤N
       ·have hltI:((a+2*s:Nat):Int)≤(N:Int):=by omega
        have hltJ:(a:Int)+2*(s:Int)≤(N:Int):=by omega
        obtain⟨f,rfl⟩:∃ f',f=f'+1:=⟨f - 1,by omega⟩
        simp only [mrg,if_pos hlt] at hB
        have HB:=zH hB
        clear hB
        go_wp2_with (go_at_call 192;(with_reducible refine(sym_any HT.out HM.out a (a+s) (a+2*s) c N (by omega) (by omega) (by omega) (by omega) (by omega) (by omega) (by omega)).mono ?_);rintro e1' w1 ⟨rfl,hS1⟩;have HS1:=zH hS1;clear hS1)
        go_roundw
        case rel=>exact⟨a+2*s,f,_,by first|rfl|go_num,by first|rfl|go_num,by omega,by omega,by rw [HS1.out.ln,HNR.out],HS1.out,HB.out⟩
        case measure=>simp [intOf]<;>omega
       ·have hltI:decide (((a+2*s:Nat):Int)≤(N:Int))=false:=decide_eq_false (by omega)
        have hltJ:decide ((a:Int)+2*(s:Int)≤(N:Int))=false:=decide_eq_false (by omega)
        rw [mrg_end hlt] at hB
        by_cases hlast:a+s<N
        ·rw [if_pos hlast] at hB
         have HB:=zH hB
         clear hB
         have hlastI:(a:Int)+(s:Int)<(N:Int):=by omega
         go_wp2_with (go_at_call 192;(with_reducible refine(sym_any HT.out HM.out a (a+s) N c N (by omega) (by omega) (by omega) (by omega) (by omega) (by omega) (by omega)).mono ?_);rintro e1' w1 ⟨rfl,hS1⟩;have HS1:=zH (hS1.to HB.out);clear hS1)
         go_roundw
         case rel=>exact⟨2*s,f2,R3,by first|rfl|go_num,by omega,by omega,by omega,by rw [HS1.out.ln,HNR.out],HS1.out,HB2.out⟩
         case measure=>simp [intOf]<;>omega
        ·rw [if_neg hlast] at hB
         have HB:=zH (HT.out.to hB)
         clear hB
         have hlastI:decide ((a:Int)+(s:Int)<(N:Int))=false:=decide_eq_false (by omega)
         go_wp2
         go_roundw
         case rel=>exact⟨2*s,f2,R3,by first|rfl|go_num,by omega,by omega,by omega,by rw [HB.out.ln,HNR.out],HB.out,HB2.out⟩
         case measure=>simp [intOf]<;>omega
    ·have hlt2I:decide ((s:Int)<(N:Int))=false:=decide_eq_false (by omega)
     rw [mrgs_end hlt2] at hB2
     have HB2:=zH (HT2.out.to hB2)
     clear hB2
     go_wp2
     go_end0
     exact⟨rfl,HB2.out⟩
set_option maxRecDepth 100000 in
set_option maxHeartbeats 4000000 in
theorem sortf_any {W0 W:World} {d bx br cr:Nat} {r l:List Int} (h:Srt W0 d bx br cr r l W) {N:Nat} (hN:l.length=N) (c:Nat) :
  Calls Tryz.prog 174 #[.slice (some ⟨d,0,none⟩) N c,cmpV bx] W (fun e W'=>e=.returned (.tuple #[])∧Srt W0 d bx br cr r (stableS (ltR r) l) W'):=by
 have H:=zH h
 have HN:=zH hN
 have hrn:N≤1048576:=by have:=h.rn;have:=h.ln;omega
 clear h hN
 go_enter Tryz.func174,Tryz.ntmps174
 go_wp2_with (go_at_call 184;(with_reducible refine(stable_any H.out HN.out c).mono ?_);rintro e1' w1 ⟨rfl,hS1⟩)
 go_end0
 exact⟨rfl,hS1⟩
end Go.Proofs.YtlenbcmgjancmaaGreatDoor
namespace Go.Proofs.YtlenbcmgjancmaaGreatDoor
open Go.RowKit
def iota (n:Nat):List Int:=(List.range n).map Int.ofNat
theorem iota_len (n:Nat):(iota n).length=n:=by simp [iota]
theorem iota_mem {n:Nat} {x:Int} (h:x ∈ iota n):0≤x∧x<n:=by
 simp only [iota,List.mem_map,List.mem_range] at h
 obtain⟨a,h1,rfl⟩:=h
 exact⟨Int.natCast_nonneg a,by simpa using h1⟩
def iot (k n:Nat):List Int:=iota k ++ List.replicate (n - k) 0
theorem iot_set {k n:Nat} (h:k<n):(iot k n).set k (k:Int)=iot (k+1) n:=by
 unfold iot
 rw [List.set_append_right _ _ (by rw [iota_len];exact Nat.le_refl _),iota_len,Nat.sub_self,show n - k=(n - (k+1))+1 by omega,List.replicate_succ,List.set_cons_zero]
 have:iota (k+1)=iota k ++ [(k:Int)]:=by simp [iota,List.range_succ]
 rw [this,List.append_assoc];rfl
theorem iot_full (n:Nat):iot n n=iota n:=by simp [iot]
def bump:List Int→List Int→List Int
 |out,[]=>out
 |out,i :: is=>bump (out.set i.toNat (gd out i.toNat+1)) is
def toppedS (out rests:List Int) (left:Nat):List Int:=bump out ((stableS (ltR rests) (iota out.length)).take left)
theorem bump_len (is:List Int):∀ out:List Int,(bump out is).length=out.length:=by
 induction is with
 |nil=>intro out;rfl
 |cons i is ih=>intro out;simp only [bump];rw [ih];simp
theorem bump_range (is:List Int):∀ (out:List Int) (B:Int),(∀ x ∈ out,0≤x∧x≤B)→(∀ i ∈ is,0≤i∧i<out.length)→∀ x ∈ bump out is,0≤x∧x≤B+is.length:=by
 induction is with
 |nil=>intro out B h _ x hx;have:=h x hx;simp;omega
 |cons i is ih=>
  intro out B h hi x hx
  simp only [bump] at hx
  have h1:=hi i (by simp)
  have:=ih _ (B+1) (fun y hy=>by
   rcases List.mem_or_eq_of_mem_set hy with hy|rfl
   ·have:=h y hy;omega
   ·have:=h (gd out i.toNat) (gd_mem (by omega));omega) (fun j hj=>by rw [List.length_set];exact hi j (by simp [hj])) x hx
  rw [List.length_cons];push_cast;omega
theorem bump_take {out l:List Int} {k:Nat} {x:Int} (h:l[k]?=some x):bump out (l.take (k+1))=(bump out (l.take k)).set x.toNat (gd (bump out (l.take k)) x.toNat+1):=by
 obtain⟨h1,rfl⟩:=List.getElem?_eq_some_iff.1 h
 rw [List.take_succ_eq_append_getElem h1]
 generalize l.take k=m
 generalize l[k]=y
 induction m generalizing out with
 |nil=>rfl
 |cons a m ih=>simp only [List.cons_append,bump];exact ih
structure Tpd (W0:World) (d bx br bo cr:Nat) (r out l:List Int) (W:World):Prop where
 dat:ArrI W d l
 row:ArrI W br r
 out:ArrI W bo out
 box:W.cell? ⟨bx,0,none⟩=some (.slice (some ⟨br,0,none⟩) r.length cr)
 n1:bx ≠ d
 n2:br ≠ d
 n3:bo ≠ d
 n4:br ≠ bo
 n5:bx ≠ bo
 nd:W0.heap.size≤d
 nb:bo<W0.heap.size
 g:W0.grownBy W (some bo)
theorem Tpd.write {W0 W:World} {d bx br bo cr:Nat} {r out l:List Int} (h:Tpd W0 d bx br bo cr r out l W) (k:Nat) (x:Int):Tpd W0 d bx br bo cr r out (l.set k x) (W.setCell ⟨d,k,none⟩ (.int .i64 x)) :=
 ⟨h.dat.put k x,h.row.other h.n2 _ _,h.out.other h.n3 _ _,(grown_set W d k _).cell h.box (by simpa using h.n1),h.n1,h.n2,h.n3,h.n4,h.n5,h.nd,h.nb,
  ⟨h.g.os,h.g.tape,h.g.output,by simpa using h.g.size,fun i hi hn=>by rw [(grown_set W d k _).block i (Nat.lt_of_lt_of_le hi h.g.size) (by have:=h.nd;simp;omega)];exact h.g.block i hi hn⟩⟩
theorem Tpd.bump {W0 W:World} {d bx br bo cr:Nat} {r out l:List Int} (h:Tpd W0 d bx br bo cr r out l W) (k:Nat) (x:Int):Tpd W0 d bx br bo cr r (out.set k x) l (W.setCell ⟨bo,k,none⟩ (.int .i64 x)) :=
 ⟨h.dat.other h.n3.symm _ _,h.row.other h.n4 _ _,h.out.put k x,(grown_set W bo k _).cell h.box (by simpa using h.n5),h.n1,h.n2,h.n3,h.n4,h.n5,h.nd,h.nb,grown_trans h.g (grown_set W bo k _)⟩
theorem Tpd.to {W0 W:World} {d bx br bo cr:Nat} {r out l l':List Int} (h:Tpd W0 d bx br bo cr r out l W) (e:l=l'):Tpd W0 d bx br bo cr r out l' W:=e ▸ h
theorem Tpd.srt {W0 W:World} {d bx br bo cr:Nat} {r out l:List Int} (h:Tpd W0 d bx br bo cr r out l W) (e:l.length=r.length) (ok:∀ x ∈ l,0≤x∧x<r.length) (rb:∀ x ∈ r,0≤x∧x≤1099511627776) (rn:r.length≤1048576):Srt W d bx br cr r l W :=
 ⟨h.dat,h.row,h.box,h.n1,h.n2,World.grownBy.refl W _,e,ok,rb,rn⟩
theorem Tpd.sorted {W0 W W':World} {d bx br bo cr:Nat} {r out l l':List Int} (h:Tpd W0 d bx br bo cr r out l W) (s:Srt W d bx br cr r l' W'):Tpd W0 d bx br bo cr r out l' W' :=
 ⟨s.dat,s.row,h.out.grown s.g (by simpa using h.n3),s.box,h.n1,h.n2,h.n3,h.n4,h.n5,h.nd,h.nb,
  ⟨s.g.os.trans h.g.os,s.g.tape.trans h.g.tape,s.g.output.trans h.g.output,Nat.le_trans h.g.size s.g.size,fun i hi hn=>by rw [s.g.block i (Nat.lt_of_lt_of_le hi h.g.size) (by have:=h.nd;simp;omega)];exact h.g.block i hi hn⟩⟩
theorem mk_ints (N:Nat) (hN:N≤4398046511104) (w:World):(Instr.makeSlice 38 (.int .i64 N) (.int .i64 N)).run Tryz.prog w=.ok (.slice (some ⟨w.heap.size,0,none⟩) N N) (w.alloc (.cells (madeCells #[.int .i64 0] N) 3)):=by
 obtain⟨i0,hi,hz0,hz1,hz2⟩:=info_parts (P:=Tryz.prog) (show (Tryz.prog.info? 3).map (fun i=>(i.zero,i.size,i.bytes))=some (some (.int .i64 0),1,8) by kernel_rfl)
 have:=run_make (P:=Tryz.prog) w 38 3 i0 (.int .i64 0) Tryz.underlying38 hi hz0 .i64 .i64 N N (by omega) (Int.le_refl _) (by rw [hz2];omega) (by omega)
 rw [hz1] at this
 simpa [Value.cells] using this
theorem tpd_start {W:World} {br bo cr:Nat} {r out:List Int} (hr:ArrI W br r) (ho:ArrI W bo out) (hne:br ≠ bo) (n:Nat) :
  Tpd W (W.heap.size+1) W.heap.size br bo cr r out (List.replicate n 0) ((W.alloc (.cells #[.slice (some ⟨br,0,none⟩) r.length cr] 38)).alloc (.cells (madeCells #[.int .i64 0] n) 3)):=by
 have h1:=hr.lt
 have h2:=ho.lt
 refine⟨?_,(hr.alloc _).alloc _,(ho.alloc _).alloc _,by go_simp,by omega,by omega,by omega,hne,by omega,by omega,h2,grown_trans (World.grownBy_alloc W _ _) (World.grownBy_alloc _ _ _)⟩
 have:=ArrI.made (W.alloc (.cells #[.slice (some ⟨br,0,none⟩) r.length cr] 38)) n
 simpa using this
set_option maxRecDepth 100000 in
set_option maxHeartbeats 4000000 in
theorem topped_any {W:World} {br bo cr co:Nat} {r out:List Int} (hr:ArrI W br r) (ho:ArrI W bo out) (hne:br ≠ bo) (n:Nat) (hn:out.length=n) (hrn:r.length=n) (hn2:n≤1048576) (rb:∀ x ∈ r,0≤x∧x≤1099511627776) (B:Int) (hB:0≤B∧B≤1099511627776) (ob:∀ x ∈ out,0≤x∧x≤B) {L:Int} (left:Nat) (eL:L=left) (hleft:left≤n) :
  Calls Tryz.prog 157 #[.slice (some ⟨bo,0,none⟩) n co,.slice (some ⟨br,0,none⟩) n cr,.int .i64 L] W (fun e W'=>e=.returned (.tuple #[])∧ArrI W' bo (toppedS out r left)∧W.grownBy W' (some bo)):=by
 subst eL
 have hT:=tpd_start (cr:=cr) hr ho hne n
 have hmk:=mk_ints n (by omega)
 rw [hrn] at hT
 have HT0:=zH hT
 have HR:=zH hrn
 have HO:=zH hn
 have HRB:=zH rb
 have HOB:=zH ob
 clear hT hrn hn rb ob hr ho hne
 go_enter Tryz.func157,Tryz.ntmps157
 go_wp2
 go_loopw [15] (fun i wr=>∃ k:Nat,i=.int .i64 k∧k≤n∧Tpd W (W.heap.size+1) W.heap.size br bo cr r out (iot k n) wr) (fun i _=>n - (intOf i).toNat)
 case atStart=>exact⟨0,rfl,by omega,HT0.out.to (by simp [iot,iota])⟩
 case round=>
  obtain⟨k,rfl,hk,hT⟩:=hrel
  have HT:=zH hT
  clear hT HT0
  by_cases hlt:k<n
  ·have hltI:(k:Int)<(n:Int):=by omega
   have c1:=HT.out.dat.at (j:=k) (x:=0) (by simp [iot,iota_len,List.getElem?_append_right,List.getElem?_replicate,Nat.sub_pos_of_lt hlt])
   have f1:=HT.out.dat.froz k
   have HW:=zH ((HT.out.write k k).to (iot_set hlt))
   clear hmk
   go_wp2
   go_roundw
   case rel=>exact⟨k+1,by first|rfl|go_num,by omega,by first|exact HW.out⟩
   case measure=>simp [intOf]<;>omega
  ·have hltI:decide ((k:Int)<(n:Int))=false:=decide_eq_false (by omega)
   obtain rfl:k=n:=by omega
   have HS:=zH ((HT.out.to (iot_full k)).srt (by rw [iota_len,HR.out]) (fun x hx=>by rw [HR.out];exact iota_mem hx) HRB.out (by rw [HR.out];exact hn2))
   have HTs:=zH fun (W':World) (h:Srt wr (W.heap.size+1) W.heap.size br cr r (stableS (ltR r) (iota k)) W')=>(HT.out.to (iot_full k)).sorted h
   have HSL:Hid ((stableS (ltR r) (iota k)).length=k∧∀ x ∈ stableS (ltR r) (iota k),0≤x∧x<(k:Int)):=zH ⟨by rw [(kin_stable (ltR r) (iota k)).1,iota_len],fun x hx=>iota_mem ((kin_stable (ltR r) (iota k)).2 x hx)⟩
   have HTS:Hid (toppedS out r left=bump out ((stableS (ltR r) (iota k)).take left)):=zH (by unfold toppedS;rw [HO.out])
   have hleftI:(left:Int)≤(k:Int):=by omega
   clear HT hmk
   go_wp2_with (go_at_call 174;(with_reducible refine(sortf_any HS.out (iota_len k) k).mono ?_);rintro e1' w1 ⟨rfl,hS1⟩;have HT1:=zH (HTs.out _ hS1);clear hS1 HTs)
   generalize stableS (ltR r) (iota k)=so at HT1 HSL HTS
   clear HS
   go_loopw [30] (fun i wr=>∃ (q:Nat) (o:List Int),i=.int .i64 q∧q≤left∧Tpd W (W.heap.size+1) W.heap.size br bo cr r o so wr∧o=bump out (so.take q)) (fun i _=>left - (intOf i).toNat)
   case atStart=>exact⟨0,out,rfl,by omega,HT1.out,rfl⟩
   case round=>
    obtain⟨q,o,rfl,hq,hT,hO⟩:=hrel
    have HT:=zH hT
    have HO2:=zH hO
    clear hT hO HT1
    by_cases hlt2:q<left
    ·have hltI:(q:Int)<(left:Int):=by omega
     have hltN:(q:Int)<(k:Int):=by omega
     obtain⟨x,hx⟩:∃ x,so[q]?=some x:=⟨_,List.getElem?_eq_getElem (by have:=HSL.out.1;omega)⟩
     have hx0:=HSL.out.2 x (List.mem_of_getElem? hx)
     obtain⟨i,rfl⟩:∃ i:Nat,x=i:=⟨x.toNat,by omega⟩
     have hi:i<k:=by omega
     have hol:o.length=k:=by rw [HO2.out,bump_len];exact HO.out
     have hob:=bump_range (so.take q) out B HOB.out (fun j hj=>by rw [HO.out];exact HSL.out.2 j (List.mem_of_mem_take hj)) (gd o i) (by rw [← HO2.out];exact gd_mem (by omega))
     have hlq:(so.take q).length≤1048576:=by rw [List.length_take];omega
     have c1:=HT.out.dat.at hx
     have c2:=HT.out.out.at (j:=i) (x:=gd o i) (by simp [gd,List.getElem?_eq_getElem (show i<o.length by omega)])
     have f1:=HT.out.out.froz i
     have HW:=zH (HT.out.bump i (gd o i+1))
     have HB:=zH (bump_take (out:=out) hx)
     have hiI:(i:Int)<(k:Int):=by omega
     have HE:Hid (bump out (so.take (q+1))=o.set i (gd o i+1)):=zH (by rw [HB.out,← HO2.out];simp)
     clear hx HB hx0
     generalize gd o i=u at *
     go_wp2
     go_roundw
     case rel=>exact⟨q+1,_,by first|rfl|go_num,by omega,HW.out,HE.out.symm⟩
     case measure=>simp [intOf]<;>omega
    ·have hltI:decide ((q:Int)<(left:Int))=false:=decide_eq_false (by omega)
     obtain rfl:q=left:=by omega
     go_wp2
     go_end0
     exact⟨rfl,by rw [HTS.out,← HO2.out];exact HT.out.out,HT.out.g⟩
def shareS (total:Int) (ws:List Int):List Int :=
 if sumL ws=0 then List.replicate ws.length 0
 else toppedS (ws.map fun w=>total*w / sumL ws) (ws.map fun w=>total*w % sumL ws) (total - sumL (ws.map fun w=>total*w / sumL ws)).toNat
end Go.Proofs.YtlenbcmgjancmaaGreatDoor
namespace Go.Proofs.YtlenbcmgjancmaaGreatDoor
open Go.RowKit
def NewI (l:List Int) (w:World) (e:Ending) (w':World):Prop :=
 ∃ b:Nat,e=.returned (.slice (some ⟨b,0,none⟩) l.length l.length)∧w.heap.size≤b∧ArrI w' b l∧Below w.heap.size w w'
def part (l:List Int) (k:Nat):List Int:=l.take k ++ List.replicate (l.length - k) 0
theorem part_zero (l:List Int):part l 0=List.replicate l.length 0:=by simp [part]
theorem part_full (l:List Int):part l l.length=l:=by simp [part]
theorem part_full2 {l:List Int} {k:Nat} (h:k=l.length):part l k=l:=by subst h;exact part_full l
theorem part_get {l:List Int} {k:Nat} (h:k<l.length):(part l k)[k]?=some 0:=by
 unfold part
 rw [List.getElem?_append_right (by rw [List.length_take];omega),List.length_take,Nat.min_eq_left (by omega),Nat.sub_self,List.getElem?_replicate,if_pos (by omega)]
theorem part_set {l:List Int} {k:Nat} {x:Int} (h:l[k]?=some x):(part l k).set k x=part l (k+1):=by
 obtain⟨h1,rfl⟩:=List.getElem?_eq_some_iff.1 h
 unfold part
 have hk:(l.take k).length=k:=by rw [List.length_take];omega
 rw [List.set_append_right _ _ (by rw [hk];exact Nat.le_refl _),hk,Nat.sub_self,show l.length - k=(l.length - (k+1))+1 by omega,List.replicate_succ,List.set_cons_zero,List.take_succ_eq_append_getElem h1,List.append_assoc]
 rfl
theorem ArrI.to {W:World} {b:Nat} {l l':List Int} (h:ArrI W b l) (e:l=l'):ArrI W b l':=e ▸ h
structure Two2 (W:World) (p q:Nat) (a b:List Int) (w:World):Prop where
 a:ArrI w p a
 b:ArrI w q b
 np:W.heap.size≤p
 nq:W.heap.size≤q
 ne:p ≠ q
 g:Below W.heap.size W w
set_option maxRecDepth 100000 in
set_option maxHeartbeats 4000000 in
theorem share_any {W:World} {v:Value} {ws:List Int} (hv:SlI W v ws) (total:Int) (ht:0≤total∧total≤34359738368) (hw:∀ x ∈ ws,0≤x∧x≤4194304) (hn:ws.length≤4096) :
  Calls Tryz.prog 129 #[.int .i64 total,v] W (NewI (shareS total ws) W):=by
 have HV:=zH hv
 have HW:=zH hw
 obtain⟨p,c,rfl,_,hx⟩:=hv
 have HX:=zH hx
 obtain⟨n,hnn⟩:∃ n,ws.length=n:=⟨_,rfl⟩
 have HN:=zH hnn
 have HSU:=zH (ssum_any _ ws W HV.out (by omega) (fun x hx=>by have:=hw x hx;omega))
 have hall:=sumL_bound ws 4194304 hw
 have hmk:=mk_ints n (by omega)
 rw [hnn] at HSU hn hall ⊢
 clear hx hw hnn
 by_cases h0:sumL ws=0
 ·have HR:Hid (shareS total ws=List.replicate n 0):=zH (by unfold shareS;rw [if_pos h0,HN.out])
  rw [h0] at HSU
  go_enter Tryz.func129,Tryz.ntmps129
  go_wp2_with (go_at_call 128;((with_reducible refine HSU.out.mono ?_);rintro e1' w1 ⟨rfl,rfl⟩))
  go_ret
  rw [HR.out]
  refine⟨w1.heap.size,by simp,by omega,ArrI.made _ _,?_⟩
  (repeat (first|exact Below.refl _ _|assumption|refine below_drewN ?_ _|refine Below.drew ?_|(refine Below.alloc ?_ ?bs _;(case bs=>first|omega|(simp;done)|(simp;omega)))|(refine Below.setCell ?_ ?bs _;(case bs=>first|omega|(simp;done)|(simp;omega)))))
 ·have hR:shareS total ws=toppedS (ws.map fun w=>total*w / sumL ws) (ws.map fun w=>total*w % sumL ws) (total - sumL (ws.map fun w=>total*w / sumL ws)).toNat:=by unfold shareS;rw [if_neg h0]
  obtain⟨all,hall2⟩:∃ all,sumL ws=all:=⟨_,rfl⟩
  rw [hall2] at hR h0 hall HSU
  have ha0:0<all:=by omega
  obtain⟨O,hO⟩:∃ O,(ws.map fun w=>total*w / all)=O:=⟨_,rfl⟩
  obtain⟨R,hRr⟩:∃ R,(ws.map fun w=>total*w % all)=R:=⟨_,rfl⟩
  have hleft:=floors_left ws (fun w=>w) total all (by rw [← hall2];have:=sumL_map (fun w=>w) ws;simpa using this) ha0
  have hsO:sumL O=sumF (fun w=>total*w / all) ws:=by rw [← hO,sumL_map]
  rw [← hsO] at hleft
  rw [hO,hRr] at hR
  have hOb:∀ x ∈ O,0≤x∧x≤34359738368:=fun x hx=>by
   rw [← hO] at hx
   obtain⟨y,hy,rfl⟩:=List.mem_map.1 hx
   have h1:=HW.out y hy
   have h2:y≤all:=by
    rw [← hall2]
    obtain⟨s,t,rfl⟩:=List.append_of_mem hy
    rw [sumL_append]
    have h3:=sumL_bound s 4194304 fun z hz=>HW.out z (by simp [hz])
    have h4:=sumL_bound t 4194304 fun z hz=>HW.out z (by simp [hz])
    simp only [sumL];omega
   refine⟨Int.ediv_nonneg (Int.mul_nonneg ht.1 h1.1) (by omega),?_⟩
   have h5:total*y / all≤total:=by
    have:total*y≤total*all:=Int.mul_le_mul_of_nonneg_left h2 ht.1
    calc total*y / all≤total*all / all:=Int.ediv_le_ediv ha0 this
     _=total:=Int.mul_ediv_cancel _ (by omega)
   omega
  have hRb:∀ x ∈ R,0≤x∧x≤1099511627776:=fun x hx=>by
   rw [← hRr] at hx
   obtain⟨y,hy,rfl⟩:=List.mem_map.1 hx
   have h1:=Int.emod_nonneg (total*y) (show all ≠ 0 by omega)
   have h2:=Int.emod_lt_of_pos (total*y) ha0
   omega
  have hOl:O.length=n:=by rw [← hO,List.length_map,HN.out]
  have hRl:R.length=n:=by rw [← hRr,List.length_map,HN.out]
  have HO:=zH hO
  have HRr:=zH hRr
  have HR:=zH hR
  have HOb:=zH hOb
  have HRb:=zH hRb
  have HOl:=zH hOl
  have HRl:=zH hRl
  have HLE:=zH hleft
  have hne:(all == 0)=false:=by rw [beq_eq_false_iff_ne];omega
  clear hO hRr hR hOb hRb hOl hRl hleft hsO hall2
  go_enter Tryz.func129,Tryz.ntmps129
  go_wp2_with (go_at_call 128;((with_reducible refine HSU.out.mono ?_);rintro e1' w1 ⟨rfl,rfl⟩))
  have e2:∀ W:World,W.heap.size<(W.alloc (.cells (madeCells #[.int .i64 0] n) 3)).heap.size:=fun W=>by simp
  go_loopw [23] (fun i wr=>∃ k:Nat,i=.int .i64 k∧k≤n∧Two2 w1 w1.heap.size (w1.heap.size+1) (part O k) (part R k) wr) (fun i _=>n - (intOf i).toNat)
  case atStart=>
   refine⟨0,rfl,by omega,?_⟩
   rw [part_zero,part_zero,HOl.out,HRl.out]
   refine⟨(ArrI.made _ _).alloc _,?_,by omega,by omega,by omega,by(repeat (first|exact Below.refl _ _|assumption|refine below_drewN ?_ _|refine Below.drew ?_|(refine Below.alloc ?_ ?bs _;(case bs=>first|omega|(simp;done)|(simp;omega)))|(refine Below.setCell ?_ ?bs _;(case bs=>first|omega|(simp;done)|(simp;omega)))))⟩
   have:=ArrI.made (w1.alloc (.cells (madeCells #[.int .i64 0] n) 3)) n
   simpa using this
  case round=>
   obtain⟨k,rfl,hk,hT⟩:=hrel
   have HT:=zH hT
   clear hT hmk e2
   by_cases hlt:k<n
   ·have hltI:(k:Int)<(n:Int):=by omega
    obtain⟨x,hx⟩:∃ x,ws[k]?=some x:=⟨_,List.getElem?_eq_getElem (by have:=HN.out;omega)⟩
    obtain⟨g,o,rfl,hg,hc0⟩:=HX.out k x hx
    have hc:wr.cell? ⟨g,o+k,none⟩=some (.int .i64 x):=by rw [HT.out.g.cell (p:=⟨g,o+k,none⟩) hg];exact hc0
    have hOk:O[k]?=some (total*x / all):=by rw [← HO.out,List.getElem?_map,hx];rfl
    have hRk:R[k]?=some (total*x % all):=by rw [← HRr.out,List.getElem?_map,hx];rfl
    have c1:=HT.out.a.at (part_get (show k<O.length by rw [HOl.out];exact hlt))
    have c2:=HT.out.b.at (part_get (show k<R.length by rw [HRl.out];exact hlt))
    have f1:=HT.out.a.froz k
    have f2:=HT.out.b.froz k
    have hne2:=HT.out.ne
    have hwx:=HW.out x (List.mem_of_getElem? hx)
    have hm0:0≤total*x:=Int.mul_nonneg ht.1 hwx.1
    have hm1:total*x≤144115188075855872:=by
     have h1:total*x≤34359738368*x:=Int.mul_le_mul_of_nonneg_right ht.2 hwx.1
     omega
    have hd:(total*x).tdiv all=total*x / all:=Int.tdiv_eq_ediv_of_nonneg hm0
    have hr:(total*x).tmod all=total*x % all:=Int.tmod_eq_emod_of_nonneg hm0
    have hqb:=HOb.out _ (List.mem_of_getElem? hOk)
    have HA:=zH ((HT.out.a.put k (total*x / all)).to (part_set hOk))
    have HB:=zH ((HT.out.b.put k (total*x % all)).to (part_set hRk))
    have hRk2:=zH hRk
    clear hx hc0 hOk hRk HB
    generalize total*x / all=q1 at *
    generalize total*x % all=q2 at *
    go_wp2
    go_roundw
    case rel=>exact⟨k+1,by first|rfl|go_num,by omega,HA.out.other hne2 _ _,(ArrI.put (l:=part R k) (HT.out.b.other hne2.symm k _) k _).to (part_set hRk2.out),HT.out.np,HT.out.nq,HT.out.ne,(HT.out.g.setCell (p:=⟨w1.heap.size,k,none⟩) (by simp) _).setCell (p:=⟨w1.heap.size+1,k,none⟩) (by simp) _⟩
    case measure=>simp [intOf]<;>omega
   ·have hltI:decide ((k:Int)<(n:Int))=false:=decide_eq_false (by omega)
    obtain rfl:k=n:=by omega
    have HA:Hid (ArrI wr w1.heap.size O):=zH (HT.out.a.to (part_full2 HOl.out.symm))
    have HB:Hid (ArrI wr (w1.heap.size+1) R):=zH (HT.out.b.to (part_full2 HRl.out.symm))
    have HSU2:=zH (ssum_any _ O wr (HA.out.sl (by rw [HOl.out];omega) k) (by rw [HOl.out];omega) (fun x hx=>by have:=HOb.out x hx;omega))
    have hl0:=HLE.out
    rw [HN.out] at hl0
    have hso:=sumL_bound O 34359738368 HOb.out
    rw [HOl.out] at hso HSU2
    have HTP:=zH (topped_any (co:=k) (cr:=k) HB.out HA.out (by omega) k HOl.out HRl.out (by omega) HRb.out 34359738368 (by omega) HOb.out (L:=total - sumL O) (total - sumL O).toNat (by omega) (by omega))
    generalize sumL O=so at *
    go_wp2_with (first|(go_at_call 128;((with_reducible refine HSU2.out.mono ?_);rintro e1' w2 ⟨rfl,rfl⟩))|(go_at_call 157;((with_reducible refine HTP.out.mono ?_);rintro e1' w3 ⟨rfl,hA3,hg3⟩)))
    go_ret
    rw [HR.out]
    refine⟨w1.heap.size,?_,by omega,hA3,HT.out.g.grown hg3 HT.out.g.size (fun b hb=>by simp at hb;omega)⟩
    rw [show (toppedS O R (total - so).toNat).length=k by unfold toppedS;rw [bump_len];exact HOl.out]
    rfl
end Go.Proofs.YtlenbcmgjancmaaGreatDoor
