import Derived.Test.YtlenbcmgjancmaaGreatDoorMn03
import Derived.LoopTactic
import Derived.Deep.DeepCutAuto
set_option linter.unusedVariables false
set_option linter.unusedSimpArgs false
namespace Go.Proofs.YtlenbcmgjancmaaGreatDoor
open Go.RowKit
def firstV (l:List UInt8):Value:=.tuple #[.int .i32 (firstS l).1,.int .i64 (firstS l).2.1,.bool (firstS l).2.2]
theorem firstV_eq {l:List UInt8} {p:Nat × Nat × Bool} (h:firstS l=p):firstV l=.tuple #[.int .i32 p.1,.int .i64 p.2.1,.bool p.2.2]:=by unfold firstV;rw [h]
theorem mask_31 (b:Nat) (h:b<256):bits .and .i32 (b:Int) 31=(b:Int) % 32:=bits_mask .i32 31 (by decide) wraps_i32 5 (by decide) (b:Int) (by omega) (by simp;omega)
theorem mask_15 (b:Nat) (h:b<256):bits .and .i32 (b:Int) 15=(b:Int) % 16:=bits_mask .i32 31 (by decide) wraps_i32 4 (by decide) (b:Int) (by omega) (by simp;omega)
theorem mask_7 (b:Nat) (h:b<256):bits .and .i32 (b:Int) 7=(b:Int) % 8:=bits_mask .i32 31 (by decide) wraps_i32 3 (by decide) (b:Int) (by omega) (by simp;omega)
theorem join_64 (r c:Nat) (hr:r<33554432):bits .or .i32 ((r:Int)*64) ((c:Int) % 64)=(r:Int)*64+(c:Int) % 64:=bits_join .i32 31 (by decide) wraps_i32 6 _ _ (by omega) (by simp) (by simp;omega) (by omega) (by simp;omega) (by simp;omega)
theorem bnd_next {r m:Nat} (hm:m≤2) (h:r*64 ^ (m+1)<2097152):(r*64+63)*64 ^ m<2097152∧r<32768:=by
 rcases (show m=0∨m=1∨m=2 by omega) with rfl|rfl|rfl<;>simp at h ⊢<;>omega
set_option maxRecDepth 100000 in
set_option maxHeartbeats 2000000 in
theorem first_any (g:Nat) (cap:Array Value) (b:UInt8) (cs:List UInt8) (w:World) (eg:∀ args w,(callFunc g args).run Tryz.prog w=.ok (.enter g args) w)
  (hat:∀ (i:Nat) c,(b :: cs)[i]?=some c→Calls Tryz.prog g (#[.int .i64 i] ++ cap) w (VRet (.int .u8 c.toNat) w)) :
  Calls Tryz.prog 151 #[.func (.func g) #[] cap,.int .i64 ((cs.length+1:Nat):Int)] w (VRet (firstV (b :: cs)) w):=by
 have h0:Hid (Calls Tryz.prog g (#[.int .i64 0] ++ cap) w (VRet (.int .u8 b.toNat) w)):=zH (hat 0 b rfl)
 have HA:=zH hat
 have hbl:b.toNat<256:=b.toNat_lt
 have HL:=zH (lead_any b.toNat hbl)
 clear hat
 obtain⟨n,lo,hi,hl⟩:∃ n lo hi,leadS b.toNat=(n,lo,hi):=⟨_,_,_,rfl⟩
 have HV:=zH (leadV_eq hl)
 have hcases:(n=0∨n=1)∨(n=2∨n=3∨n=4):=by
  have:n=(leadS b.toNat).1:=by rw [hl]
  unfold leadS at this
  revert this
  repeat' split
  all_goals intro h;subst h;decide
 rcases hcases with (rfl|rfl)|hn
 ·have HF:=zH (firstV_eq (l:=b :: cs) (p:=(65533,1,false)) (by simp only [firstS,hl];rfl))
  go_enter Tryz.func151,Tryz.ntmps151
  go_wp2_with (first|(go_at_call 171;((with_reducible refine(HL.out _).mono ?_);rw [HV.out];rintro e w' ⟨rfl,rfl⟩))|((with_reducible refine h0.out.mono ?_);rintro e w' ⟨rfl,rfl⟩))
  go_ret3
  exact⟨by rw [HF.out];rfl,rfl⟩
 ·have HF:=zH (firstV_eq (l:=b :: cs) (p:=(b.toNat,1,false)) (by simp only [firstS,hl];rfl))
  go_enter Tryz.func151,Tryz.ntmps151
  go_wp2_with (first|(go_at_call 171;((with_reducible refine(HL.out _).mono ?_);rw [HV.out];rintro e w' ⟨rfl,rfl⟩))|((with_reducible refine h0.out.mono ?_);rintro e w' ⟨rfl,rfl⟩))
  go_ret3
  exact⟨by rw [HF.out];rfl,rfl⟩
 ·have HF:=zH (firstV_eq (l:=b :: cs) (p:=contS (n - 1) 1 lo hi (b.toNat % maskS n) cs) (by
   simp only [firstS,hl];rw [if_neg (by omega),if_neg (by omega)]))
  have hb256:=hbl
  rcases hn with rfl|rfl|rfl
  ·have hmk:=mask_31 b.toNat hbl
   have hrb:b.toNat % 32*64 ^ (2 - 1)<2097152:=by have:=Nat.mod_lt b.toNat (show 0<32 by decide);omega
   have HRB:=zH hrb
   have hbI:(b.toNat:Int)<256:=by omega
   clear hrb hbl hl hb256
   go_enter Tryz.func151,Tryz.ntmps151
   go_wp2_with (first|(go_at_call 171;((with_reducible refine(HL.out _).mono ?_);rw [HV.out];rintro e w' ⟨rfl,rfl⟩))|((with_reducible refine h0.out.mono ?_);rintro e w' ⟨rfl,rfl⟩))
   clear hmk
   go_loop [9,10,11,12] (fun x9 x10 x11 x12=>∃ k lo' hi' r:Nat,x9=.int .u8 lo'∧x10=.int .u8 hi'∧x11=.int .i32 r∧x12=.int .i64 k∧1≤k∧k≤2∧k≤cs.length+1∧r*64 ^ (2 - k)<2097152∧
    contS (2 - 1) 1 lo hi (b.toNat % maskS 2) cs=contS (2 - k) k lo' hi' r (cs.drop (k - 1))) (fun _ _ _ i=>2 - (intOf i).toNat)
   case atStart=>exact⟨1,lo,hi,b.toNat % 32,rfl,rfl,rfl,rfl,by omega,by omega,by omega,HRB.out,rfl⟩
   case round=>
    obtain⟨k,lo',hi',r,rfl,rfl,rfl,rfl,hk1,hkn,hkc,hr,hc⟩:=hrel
    have HC:=zH hc
    clear hc
    by_cases hlt:k<2
    ·obtain⟨m,hm'⟩:∃ m,2 - k=m+1:=⟨2 - k - 1,by omega⟩
     by_cases hend:k=cs.length+1
     ·have HE:Hid (firstV (b :: cs)=.tuple #[.int .i32 65533,.int .i64 ((cs.length:Int)+1),.bool true]):=zH (by
       rw [HF.out,HC.out,hm',show cs.drop (k - 1)=[] from List.drop_eq_nil_of_le (by omega),hend];rfl)
      clear HC hr hm'
      have hend':(k:Int)=(cs.length:Int)+1:=by omega
      go_wp2
      go_ret3
      exact⟨by rw [HE.out];rfl,rfl⟩
     ·obtain⟨c,hcc⟩:∃ c,cs[k - 1]?=some c:=⟨cs[k - 1]'(by omega),by simp⟩
      have hdr:cs.drop (k - 1)=c :: cs.drop k:=by
       rw [List.drop_eq_getElem_cons (by omega:k - 1<cs.length),(List.getElem?_eq_some_iff.1 hcc).2,show k - 1+1=k by omega]
      have HK:Hid (Calls Tryz.prog g (#[.int .i64 k] ++ cap) w' (VRet (.int .u8 c.toNat) w')):=zH (HA.out k c (by rw [show k=k - 1+1 by omega,List.getElem?_cons_succ];exact hcc))
      have hcl:(c.toNat:Int)<256:=by have:=c.toNat_lt;omega
      have hne:((k:Int) == (cs.length:Int)+1)=false:=by simp;omega
      by_cases hbad:c.toNat<lo'∨hi'<c.toNat
      ·have HE:Hid (firstV (b :: cs)=.tuple #[.int .i32 65533,.int .i64 k,.bool false]):=zH (by
        rw [HF.out,HC.out,hm',hdr];simp only [contS];rw [if_pos hbad];rfl)
       clear HC hr hm' hdr hcc
       by_cases hlo:c.toNat<lo'
       ·have hlo':(c.toNat:Int)<(lo':Int):=by omega
        clear hbad
        go_wp2_with (first|((with_reducible refine HK.out.mono ?_);rintro e w2 ⟨rfl,rfl⟩))
        go_ret3
        exact⟨by rw [HE.out];rfl,rfl⟩
       ·have hlo':¬ (c.toNat:Int)<(lo':Int):=by omega
        have hhi':(hi':Int)<(c.toNat:Int):=by omega
        clear hbad
        go_wp2_with (first|((with_reducible refine HK.out.mono ?_);rintro e w2 ⟨rfl,rfl⟩))
        go_ret3
        exact⟨by rw [HE.out];rfl,rfl⟩
      ·have HE:=zH (show contS (2 - 1) 1 lo hi (b.toNat % maskS 2) cs=contS m (k+1) 128 191 (r*64+c.toNat % 64) (cs.drop k) by
        rw [HC.out,hm',hdr];simp only [contS];rw [if_neg hbad])
       have hlo':¬ (c.toNat:Int)<(lo':Int):=by omega
       have hhi':¬ (hi':Int)<(c.toNat:Int):=by omega
       have hbn:=bnd_next (r:=r) (m:=m) (by omega) (by rw [← hm'];exact hr)
       have hr64:(r*64+63)*64 ^ m<2097152:=hbn.1
       have HRS:Hid (r<32768):=zH hbn.2
       clear hbn
       have HM:=zH hm'
       have hk4:(k:Int)<4:=by omega
       have HR:=zH hr64
       clear HC hbad hdr hcc hm' hr64 hr
       go_upto_region 17 with (first|((with_reducible refine HK.out.mono ?_);rintro e w2 ⟨rfl,rfl⟩))
       have hrs:(r:Int)<32768:=by have:=HRS.out;omega
       obtain⟨d,hd⟩:∃ d:Nat,d=c.toNat % 64:=⟨_,rfl⟩
       have hd64:(d:Int)<64:=by omega
       have h63:bits .and .u8 (c.toNat:Int) 63=(d:Int):=(u8_and63 (x:=(c.toNat:Int)) (by omega) (by have:=c.toNat_lt;omega)).trans (by omega)
       obtain⟨q,hq⟩:∃ q:Nat,q=r*64+d:=⟨_,rfl⟩
       have hjn:bits .or .i32 ((r:Int)*64) (d:Int)=(q:Int):=by
        have:=join_64 r d (by omega)
        rw [show ((d:Int) % 64)=(d:Int) by omega] at this
        rw [this,hq];omega
       have HQ:Hid (q=r*64+c.toNat % 64):=zH (by rw [hq,hd])
       clear hq hd
       go_wp2
       go_round
       case rel=>
        have:=HM.out
        refine⟨k+1,128,191,q,rfl,rfl,rfl,by go_num,by omega,by omega,by omega,?_,?_⟩
        ·rw [show 2 - (k+1)=m by omega];rw [HQ.out];exact Nat.lt_of_le_of_lt (Nat.mul_le_mul_right _ (by omega)) HR.out
        ·rw [HE.out,HQ.out,show 2 - (k+1)=m by omega,show k+1 - 1=k by omega]
       case measure=>simp [intOf];omega
    ·obtain rfl:k=2:=by omega
     have HE:Hid (firstV (b :: cs)=.tuple #[.int .i32 r,.int .i64 2,.bool false]):=zH (by
      rw [HF.out,HC.out,Nat.sub_self];rfl)
     clear HC hr
     go_wp2
     go_ret3
     exact⟨by rw [HE.out];rfl,rfl⟩
  ·have hmk:=mask_15 b.toNat hbl
   have hrb:b.toNat % 16*64 ^ (3 - 1)<2097152:=by have:=Nat.mod_lt b.toNat (show 0<16 by decide);omega
   have HRB:=zH hrb
   have hbI:(b.toNat:Int)<256:=by omega
   clear hrb hbl hl hb256
   go_enter Tryz.func151,Tryz.ntmps151
   go_wp2_with (first|(go_at_call 171;((with_reducible refine(HL.out _).mono ?_);rw [HV.out];rintro e w' ⟨rfl,rfl⟩))|((with_reducible refine h0.out.mono ?_);rintro e w' ⟨rfl,rfl⟩))
   clear hmk
   go_loop [9,10,11,12] (fun x9 x10 x11 x12=>∃ k lo' hi' r:Nat,x9=.int .u8 lo'∧x10=.int .u8 hi'∧x11=.int .i32 r∧x12=.int .i64 k∧1≤k∧k≤3∧k≤cs.length+1∧r*64 ^ (3 - k)<2097152∧
    contS (3 - 1) 1 lo hi (b.toNat % maskS 3) cs=contS (3 - k) k lo' hi' r (cs.drop (k - 1))) (fun _ _ _ i=>3 - (intOf i).toNat)
   case atStart=>exact⟨1,lo,hi,b.toNat % 16,rfl,rfl,rfl,rfl,by omega,by omega,by omega,HRB.out,rfl⟩
   case round=>
    obtain⟨k,lo',hi',r,rfl,rfl,rfl,rfl,hk1,hkn,hkc,hr,hc⟩:=hrel
    have HC:=zH hc
    clear hc
    by_cases hlt:k<3
    ·obtain⟨m,hm'⟩:∃ m,3 - k=m+1:=⟨3 - k - 1,by omega⟩
     by_cases hend:k=cs.length+1
     ·have HE:Hid (firstV (b :: cs)=.tuple #[.int .i32 65533,.int .i64 ((cs.length:Int)+1),.bool true]):=zH (by
       rw [HF.out,HC.out,hm',show cs.drop (k - 1)=[] from List.drop_eq_nil_of_le (by omega),hend];rfl)
      clear HC hr hm'
      have hend':(k:Int)=(cs.length:Int)+1:=by omega
      go_wp2
      go_ret3
      exact⟨by rw [HE.out];rfl,rfl⟩
     ·obtain⟨c,hcc⟩:∃ c,cs[k - 1]?=some c:=⟨cs[k - 1]'(by omega),by simp⟩
      have hdr:cs.drop (k - 1)=c :: cs.drop k:=by
       rw [List.drop_eq_getElem_cons (by omega:k - 1<cs.length),(List.getElem?_eq_some_iff.1 hcc).2,show k - 1+1=k by omega]
      have HK:Hid (Calls Tryz.prog g (#[.int .i64 k] ++ cap) w' (VRet (.int .u8 c.toNat) w')):=zH (HA.out k c (by rw [show k=k - 1+1 by omega,List.getElem?_cons_succ];exact hcc))
      have hcl:(c.toNat:Int)<256:=by have:=c.toNat_lt;omega
      have hne:((k:Int) == (cs.length:Int)+1)=false:=by simp;omega
      by_cases hbad:c.toNat<lo'∨hi'<c.toNat
      ·have HE:Hid (firstV (b :: cs)=.tuple #[.int .i32 65533,.int .i64 k,.bool false]):=zH (by
        rw [HF.out,HC.out,hm',hdr];simp only [contS];rw [if_pos hbad];rfl)
       clear HC hr hm' hdr hcc
       by_cases hlo:c.toNat<lo'
       ·have hlo':(c.toNat:Int)<(lo':Int):=by omega
        clear hbad
        go_wp2_with (first|((with_reducible refine HK.out.mono ?_);rintro e w2 ⟨rfl,rfl⟩))
        go_ret3
        exact⟨by rw [HE.out];rfl,rfl⟩
       ·have hlo':¬ (c.toNat:Int)<(lo':Int):=by omega
        have hhi':(hi':Int)<(c.toNat:Int):=by omega
        clear hbad
        go_wp2_with (first|((with_reducible refine HK.out.mono ?_);rintro e w2 ⟨rfl,rfl⟩))
        go_ret3
        exact⟨by rw [HE.out];rfl,rfl⟩
      ·have HE:=zH (show contS (3 - 1) 1 lo hi (b.toNat % maskS 3) cs=contS m (k+1) 128 191 (r*64+c.toNat % 64) (cs.drop k) by
        rw [HC.out,hm',hdr];simp only [contS];rw [if_neg hbad])
       have hlo':¬ (c.toNat:Int)<(lo':Int):=by omega
       have hhi':¬ (hi':Int)<(c.toNat:Int):=by omega
       have hbn:=bnd_next (r:=r) (m:=m) (by omega) (by rw [← hm'];exact hr)
       have hr64:(r*64+63)*64 ^ m<2097152:=hbn.1
       have HRS:Hid (r<32768):=zH hbn.2
       clear hbn
       have HM:=zH hm'
       have hk4:(k:Int)<4:=by omega
       have HR:=zH hr64
       clear HC hbad hdr hcc hm' hr64 hr
       go_upto_region 17 with (first|((with_reducible refine HK.out.mono ?_);rintro e w2 ⟨rfl,rfl⟩))
       have hrs:(r:Int)<32768:=by have:=HRS.out;omega
       obtain⟨d,hd⟩:∃ d:Nat,d=c.toNat % 64:=⟨_,rfl⟩
       have hd64:(d:Int)<64:=by omega
       have h63:bits .and .u8 (c.toNat:Int) 63=(d:Int):=(u8_and63 (x:=(c.toNat:Int)) (by omega) (by have:=c.toNat_lt;omega)).trans (by omega)
       obtain⟨q,hq⟩:∃ q:Nat,q=r*64+d:=⟨_,rfl⟩
       have hjn:bits .or .i32 ((r:Int)*64) (d:Int)=(q:Int):=by
        have:=join_64 r d (by omega)
        rw [show ((d:Int) % 64)=(d:Int) by omega] at this
        rw [this,hq];omega
       have HQ:Hid (q=r*64+c.toNat % 64):=zH (by rw [hq,hd])
       clear hq hd
       go_wp2
       go_round
       case rel=>
        have:=HM.out
        refine⟨k+1,128,191,q,rfl,rfl,rfl,by go_num,by omega,by omega,by omega,?_,?_⟩
        ·rw [show 3 - (k+1)=m by omega];rw [HQ.out];exact Nat.lt_of_le_of_lt (Nat.mul_le_mul_right _ (by omega)) HR.out
        ·rw [HE.out,HQ.out,show 3 - (k+1)=m by omega,show k+1 - 1=k by omega]
       case measure=>simp [intOf];omega
    ·obtain rfl:k=3:=by omega
     have HE:Hid (firstV (b :: cs)=.tuple #[.int .i32 r,.int .i64 3,.bool false]):=zH (by
      rw [HF.out,HC.out,Nat.sub_self];rfl)
     clear HC hr
     go_wp2
     go_ret3
     exact⟨by rw [HE.out];rfl,rfl⟩
  ·have hmk:=mask_7 b.toNat hbl
   have hrb:b.toNat % 8*64 ^ (4 - 1)<2097152:=by have:=Nat.mod_lt b.toNat (show 0<8 by decide);omega
   have HRB:=zH hrb
   have hbI:(b.toNat:Int)<256:=by omega
   clear hrb hbl hl hb256
   go_enter Tryz.func151,Tryz.ntmps151
   go_wp2_with (first|(go_at_call 171;((with_reducible refine(HL.out _).mono ?_);rw [HV.out];rintro e w' ⟨rfl,rfl⟩))|((with_reducible refine h0.out.mono ?_);rintro e w' ⟨rfl,rfl⟩))
   clear hmk
   go_loop [9,10,11,12] (fun x9 x10 x11 x12=>∃ k lo' hi' r:Nat,x9=.int .u8 lo'∧x10=.int .u8 hi'∧x11=.int .i32 r∧x12=.int .i64 k∧1≤k∧k≤4∧k≤cs.length+1∧r*64 ^ (4 - k)<2097152∧
    contS (4 - 1) 1 lo hi (b.toNat % maskS 4) cs=contS (4 - k) k lo' hi' r (cs.drop (k - 1))) (fun _ _ _ i=>4 - (intOf i).toNat)
   case atStart=>exact⟨1,lo,hi,b.toNat % 8,rfl,rfl,rfl,rfl,by omega,by omega,by omega,HRB.out,rfl⟩
   case round=>
    obtain⟨k,lo',hi',r,rfl,rfl,rfl,rfl,hk1,hkn,hkc,hr,hc⟩:=hrel
    have HC:=zH hc
    clear hc
    by_cases hlt:k<4
    ·obtain⟨m,hm'⟩:∃ m,4 - k=m+1:=⟨4 - k - 1,by omega⟩
     by_cases hend:k=cs.length+1
     ·have HE:Hid (firstV (b :: cs)=.tuple #[.int .i32 65533,.int .i64 ((cs.length:Int)+1),.bool true]):=zH (by
       rw [HF.out,HC.out,hm',show cs.drop (k - 1)=[] from List.drop_eq_nil_of_le (by omega),hend];rfl)
      clear HC hr hm'
      have hend':(k:Int)=(cs.length:Int)+1:=by omega
      go_wp2
      go_ret3
      exact⟨by rw [HE.out];rfl,rfl⟩
     ·obtain⟨c,hcc⟩:∃ c,cs[k - 1]?=some c:=⟨cs[k - 1]'(by omega),by simp⟩
      have hdr:cs.drop (k - 1)=c :: cs.drop k:=by
       rw [List.drop_eq_getElem_cons (by omega:k - 1<cs.length),(List.getElem?_eq_some_iff.1 hcc).2,show k - 1+1=k by omega]
      have HK:Hid (Calls Tryz.prog g (#[.int .i64 k] ++ cap) w' (VRet (.int .u8 c.toNat) w')):=zH (HA.out k c (by rw [show k=k - 1+1 by omega,List.getElem?_cons_succ];exact hcc))
      have hcl:(c.toNat:Int)<256:=by have:=c.toNat_lt;omega
      have hne:((k:Int) == (cs.length:Int)+1)=false:=by simp;omega
      by_cases hbad:c.toNat<lo'∨hi'<c.toNat
      ·have HE:Hid (firstV (b :: cs)=.tuple #[.int .i32 65533,.int .i64 k,.bool false]):=zH (by
        rw [HF.out,HC.out,hm',hdr];simp only [contS];rw [if_pos hbad];rfl)
       clear HC hr hm' hdr hcc
       by_cases hlo:c.toNat<lo'
       ·have hlo':(c.toNat:Int)<(lo':Int):=by omega
        clear hbad
        go_wp2_with (first|((with_reducible refine HK.out.mono ?_);rintro e w2 ⟨rfl,rfl⟩))
        go_ret3
        exact⟨by rw [HE.out];rfl,rfl⟩
       ·have hlo':¬ (c.toNat:Int)<(lo':Int):=by omega
        have hhi':(hi':Int)<(c.toNat:Int):=by omega
        clear hbad
        go_wp2_with (first|((with_reducible refine HK.out.mono ?_);rintro e w2 ⟨rfl,rfl⟩))
        go_ret3
        exact⟨by rw [HE.out];rfl,rfl⟩
      ·have HE:=zH (show contS (4 - 1) 1 lo hi (b.toNat % maskS 4) cs=contS m (k+1) 128 191 (r*64+c.toNat % 64) (cs.drop k) by
        rw [HC.out,hm',hdr];simp only [contS];rw [if_neg hbad])
       have hlo':¬ (c.toNat:Int)<(lo':Int):=by omega
       have hhi':¬ (hi':Int)<(c.toNat:Int):=by omega
       have hbn:=bnd_next (r:=r) (m:=m) (by omega) (by rw [← hm'];exact hr)
       have hr64:(r*64+63)*64 ^ m<2097152:=hbn.1
       have HRS:Hid (r<32768):=zH hbn.2
       clear hbn
       have HM:=zH hm'
       have hk4:(k:Int)<4:=by omega
       have HR:=zH hr64
       clear HC hbad hdr hcc hm' hr64 hr
       go_upto_region 17 with (first|((with_reducible refine HK.out.mono ?_);rintro e w2 ⟨rfl,rfl⟩))
       have hrs:(r:Int)<32768:=by have:=HRS.out;omega
       obtain⟨d,hd⟩:∃ d:Nat,d=c.toNat % 64:=⟨_,rfl⟩
       have hd64:(d:Int)<64:=by omega
       have h63:bits .and .u8 (c.toNat:Int) 63=(d:Int):=(u8_and63 (x:=(c.toNat:Int)) (by omega) (by have:=c.toNat_lt;omega)).trans (by omega)
       obtain⟨q,hq⟩:∃ q:Nat,q=r*64+d:=⟨_,rfl⟩
       have hjn:bits .or .i32 ((r:Int)*64) (d:Int)=(q:Int):=by
        have:=join_64 r d (by omega)
        rw [show ((d:Int) % 64)=(d:Int) by omega] at this
        rw [this,hq];omega
       have HQ:Hid (q=r*64+c.toNat % 64):=zH (by rw [hq,hd])
       clear hq hd
       go_wp2
       go_round
       case rel=>
        have:=HM.out
        refine⟨k+1,128,191,q,rfl,rfl,rfl,by go_num,by omega,by omega,by omega,?_,?_⟩
        ·rw [show 4 - (k+1)=m by omega];rw [HQ.out];exact Nat.lt_of_le_of_lt (Nat.mul_le_mul_right _ (by omega)) HR.out
        ·rw [HE.out,HQ.out,show 4 - (k+1)=m by omega,show k+1 - 1=k by omega]
       case measure=>simp [intOf];omega
    ·obtain rfl:k=4:=by omega
     have HE:Hid (firstV (b :: cs)=.tuple #[.int .i32 r,.int .i64 4,.bool false]):=zH (by
      rw [HF.out,HC.out,Nat.sub_self];rfl)
     clear HC hr
     go_wp2
     go_ret3
     exact⟨by rw [HE.out];rfl,rfl⟩
end Go.Proofs.YtlenbcmgjancmaaGreatDoor
