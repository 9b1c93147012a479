import Derived.Test.YtlenbcmgjancmaaGreatDoorMn06
import Derived.WalkMore
import Derived.Deep.LoopGhost
set_option linter.unusedVariables false
set_option linter.unusedSimpArgs false
namespace Go.Proofs.YtlenbcmgjancmaaGreatDoor
open Go.RowKit
def RdR (w:World) (g o:Nat) (rs:List Nat):Prop:=∀ (i r:Nat),rs[i]?=some r→w.cell? ⟨g,o+i,none⟩=some (.int .i32 r)
theorem RdR.below {w w':World} {g o B:Nat} {rs:List Nat} (h:RdR w g o rs) (hb:Below B w w') (hg:g<B):RdR w' g o rs:=fun i r hr=>(hb.cell (p:=⟨g,o+i,none⟩) hg).trans (h i r hr)
theorem picture_any (b:Nat) (p:Bool) (hp:picS b=p) (hb:b≤9) (w:World):Calls Tryz.prog 173 #[.int .i8 b] w (VRet (.bool p) w):=by
 subst hp
 rcases (show b=0∨b=1∨b=2∨b=3∨b=4∨b=5∨b=6∨b=7∨b=8∨b=9 by omega) with rfl|rfl|rfl|rfl|rfl|rfl|rfl|rfl|rfl|rfl
 all_goals
  go_enter Tryz.func173,Tryz.ntmps173
  go_wp2
  go_ret
  exact⟨rfl,rfl⟩
def lenV (p:Nat × Nat):Value:=.tuple #[.int .i64 p.1,.int .i64 p.2]
def begS (r:Nat) (rs:List Nat):Nat × Nat :=
 match rs with
 | []=>(1,ofS r)
 |x :: _=>if (kindS r == 6 && kindS x == 6)=true then (2,2) else if (kindS r == 8 && x == 65039)=true then (1,2) else (1,ofS r)
def grownS (b:Nat) (l:List Nat) (n:Nat):Nat:=match l[n - 1]? with|some p=>growS b (kindS p) n (l.drop n)|none=>n
theorem lengthS_grown (r:Nat) (rs:List Nat) (h:kindS r ≠ 1):lengthS (r :: rs)=(grownS (kindS r) (r :: rs) (begS r rs).1,(begS r rs).2):=by
 simp only [lengthS,if_neg h]
 cases rs with
 |nil=>simp [begS,grownS,growS]
 |cons x xs=>
  simp only [begS]
  by_cases hf:(kindS r == 6 && kindS x == 6)=true
  ·have hx:kindS x=6:=by simp at hf;exact hf.2
   rw [if_pos hf,if_pos hf,if_pos hf]
   simp [grownS,hx]
  ·rw [if_neg hf,if_neg hf,if_neg hf]
   split<;>simp [grownS]
theorem grownS_stop {b:Nat} {l:List Nat} {n:Nat} (hn:1≤n) (hl:n≤l.length) (h:n=l.length∨16≤n∨∃ p k,l[n - 1]?=some p∧l[n]?=some k∧okS b (kindS p) (kindS k)=false):grownS b l n=n:=by
 unfold grownS
 cases hp:l[n - 1]? with
 |none=>rfl
 |some p=>
  simp only
  rcases h with h|h|⟨p',k,h1,h2,h3⟩
  ·rw [List.drop_eq_nil_of_le (by omega)];rfl
  ·cases hd:l.drop n with
   |nil=>rfl
   |cons x xs=>simp only [growS];rw [if_neg (by omega)]
  ·rw [hp] at h1
   obtain rfl:p=p':=Option.some.inj h1
   obtain⟨hlt,hx⟩:=List.getElem?_eq_some_iff.1 h2
   rw [List.drop_eq_getElem_cons hlt,hx]
   simp only [growS]
   rw [if_neg (by simp [h3])]
theorem grownS_step {b:Nat} {l:List Nat} {n p k:Nat} (h16:n<16) (h1:l[n - 1]?=some p) (h2:l[n]?=some k) (h3:okS b (kindS p) (kindS k)=true):grownS b l n=grownS b l (n+1):=by
 obtain⟨hlt,hx⟩:=List.getElem?_eq_some_iff.1 h2
 have e1:grownS b l n=growS b (kindS p) n (l.drop n):=by unfold grownS;rw [h1]
 have e2:grownS b l (n+1)=growS b (kindS k) (n+1) (l.drop (n+1)):=by unfold grownS;rw [show n+1 - 1=n by omega,h2]
 rw [e1,e2,List.drop_eq_getElem_cons hlt,hx]
 simp only [growS]
 rw [if_pos ⟨h16,h3⟩]
set_option maxRecDepth 100000 in
set_option maxHeartbeats 4000000 in
theorem length_any (g o c r n:Nat) (rs:List Nat) (hn:(r :: rs).length=n) (w:World) (hg:g<w.heap.size) (hR:RdR w g o (r :: rs)) (hm:n≤1000000000000) (hlt:∀ x ∈ r :: rs,x<2147483648) :
  Calls Tryz.prog 156 #[.slice (some ⟨g,o,none⟩) n c] w (VBel (lenV (lengthS (r :: rs))) w):=by
 have hc0:w.cell? ⟨g,o,none⟩=some (.int .i32 r):=hR 0 r rfl
 have hr:r<2147483648:=hlt r (by simp)
 have K0:=fun k hk=>kind_at (r:Int) (by omega) (by omega) k hk
 have h0n:0<n:=by simp at hn;omega
 by_cases h1:kindS r=1
 ·have K1:=zH (K0 1 h1)
  have HL:Hid (lengthS (r :: rs)=(1,0)):=zH (by simp only [lengthS,if_pos h1])
  clear h1 K0 hR hlt hn
  go_enter Tryz.func156,Tryz.ntmps156
  go_wp2
  go_step3
  go_wp2_with ((go_at_call 85;((with_reducible refine(K1.out _).mono ?_);rintro e w1 ⟨rfl,hb1⟩;obtain⟨hc1,hf1⟩:=bcell hb1;have hg1:=Nat.lt_of_lt_of_le hg hb1.size)))
  (try rw [Exit.noGoto_ret])
  go_ret2
  exact⟨by rw [HL.out];rfl,hb1⟩
 ·have HL:=zH (lengthS_grown r rs h1)
  -- the numbers ahead of the growing
  obtain⟨n0,w0,hnw⟩:∃ n0 w0,begS r rs=(n0,w0):=⟨_,_,rfl⟩
  have HB:=zH hnw
  have KO:=zH (of_any (r:Int) (by omega) (by omega))
  have HRd:=zH hR
  have HLt:=zH hlt
  obtain⟨b,hb⟩:∃ b,kindS r=b:=⟨_,rfl⟩
  have K1:=zH (K0 b hb)
  have hb9:b≤9:=hb ▸ kindS_le r
  have hb1:¬ b=1:=hb ▸ h1
  have hb1I:((b:Int) == 1)=false:=by simp;omega
  rw [hb] at HL
  have HLN:=zH hn
  have hbs:b=6∨b=8∨(¬ b=6∧¬ b=8):=by omega
  by_cases hrs:rs=[]
  ·have hbg:begS r rs=(1,ofS r):=by rw [hrs];rfl
   rw [hnw] at hbg
   obtain⟨rfl,rfl⟩:=Prod.mk.inj hbg
   obtain rfl:n=1:=by rw [hrs] at hn;simpa using hn.symm
   rcases hbs with rfl|rfl|⟨h6,h8⟩
   ·clear h1 hb K0 hlt hnw hbg hrs hR hn
    go_enter Tryz.func156,Tryz.ntmps156
    go_wp2
    go_step3
    go_wp2_with (first|(go_at_call 85;((with_reducible refine(K1.out _).mono ?_);rintro e w1 ⟨rfl,hb1⟩;obtain⟨hc1,hf1⟩:=bcell hb1;have hg1:=Nat.lt_of_lt_of_le hg hb1.size))|(go_at_call 172;((with_reducible refine(KO.out _).mono ?_);rintro e w2 ⟨rfl,hb2⟩;obtain⟨hc2,hf2⟩:=bcell hb2))|(go_at_call 85;((with_reducible refine(KX.out _).mono ?_);rintro e w2' ⟨rfl,hb2'⟩)))
    go_step3
    go_wp2
    have HE:Hid (lengthS (r :: rs)=(1,ofS r)):=zH (by rw [HL.out,HB.out,grownS_stop (Nat.le_refl 1) (by have:=HLN.out;omega) (.inl (by have:=HLN.out;omega))])
    go_loopw [5] (fun v wr=>v=.int .i64 1∧Below w.heap.size w wr) (fun _ _=>0)
    case atStart=>exact⟨rfl,hb1.trans (hb2.mono hb1.size)⟩
    case round=>
     obtain⟨rfl,hbe⟩:=hrel
     go_wp2
     (try rw [Exit.noGoto_ret])
     go_ret2
     exact⟨by rw [HE.out];rfl,hbe⟩
   ·clear h1 hb K0 hlt hnw hbg hrs hR hn
    go_enter Tryz.func156,Tryz.ntmps156
    go_wp2
    go_step3
    go_wp2_with (first|(go_at_call 85;((with_reducible refine(K1.out _).mono ?_);rintro e w1 ⟨rfl,hb1⟩;obtain⟨hc1,hf1⟩:=bcell hb1;have hg1:=Nat.lt_of_lt_of_le hg hb1.size))|(go_at_call 172;((with_reducible refine(KO.out _).mono ?_);rintro e w2 ⟨rfl,hb2⟩;obtain⟨hc2,hf2⟩:=bcell hb2))|(go_at_call 85;((with_reducible refine(KX.out _).mono ?_);rintro e w2' ⟨rfl,hb2'⟩)))
    go_step3
    go_wp2
    have HE:Hid (lengthS (r :: rs)=(1,ofS r)):=zH (by rw [HL.out,HB.out,grownS_stop (Nat.le_refl 1) (by have:=HLN.out;omega) (.inl (by have:=HLN.out;omega))])
    go_loopw [5] (fun v wr=>v=.int .i64 1∧Below w.heap.size w wr) (fun _ _=>0)
    case atStart=>exact⟨rfl,hb1.trans (hb2.mono hb1.size)⟩
    case round=>
     obtain⟨rfl,hbe⟩:=hrel
     go_wp2
     (try rw [Exit.noGoto_ret])
     go_ret2
     exact⟨by rw [HE.out];rfl,hbe⟩
   ·have h6I:((b:Int) == 6)=false:=by simp;omega
    have h8I:((b:Int) == 8)=false:=by simp;omega
    clear h1 hb K0 hlt hnw hbg hrs hR hn h6 h8
    go_enter Tryz.func156,Tryz.ntmps156
    go_wp2
    go_step3
    go_wp2_with (first|(go_at_call 85;((with_reducible refine(K1.out _).mono ?_);rintro e w1 ⟨rfl,hb1⟩;obtain⟨hc1,hf1⟩:=bcell hb1;have hg1:=Nat.lt_of_lt_of_le hg hb1.size))|(go_at_call 172;((with_reducible refine(KO.out _).mono ?_);rintro e w2 ⟨rfl,hb2⟩;obtain⟨hc2,hf2⟩:=bcell hb2))|(go_at_call 85;((with_reducible refine(KX.out _).mono ?_);rintro e w2' ⟨rfl,hb2'⟩)))
    go_step3
    go_wp2
    have HE:Hid (lengthS (r :: rs)=(1,ofS r)):=zH (by rw [HL.out,HB.out,grownS_stop (Nat.le_refl 1) (by have:=HLN.out;omega) (.inl (by have:=HLN.out;omega))])
    go_loopw [5] (fun v wr=>v=.int .i64 1∧Below w.heap.size w wr) (fun _ _=>0)
    case atStart=>exact⟨rfl,hb1.trans (hb2.mono hb1.size)⟩
    case round=>
     obtain⟨rfl,hbe⟩:=hrel
     go_wp2
     (try rw [Exit.noGoto_ret])
     go_ret2
     exact⟨by rw [HE.out];rfl,hbe⟩
  ·obtain⟨x,xs,hxs⟩:∃ x xs,rs=x :: xs:=by
    cases rs with
    |nil=>exact absurd rfl hrs
    |cons x xs=>exact⟨x,xs,rfl⟩
   have hx1:(r :: rs)[1]?=some x:=by rw [hxs];rfl
   have hcx:w.cell? ⟨g,o+1,none⟩=some (.int .i32 x):=hR 1 x hx1
   have hx31:=hlt x (List.mem_of_getElem? hx1)
   have h1n:1<n:=by rw [hxs] at hn;simp at hn;omega
   have h1nI:(1:Int)<(n:Int):=by omega
   have h1nD:decide ((1:Int)<(n:Int))=true:=by simp;omega
   have hbg:begS r rs=(if (b == 6 && kindS x == 6)=true then (2,2) else if (b == 8 && x == 65039)=true then (1,2) else (1,ofS r)):=by rw [hxs,← hb];rfl
   rw [hnw] at hbg
   rcases hbs with rfl|rfl|⟨h6,h8⟩
   ·by_cases hx6:kindS x=6
    ·have KX:=zH (kind_at (x:Int) (by omega) (by omega) 6 hx6)
     rw [if_pos (by simp [hx6])] at hbg
     obtain⟨rfl,rfl⟩:=Prod.mk.inj hbg
     clear h1 hb K0 hlt hnw hbg hrs hR hn hx6 hxs hx1
     go_enter Tryz.func156,Tryz.ntmps156
     go_wp2
     go_step3
     go_wp2_with (first|(go_at_call 85;((with_reducible refine(K1.out _).mono ?_);rintro e w1 ⟨rfl,hb1⟩;obtain⟨hc1,hf1⟩:=bcell hb1;have hg1:=Nat.lt_of_lt_of_le hg hb1.size))|(go_at_call 172;((with_reducible refine(KO.out _).mono ?_);rintro e w2 ⟨rfl,hb2⟩;obtain⟨hc2,hf2⟩:=bcell hb2))|(go_at_call 85;((with_reducible refine(KX.out _).mono ?_);rintro e w2' ⟨rfl,hb2'⟩)))
     go_step3
     go_wp2
     go_loopw [5] (fun v wr=>∃ m:Nat,v=.int .i64 m∧1≤m∧m≤n∧Hid (grownS 6 (r :: rs) 2=grownS 6 (r :: rs) m)∧Below w.heap.size w wr) (fun v _=>n - (intOf v).toNat)
     case atStart=>exact⟨2,rfl,by omega,by omega,rfl,(hb1.trans (hb2.mono hb1.size)).trans (hb2'.mono (Nat.le_trans hb1.size hb2.size))⟩
     case round=>
      obtain⟨m,rfl,hm1,hmn,HG,hbe⟩:=hrel
      have HBE:=zH hbe
      have hgr:g<wr.heap.size:=Nat.lt_of_lt_of_le hg hbe.size
      by_cases hlt:m<n
      ·by_cases h16:m<16
       ·obtain⟨y,hy⟩:∃ y,(r :: rs)[m]?=some y:=⟨_,List.getElem?_eq_getElem (by have:=HLN.out;omega)⟩
        obtain⟨z,hz⟩:∃ z,(r :: rs)[m - 1]?=some z:=⟨_,List.getElem?_eq_getElem (by have:=HLN.out;omega)⟩
        have hcy:wr.cell? ⟨g,o+m,none⟩=some (.int .i32 y):=(hbe.cell (p:=⟨g,o+m,none⟩) hg).trans (HRd.out m y hy)
        have hcz:wr.cell? ⟨g,o+(m - 1),none⟩=some (.int .i32 z):=(hbe.cell (p:=⟨g,o+(m - 1),none⟩) hg).trans (HRd.out (m - 1) z hz)
        have hy31:=HLt.out y (List.mem_of_getElem? hy)
        have hz31:=HLt.out z (List.mem_of_getElem? hz)
        clear hbe
        rcases (show (kindS (y:Int)=0∨kindS (y:Int)=1∨kindS (y:Int)=6∨kindS (y:Int)=9)∨(kindS (y:Int)=2∨kindS (y:Int)=3∨kindS (y:Int)=4)∨kindS (y:Int)=5∨kindS (y:Int)=7∨kindS (y:Int)=8 from by have:=kindS_cases (y:Int);omega) with h|h|h|h
        ·rcases h with h|h|h|h
         all_goals
          have HE:Hid (lengthS (r :: rs)=(m,2)):=zH (by rw [HL.out,HB.out,HG.out,grownS_stop hm1 (by have:=HLN.out;omega) (.inr (.inr ⟨z,y,hz,hy,by simp [okS,h,picS]⟩))])
          have KY:=zH (kind_at (y:Int) (by omega) (by omega) _ h)
          clear h hy hz hy31 hz31 
          go_wp2_with (first|(go_at_call 85;((with_reducible refine(KY.out _).mono ?_);rintro e w3 ⟨rfl,hb3⟩;obtain⟨hc3,hf3⟩:=bcell hb3))|(go_at_call 85;((with_reducible refine(KZ.out _).mono ?_);rintro e w4 ⟨rfl,hb4⟩))|(go_at_call 173;((with_reducible refine(HPIC.out _).mono ?_);rintro e w' ⟨rfl,rfl⟩)))
          (try rw [Exit.noGoto_ret])
          go_ret2
          exact⟨by rw [HE.out];rfl,HBE.out.trans (hb3.mono HBE.out.size)⟩
        ·rcases h with h|h|h
         all_goals
          have HN:Hid (grownS 6 (r :: rs) m=grownS 6 (r :: rs) (m+1)):=zH (grownS_step h16 hz hy (by simp [okS,h,picS]))
          have KY:=zH (kind_at (y:Int) (by omega) (by omega) _ h)
          clear h hy hz hy31 hz31 
          go_wp2_with (first|(go_at_call 85;((with_reducible refine(KY.out _).mono ?_);rintro e w3 ⟨rfl,hb3⟩;obtain⟨hc3,hf3⟩:=bcell hb3))|(go_at_call 85;((with_reducible refine(KZ.out _).mono ?_);rintro e w4 ⟨rfl,hb4⟩))|(go_at_call 173;((with_reducible refine(HPIC.out _).mono ?_);rintro e w' ⟨rfl,rfl⟩)))
          go_roundw
          case rel=>exact⟨m+1,by go_num,by omega,by omega,HG.out.trans HN.out,HBE.out.trans (hb3.mono HBE.out.size)⟩
          case measure=>simp [intOf];omega
        ·skip
         cases hpic:picS 6
         ·have HPIC:Hid (∀ w,Calls Tryz.prog 173 #[.int .i8 6] w (VRet (.bool false) w)):=zH (picture_any 6 false hpic (by omega))
          have HE:Hid (lengthS (r :: rs)=(m,2)):=zH (by rw [HL.out,HB.out,HG.out,grownS_stop hm1 (by have:=HLN.out;omega) (.inr (.inr ⟨z,y,hz,hy,by simp [okS,h,hpic]⟩))])
          have KY:=zH (kind_at (y:Int) (by omega) (by omega) _ h)
          clear h hy hz hy31 hz31 hpic
          go_wp2_with (first|(go_at_call 85;((with_reducible refine(KY.out _).mono ?_);rintro e w3 ⟨rfl,hb3⟩;obtain⟨hc3,hf3⟩:=bcell hb3))|(go_at_call 85;((with_reducible refine(KZ.out _).mono ?_);rintro e w4 ⟨rfl,hb4⟩))|(go_at_call 173;((with_reducible refine(HPIC.out _).mono ?_);rintro e w' ⟨rfl,rfl⟩)))
          (try rw [Exit.noGoto_ret])
          go_ret2
          exact⟨by rw [HE.out];rfl,HBE.out.trans (hb3.mono HBE.out.size)⟩
         ·have HPIC:Hid (∀ w,Calls Tryz.prog 173 #[.int .i8 6] w (VRet (.bool true) w)):=zH (picture_any 6 true hpic (by omega))
          have HN:Hid (grownS 6 (r :: rs) m=grownS 6 (r :: rs) (m+1)):=zH (grownS_step h16 hz hy (by simp [okS,h,hpic]))
          have KY:=zH (kind_at (y:Int) (by omega) (by omega) _ h)
          clear h hy hz hy31 hz31 hpic
          go_wp2_with (first|(go_at_call 85;((with_reducible refine(KY.out _).mono ?_);rintro e w3 ⟨rfl,hb3⟩;obtain⟨hc3,hf3⟩:=bcell hb3))|(go_at_call 85;((with_reducible refine(KZ.out _).mono ?_);rintro e w4 ⟨rfl,hb4⟩))|(go_at_call 173;((with_reducible refine(HPIC.out _).mono ?_);rintro e w' ⟨rfl,rfl⟩)))
          go_roundw
          case rel=>exact⟨m+1,by go_num,by omega,by omega,HG.out.trans HN.out,HBE.out.trans (hb3.mono HBE.out.size)⟩
          case measure=>simp [intOf];omega
        ·rcases h with h|h
         all_goals
          cases hpic:picS 6
          ·have HPIC:Hid (∀ w,Calls Tryz.prog 173 #[.int .i8 6] w (VRet (.bool false) w)):=zH (picture_any 6 false hpic (by omega))
           have HE:Hid (lengthS (r :: rs)=(m,2)):=zH (by rw [HL.out,HB.out,HG.out,grownS_stop hm1 (by have:=HLN.out;omega) (.inr (.inr ⟨z,y,hz,hy,by simp [okS,h,hpic]⟩))])
           have KY:=zH (kind_at (y:Int) (by omega) (by omega) _ h)
           clear h hy hz hy31 hz31 hpic
           go_wp2_with (first|(go_at_call 85;((with_reducible refine(KY.out _).mono ?_);rintro e w3 ⟨rfl,hb3⟩;obtain⟨hc3,hf3⟩:=bcell hb3))|(go_at_call 85;((with_reducible refine(KZ.out _).mono ?_);rintro e w4 ⟨rfl,hb4⟩))|(go_at_call 173;((with_reducible refine(HPIC.out _).mono ?_);rintro e w' ⟨rfl,rfl⟩)))
           (try rw [Exit.noGoto_ret])
           go_ret2
           exact⟨by rw [HE.out];rfl,HBE.out.trans (hb3.mono HBE.out.size)⟩
          ·have HPIC:Hid (∀ w,Calls Tryz.prog 173 #[.int .i8 6] w (VRet (.bool true) w)):=zH (picture_any 6 true hpic (by omega))
           by_cases hz3:kindS (z:Int)=3
           ·have KZ:=zH (kind_at (z:Int) (by omega) (by omega) 3 hz3)
            have HN:Hid (grownS 6 (r :: rs) m=grownS 6 (r :: rs) (m+1)):=zH (grownS_step h16 hz hy (by simp [okS,h,hpic,hz3]))
            have KY:=zH (kind_at (y:Int) (by omega) (by omega) _ h)
            clear h hy hz hy31 hz31 hpic hz3
            go_wp2_with (first|(go_at_call 85;((with_reducible refine(KY.out _).mono ?_);rintro e w3 ⟨rfl,hb3⟩;obtain⟨hc3,hf3⟩:=bcell hb3))|(go_at_call 85;((with_reducible refine(KZ.out _).mono ?_);rintro e w4 ⟨rfl,hb4⟩))|(go_at_call 173;((with_reducible refine(HPIC.out _).mono ?_);rintro e w' ⟨rfl,rfl⟩)))
            go_roundw
            case rel=>exact⟨m+1,by go_num,by omega,by omega,HG.out.trans HN.out,(HBE.out.trans (hb3.mono HBE.out.size)).trans (hb4.mono (Nat.le_trans HBE.out.size hb3.size))⟩
            case measure=>simp [intOf];omega
           ·obtain⟨kz,hkz⟩:∃ kz,kindS (z:Int)=kz:=⟨_,rfl⟩
            have KZ:=zH (kind_at (z:Int) (by omega) (by omega) kz hkz)
            have hz3':¬ kz=3:=hkz ▸ hz3
            have hz4:((kz:Int) == 3)=false:=by simp;omega
            have hz5:((kz:Int) != 3)=true:=by simp;omega
            have HE:Hid (lengthS (r :: rs)=(m,2)):=zH (by rw [HL.out,HB.out,HG.out,grownS_stop hm1 (by have:=HLN.out;omega) (.inr (.inr ⟨z,y,hz,hy,by simp [okS,h,hpic,hz3]⟩))])
            have KY:=zH (kind_at (y:Int) (by omega) (by omega) _ h)
            clear h hy hz hy31 hz31 hpic hz3 hkz hz3'
            go_wp2_with (first|(go_at_call 85;((with_reducible refine(KY.out _).mono ?_);rintro e w3 ⟨rfl,hb3⟩;obtain⟨hc3,hf3⟩:=bcell hb3))|(go_at_call 85;((with_reducible refine(KZ.out _).mono ?_);rintro e w4 ⟨rfl,hb4⟩))|(go_at_call 173;((with_reducible refine(HPIC.out _).mono ?_);rintro e w' ⟨rfl,rfl⟩)))
            (try rw [Exit.noGoto_ret])
            go_ret2
            exact⟨by rw [HE.out];rfl,(HBE.out.trans (hb3.mono HBE.out.size)).trans (hb4.mono (Nat.le_trans HBE.out.size hb3.size))⟩
     
       ·have HE:Hid (lengthS (r :: rs)=(m,2)):=zH (by rw [HL.out,HB.out,HG.out,grownS_stop hm1 (by have:=HLN.out;omega) (.inr (.inl (by have:=HLN.out;omega)))])
        clear hbe
        go_wp2
        (try rw [Exit.noGoto_ret])
        go_ret2
        exact⟨by rw [HE.out];rfl,HBE.out⟩
      ·have HE:Hid (lengthS (r :: rs)=(m,2)):=zH (by rw [HL.out,HB.out,HG.out,grownS_stop hm1 (by have:=HLN.out;omega) (.inl (by have:=HLN.out;omega))])
       obtain rfl:m=n:=by omega
       clear hbe
       go_wp2
       (try rw [Exit.noGoto_ret])
       go_ret2
       exact⟨by rw [HE.out];rfl,HBE.out⟩
    ·obtain⟨kx,hkx⟩:∃ kx,kindS (x:Int)=kx:=⟨_,rfl⟩
     have KX:=zH (kind_at (x:Int) (by omega) (by omega) kx hkx)
     have hx6':¬ kx=6:=hkx ▸ hx6
     have hx7:((kx:Int) == 6)=false:=by simp;omega
     rw [if_neg (by simp [hx6]),if_neg (by simp)] at hbg
     obtain⟨rfl,rfl⟩:=Prod.mk.inj hbg
     clear h1 hb K0 hlt hnw hbg hrs hR hn hx6 hxs hx1 hx6' hkx
     go_enter Tryz.func156,Tryz.ntmps156
     go_wp2
     go_step3
     go_wp2_with (first|(go_at_call 85;((with_reducible refine(K1.out _).mono ?_);rintro e w1 ⟨rfl,hb1⟩;obtain⟨hc1,hf1⟩:=bcell hb1;have hg1:=Nat.lt_of_lt_of_le hg hb1.size))|(go_at_call 172;((with_reducible refine(KO.out _).mono ?_);rintro e w2 ⟨rfl,hb2⟩;obtain⟨hc2,hf2⟩:=bcell hb2))|(go_at_call 85;((with_reducible refine(KX.out _).mono ?_);rintro e w2' ⟨rfl,hb2'⟩)))
     go_step3
     go_wp2
     go_loopw [5] (fun v wr=>∃ m:Nat,v=.int .i64 m∧1≤m∧m≤n∧Hid (grownS 6 (r :: rs) 1=grownS 6 (r :: rs) m)∧Below w.heap.size w wr) (fun v _=>n - (intOf v).toNat)
     case atStart=>exact⟨1,rfl,by omega,by omega,rfl,(hb1.trans (hb2.mono hb1.size)).trans (hb2'.mono (Nat.le_trans hb1.size hb2.size))⟩
     case round=>
      obtain⟨m,rfl,hm1,hmn,HG,hbe⟩:=hrel
      have HBE:=zH hbe
      have hgr:g<wr.heap.size:=Nat.lt_of_lt_of_le hg hbe.size
      by_cases hlt:m<n
      ·by_cases h16:m<16
       ·obtain⟨y,hy⟩:∃ y,(r :: rs)[m]?=some y:=⟨_,List.getElem?_eq_getElem (by have:=HLN.out;omega)⟩
        obtain⟨z,hz⟩:∃ z,(r :: rs)[m - 1]?=some z:=⟨_,List.getElem?_eq_getElem (by have:=HLN.out;omega)⟩
        have hcy:wr.cell? ⟨g,o+m,none⟩=some (.int .i32 y):=(hbe.cell (p:=⟨g,o+m,none⟩) hg).trans (HRd.out m y hy)
        have hcz:wr.cell? ⟨g,o+(m - 1),none⟩=some (.int .i32 z):=(hbe.cell (p:=⟨g,o+(m - 1),none⟩) hg).trans (HRd.out (m - 1) z hz)
        have hy31:=HLt.out y (List.mem_of_getElem? hy)
        have hz31:=HLt.out z (List.mem_of_getElem? hz)
        clear hbe
        rcases (show (kindS (y:Int)=0∨kindS (y:Int)=1∨kindS (y:Int)=6∨kindS (y:Int)=9)∨(kindS (y:Int)=2∨kindS (y:Int)=3∨kindS (y:Int)=4)∨kindS (y:Int)=5∨kindS (y:Int)=7∨kindS (y:Int)=8 from by have:=kindS_cases (y:Int);omega) with h|h|h|h
        ·rcases h with h|h|h|h
         all_goals
          have HE:Hid (lengthS (r :: rs)=(m,ofS r)):=zH (by rw [HL.out,HB.out,HG.out,grownS_stop hm1 (by have:=HLN.out;omega) (.inr (.inr ⟨z,y,hz,hy,by simp [okS,h,picS]⟩))])
          have KY:=zH (kind_at (y:Int) (by omega) (by omega) _ h)
          clear h hy hz hy31 hz31 
          go_wp2_with (first|(go_at_call 85;((with_reducible refine(KY.out _).mono ?_);rintro e w3 ⟨rfl,hb3⟩;obtain⟨hc3,hf3⟩:=bcell hb3))|(go_at_call 85;((with_reducible refine(KZ.out _).mono ?_);rintro e w4 ⟨rfl,hb4⟩))|(go_at_call 173;((with_reducible refine(HPIC.out _).mono ?_);rintro e w' ⟨rfl,rfl⟩)))
          (try rw [Exit.noGoto_ret])
          go_ret2
          exact⟨by rw [HE.out];rfl,HBE.out.trans (hb3.mono HBE.out.size)⟩
        ·rcases h with h|h|h
         all_goals
          have HN:Hid (grownS 6 (r :: rs) m=grownS 6 (r :: rs) (m+1)):=zH (grownS_step h16 hz hy (by simp [okS,h,picS]))
          have KY:=zH (kind_at (y:Int) (by omega) (by omega) _ h)
          clear h hy hz hy31 hz31 
          go_wp2_with (first|(go_at_call 85;((with_reducible refine(KY.out _).mono ?_);rintro e w3 ⟨rfl,hb3⟩;obtain⟨hc3,hf3⟩:=bcell hb3))|(go_at_call 85;((with_reducible refine(KZ.out _).mono ?_);rintro e w4 ⟨rfl,hb4⟩))|(go_at_call 173;((with_reducible refine(HPIC.out _).mono ?_);rintro e w' ⟨rfl,rfl⟩)))
          go_roundw
          case rel=>exact⟨m+1,by go_num,by omega,by omega,HG.out.trans HN.out,HBE.out.trans (hb3.mono HBE.out.size)⟩
          case measure=>simp [intOf];omega
        ·skip
         cases hpic:picS 6
         ·have HPIC:Hid (∀ w,Calls Tryz.prog 173 #[.int .i8 6] w (VRet (.bool false) w)):=zH (picture_any 6 false hpic (by omega))
          have HE:Hid (lengthS (r :: rs)=(m,ofS r)):=zH (by rw [HL.out,HB.out,HG.out,grownS_stop hm1 (by have:=HLN.out;omega) (.inr (.inr ⟨z,y,hz,hy,by simp [okS,h,hpic]⟩))])
          have KY:=zH (kind_at (y:Int) (by omega) (by omega) _ h)
          clear h hy hz hy31 hz31 hpic
          go_wp2_with (first|(go_at_call 85;((with_reducible refine(KY.out _).mono ?_);rintro e w3 ⟨rfl,hb3⟩;obtain⟨hc3,hf3⟩:=bcell hb3))|(go_at_call 85;((with_reducible refine(KZ.out _).mono ?_);rintro e w4 ⟨rfl,hb4⟩))|(go_at_call 173;((with_reducible refine(HPIC.out _).mono ?_);rintro e w' ⟨rfl,rfl⟩)))
          (try rw [Exit.noGoto_ret])
          go_ret2
          exact⟨by rw [HE.out];rfl,HBE.out.trans (hb3.mono HBE.out.size)⟩
         ·have HPIC:Hid (∀ w,Calls Tryz.prog 173 #[.int .i8 6] w (VRet (.bool true) w)):=zH (picture_any 6 true hpic (by omega))
          have HN:Hid (grownS 6 (r :: rs) m=grownS 6 (r :: rs) (m+1)):=zH (grownS_step h16 hz hy (by simp [okS,h,hpic]))
          have KY:=zH (kind_at (y:Int) (by omega) (by omega) _ h)
          clear h hy hz hy31 hz31 hpic
          go_wp2_with (first|(go_at_call 85;((with_reducible refine(KY.out _).mono ?_);rintro e w3 ⟨rfl,hb3⟩;obtain⟨hc3,hf3⟩:=bcell hb3))|(go_at_call 85;((with_reducible refine(KZ.out _).mono ?_);rintro e w4 ⟨rfl,hb4⟩))|(go_at_call 173;((with_reducible refine(HPIC.out _).mono ?_);rintro e w' ⟨rfl,rfl⟩)))
          go_roundw
          case rel=>exact⟨m+1,by go_num,by omega,by omega,HG.out.trans HN.out,HBE.out.trans (hb3.mono HBE.out.size)⟩
          case measure=>simp [intOf];omega
        ·rcases h with h|h
         all_goals
          cases hpic:picS 6
          ·have HPIC:Hid (∀ w,Calls Tryz.prog 173 #[.int .i8 6] w (VRet (.bool false) w)):=zH (picture_any 6 false hpic (by omega))
           have HE:Hid (lengthS (r :: rs)=(m,ofS r)):=zH (by rw [HL.out,HB.out,HG.out,grownS_stop hm1 (by have:=HLN.out;omega) (.inr (.inr ⟨z,y,hz,hy,by simp [okS,h,hpic]⟩))])
           have KY:=zH (kind_at (y:Int) (by omega) (by omega) _ h)
           clear h hy hz hy31 hz31 hpic
           go_wp2_with (first|(go_at_call 85;((with_reducible refine(KY.out _).mono ?_);rintro e w3 ⟨rfl,hb3⟩;obtain⟨hc3,hf3⟩:=bcell hb3))|(go_at_call 85;((with_reducible refine(KZ.out _).mono ?_);rintro e w4 ⟨rfl,hb4⟩))|(go_at_call 173;((with_reducible refine(HPIC.out _).mono ?_);rintro e w' ⟨rfl,rfl⟩)))
           (try rw [Exit.noGoto_ret])
           go_ret2
           exact⟨by rw [HE.out];rfl,HBE.out.trans (hb3.mono HBE.out.size)⟩
          ·have HPIC:Hid (∀ w,Calls Tryz.prog 173 #[.int .i8 6] w (VRet (.bool true) w)):=zH (picture_any 6 true hpic (by omega))
           by_cases hz3:kindS (z:Int)=3
           ·have KZ:=zH (kind_at (z:Int) (by omega) (by omega) 3 hz3)
            have HN:Hid (grownS 6 (r :: rs) m=grownS 6 (r :: rs) (m+1)):=zH (grownS_step h16 hz hy (by simp [okS,h,hpic,hz3]))
            have KY:=zH (kind_at (y:Int) (by omega) (by omega) _ h)
            clear h hy hz hy31 hz31 hpic hz3
            go_wp2_with (first|(go_at_call 85;((with_reducible refine(KY.out _).mono ?_);rintro e w3 ⟨rfl,hb3⟩;obtain⟨hc3,hf3⟩:=bcell hb3))|(go_at_call 85;((with_reducible refine(KZ.out _).mono ?_);rintro e w4 ⟨rfl,hb4⟩))|(go_at_call 173;((with_reducible refine(HPIC.out _).mono ?_);rintro e w' ⟨rfl,rfl⟩)))
            go_roundw
            case rel=>exact⟨m+1,by go_num,by omega,by omega,HG.out.trans HN.out,(HBE.out.trans (hb3.mono HBE.out.size)).trans (hb4.mono (Nat.le_trans HBE.out.size hb3.size))⟩
            case measure=>simp [intOf];omega
           ·obtain⟨kz,hkz⟩:∃ kz,kindS (z:Int)=kz:=⟨_,rfl⟩
            have KZ:=zH (kind_at (z:Int) (by omega) (by omega) kz hkz)
            have hz3':¬ kz=3:=hkz ▸ hz3
            have hz4:((kz:Int) == 3)=false:=by simp;omega
            have hz5:((kz:Int) != 3)=true:=by simp;omega
            have HE:Hid (lengthS (r :: rs)=(m,ofS r)):=zH (by rw [HL.out,HB.out,HG.out,grownS_stop hm1 (by have:=HLN.out;omega) (.inr (.inr ⟨z,y,hz,hy,by simp [okS,h,hpic,hz3]⟩))])
            have KY:=zH (kind_at (y:Int) (by omega) (by omega) _ h)
            clear h hy hz hy31 hz31 hpic hz3 hkz hz3'
            go_wp2_with (first|(go_at_call 85;((with_reducible refine(KY.out _).mono ?_);rintro e w3 ⟨rfl,hb3⟩;obtain⟨hc3,hf3⟩:=bcell hb3))|(go_at_call 85;((with_reducible refine(KZ.out _).mono ?_);rintro e w4 ⟨rfl,hb4⟩))|(go_at_call 173;((with_reducible refine(HPIC.out _).mono ?_);rintro e w' ⟨rfl,rfl⟩)))
            (try rw [Exit.noGoto_ret])
            go_ret2
            exact⟨by rw [HE.out];rfl,(HBE.out.trans (hb3.mono HBE.out.size)).trans (hb4.mono (Nat.le_trans HBE.out.size hb3.size))⟩
     
       ·have HE:Hid (lengthS (r :: rs)=(m,ofS r)):=zH (by rw [HL.out,HB.out,HG.out,grownS_stop hm1 (by have:=HLN.out;omega) (.inr (.inl (by have:=HLN.out;omega)))])
        clear hbe
        go_wp2
        (try rw [Exit.noGoto_ret])
        go_ret2
        exact⟨by rw [HE.out];rfl,HBE.out⟩
      ·have HE:Hid (lengthS (r :: rs)=(m,ofS r)):=zH (by rw [HL.out,HB.out,HG.out,grownS_stop hm1 (by have:=HLN.out;omega) (.inl (by have:=HLN.out;omega))])
       obtain rfl:m=n:=by omega
       clear hbe
       go_wp2
       (try rw [Exit.noGoto_ret])
       go_ret2
       exact⟨by rw [HE.out];rfl,HBE.out⟩
   ·by_cases hx8:x=65039
    ·rw [if_neg (by simp),if_pos (by simp [hx8])] at hbg
     obtain⟨rfl,rfl⟩:=Prod.mk.inj hbg
     have hx9:((x:Int) == 65039)=true:=by simp;omega
     clear h1 hb K0 hlt hnw hbg hrs hR hn hx8 hxs hx1
     go_enter Tryz.func156,Tryz.ntmps156
     go_wp2
     go_step3
     go_wp2_with (first|(go_at_call 85;((with_reducible refine(K1.out _).mono ?_);rintro e w1 ⟨rfl,hb1⟩;obtain⟨hc1,hf1⟩:=bcell hb1;have hg1:=Nat.lt_of_lt_of_le hg hb1.size))|(go_at_call 172;((with_reducible refine(KO.out _).mono ?_);rintro e w2 ⟨rfl,hb2⟩;obtain⟨hc2,hf2⟩:=bcell hb2))|(go_at_call 85;((with_reducible refine(KX.out _).mono ?_);rintro e w2' ⟨rfl,hb2'⟩)))
     go_step3
     go_wp2
     go_loopw [5] (fun v wr=>∃ m:Nat,v=.int .i64 m∧1≤m∧m≤n∧Hid (grownS 8 (r :: rs) 1=grownS 8 (r :: rs) m)∧Below w.heap.size w wr) (fun v _=>n - (intOf v).toNat)
     case atStart=>exact⟨1,rfl,by omega,by omega,rfl,hb1.trans (hb2.mono hb1.size)⟩
     case round=>
      obtain⟨m,rfl,hm1,hmn,HG,hbe⟩:=hrel
      have HBE:=zH hbe
      have hgr:g<wr.heap.size:=Nat.lt_of_lt_of_le hg hbe.size
      by_cases hlt:m<n
      ·by_cases h16:m<16
       ·obtain⟨y,hy⟩:∃ y,(r :: rs)[m]?=some y:=⟨_,List.getElem?_eq_getElem (by have:=HLN.out;omega)⟩
        obtain⟨z,hz⟩:∃ z,(r :: rs)[m - 1]?=some z:=⟨_,List.getElem?_eq_getElem (by have:=HLN.out;omega)⟩
        have hcy:wr.cell? ⟨g,o+m,none⟩=some (.int .i32 y):=(hbe.cell (p:=⟨g,o+m,none⟩) hg).trans (HRd.out m y hy)
        have hcz:wr.cell? ⟨g,o+(m - 1),none⟩=some (.int .i32 z):=(hbe.cell (p:=⟨g,o+(m - 1),none⟩) hg).trans (HRd.out (m - 1) z hz)
        have hy31:=HLt.out y (List.mem_of_getElem? hy)
        have hz31:=HLt.out z (List.mem_of_getElem? hz)
        clear hbe
        rcases (show (kindS (y:Int)=0∨kindS (y:Int)=1∨kindS (y:Int)=6∨kindS (y:Int)=9)∨(kindS (y:Int)=2∨kindS (y:Int)=3∨kindS (y:Int)=4)∨kindS (y:Int)=5∨kindS (y:Int)=7∨kindS (y:Int)=8 from by have:=kindS_cases (y:Int);omega) with h|h|h|h
        ·rcases h with h|h|h|h
         all_goals
          have HE:Hid (lengthS (r :: rs)=(m,2)):=zH (by rw [HL.out,HB.out,HG.out,grownS_stop hm1 (by have:=HLN.out;omega) (.inr (.inr ⟨z,y,hz,hy,by simp [okS,h,picS]⟩))])
          have KY:=zH (kind_at (y:Int) (by omega) (by omega) _ h)
          clear h hy hz hy31 hz31 
          go_wp2_with (first|(go_at_call 85;((with_reducible refine(KY.out _).mono ?_);rintro e w3 ⟨rfl,hb3⟩;obtain⟨hc3,hf3⟩:=bcell hb3))|(go_at_call 85;((with_reducible refine(KZ.out _).mono ?_);rintro e w4 ⟨rfl,hb4⟩))|(go_at_call 173;((with_reducible refine(HPIC.out _).mono ?_);rintro e w' ⟨rfl,rfl⟩)))
          (try rw [Exit.noGoto_ret])
          go_ret2
          exact⟨by rw [HE.out];rfl,HBE.out.trans (hb3.mono HBE.out.size)⟩
        ·rcases h with h|h|h
         all_goals
          have HN:Hid (grownS 8 (r :: rs) m=grownS 8 (r :: rs) (m+1)):=zH (grownS_step h16 hz hy (by simp [okS,h,picS]))
          have KY:=zH (kind_at (y:Int) (by omega) (by omega) _ h)
          clear h hy hz hy31 hz31 
          go_wp2_with (first|(go_at_call 85;((with_reducible refine(KY.out _).mono ?_);rintro e w3 ⟨rfl,hb3⟩;obtain⟨hc3,hf3⟩:=bcell hb3))|(go_at_call 85;((with_reducible refine(KZ.out _).mono ?_);rintro e w4 ⟨rfl,hb4⟩))|(go_at_call 173;((with_reducible refine(HPIC.out _).mono ?_);rintro e w' ⟨rfl,rfl⟩)))
          go_roundw
          case rel=>exact⟨m+1,by go_num,by omega,by omega,HG.out.trans HN.out,HBE.out.trans (hb3.mono HBE.out.size)⟩
          case measure=>simp [intOf];omega
        ·skip
         cases hpic:picS 8
         ·have HPIC:Hid (∀ w,Calls Tryz.prog 173 #[.int .i8 8] w (VRet (.bool false) w)):=zH (picture_any 8 false hpic (by omega))
          have HE:Hid (lengthS (r :: rs)=(m,2)):=zH (by rw [HL.out,HB.out,HG.out,grownS_stop hm1 (by have:=HLN.out;omega) (.inr (.inr ⟨z,y,hz,hy,by simp [okS,h,hpic]⟩))])
          have KY:=zH (kind_at (y:Int) (by omega) (by omega) _ h)
          clear h hy hz hy31 hz31 hpic
          go_wp2_with (first|(go_at_call 85;((with_reducible refine(KY.out _).mono ?_);rintro e w3 ⟨rfl,hb3⟩;obtain⟨hc3,hf3⟩:=bcell hb3))|(go_at_call 85;((with_reducible refine(KZ.out _).mono ?_);rintro e w4 ⟨rfl,hb4⟩))|(go_at_call 173;((with_reducible refine(HPIC.out _).mono ?_);rintro e w' ⟨rfl,rfl⟩)))
          (try rw [Exit.noGoto_ret])
          go_ret2
          exact⟨by rw [HE.out];rfl,HBE.out.trans (hb3.mono HBE.out.size)⟩
         ·have HPIC:Hid (∀ w,Calls Tryz.prog 173 #[.int .i8 8] w (VRet (.bool true) w)):=zH (picture_any 8 true hpic (by omega))
          have HN:Hid (grownS 8 (r :: rs) m=grownS 8 (r :: rs) (m+1)):=zH (grownS_step h16 hz hy (by simp [okS,h,hpic]))
          have KY:=zH (kind_at (y:Int) (by omega) (by omega) _ h)
          clear h hy hz hy31 hz31 hpic
          go_wp2_with (first|(go_at_call 85;((with_reducible refine(KY.out _).mono ?_);rintro e w3 ⟨rfl,hb3⟩;obtain⟨hc3,hf3⟩:=bcell hb3))|(go_at_call 85;((with_reducible refine(KZ.out _).mono ?_);rintro e w4 ⟨rfl,hb4⟩))|(go_at_call 173;((with_reducible refine(HPIC.out _).mono ?_);rintro e w' ⟨rfl,rfl⟩)))
          go_roundw
          case rel=>exact⟨m+1,by go_num,by omega,by omega,HG.out.trans HN.out,HBE.out.trans (hb3.mono HBE.out.size)⟩
          case measure=>simp [intOf];omega
        ·rcases h with h|h
         all_goals
          cases hpic:picS 8
          ·have HPIC:Hid (∀ w,Calls Tryz.prog 173 #[.int .i8 8] w (VRet (.bool false) w)):=zH (picture_any 8 false hpic (by omega))
           have HE:Hid (lengthS (r :: rs)=(m,2)):=zH (by rw [HL.out,HB.out,HG.out,grownS_stop hm1 (by have:=HLN.out;omega) (.inr (.inr ⟨z,y,hz,hy,by simp [okS,h,hpic]⟩))])
           have KY:=zH (kind_at (y:Int) (by omega) (by omega) _ h)
           clear h hy hz hy31 hz31 hpic
           go_wp2_with (first|(go_at_call 85;((with_reducible refine(KY.out _).mono ?_);rintro e w3 ⟨rfl,hb3⟩;obtain⟨hc3,hf3⟩:=bcell hb3))|(go_at_call 85;((with_reducible refine(KZ.out _).mono ?_);rintro e w4 ⟨rfl,hb4⟩))|(go_at_call 173;((with_reducible refine(HPIC.out _).mono ?_);rintro e w' ⟨rfl,rfl⟩)))
           (try rw [Exit.noGoto_ret])
           go_ret2
           exact⟨by rw [HE.out];rfl,HBE.out.trans (hb3.mono HBE.out.size)⟩
          ·have HPIC:Hid (∀ w,Calls Tryz.prog 173 #[.int .i8 8] w (VRet (.bool true) w)):=zH (picture_any 8 true hpic (by omega))
           by_cases hz3:kindS (z:Int)=3
           ·have KZ:=zH (kind_at (z:Int) (by omega) (by omega) 3 hz3)
            have HN:Hid (grownS 8 (r :: rs) m=grownS 8 (r :: rs) (m+1)):=zH (grownS_step h16 hz hy (by simp [okS,h,hpic,hz3]))
            have KY:=zH (kind_at (y:Int) (by omega) (by omega) _ h)
            clear h hy hz hy31 hz31 hpic hz3
            go_wp2_with (first|(go_at_call 85;((with_reducible refine(KY.out _).mono ?_);rintro e w3 ⟨rfl,hb3⟩;obtain⟨hc3,hf3⟩:=bcell hb3))|(go_at_call 85;((with_reducible refine(KZ.out _).mono ?_);rintro e w4 ⟨rfl,hb4⟩))|(go_at_call 173;((with_reducible refine(HPIC.out _).mono ?_);rintro e w' ⟨rfl,rfl⟩)))
            go_roundw
            case rel=>exact⟨m+1,by go_num,by omega,by omega,HG.out.trans HN.out,(HBE.out.trans (hb3.mono HBE.out.size)).trans (hb4.mono (Nat.le_trans HBE.out.size hb3.size))⟩
            case measure=>simp [intOf];omega
           ·obtain⟨kz,hkz⟩:∃ kz,kindS (z:Int)=kz:=⟨_,rfl⟩
            have KZ:=zH (kind_at (z:Int) (by omega) (by omega) kz hkz)
            have hz3':¬ kz=3:=hkz ▸ hz3
            have hz4:((kz:Int) == 3)=false:=by simp;omega
            have hz5:((kz:Int) != 3)=true:=by simp;omega
            have HE:Hid (lengthS (r :: rs)=(m,2)):=zH (by rw [HL.out,HB.out,HG.out,grownS_stop hm1 (by have:=HLN.out;omega) (.inr (.inr ⟨z,y,hz,hy,by simp [okS,h,hpic,hz3]⟩))])
            have KY:=zH (kind_at (y:Int) (by omega) (by omega) _ h)
            clear h hy hz hy31 hz31 hpic hz3 hkz hz3'
            go_wp2_with (first|(go_at_call 85;((with_reducible refine(KY.out _).mono ?_);rintro e w3 ⟨rfl,hb3⟩;obtain⟨hc3,hf3⟩:=bcell hb3))|(go_at_call 85;((with_reducible refine(KZ.out _).mono ?_);rintro e w4 ⟨rfl,hb4⟩))|(go_at_call 173;((with_reducible refine(HPIC.out _).mono ?_);rintro e w' ⟨rfl,rfl⟩)))
            (try rw [Exit.noGoto_ret])
            go_ret2
            exact⟨by rw [HE.out];rfl,(HBE.out.trans (hb3.mono HBE.out.size)).trans (hb4.mono (Nat.le_trans HBE.out.size hb3.size))⟩
     
       ·have HE:Hid (lengthS (r :: rs)=(m,2)):=zH (by rw [HL.out,HB.out,HG.out,grownS_stop hm1 (by have:=HLN.out;omega) (.inr (.inl (by have:=HLN.out;omega)))])
        clear hbe
        go_wp2
        (try rw [Exit.noGoto_ret])
        go_ret2
        exact⟨by rw [HE.out];rfl,HBE.out⟩
      ·have HE:Hid (lengthS (r :: rs)=(m,2)):=zH (by rw [HL.out,HB.out,HG.out,grownS_stop hm1 (by have:=HLN.out;omega) (.inl (by have:=HLN.out;omega))])
       obtain rfl:m=n:=by omega
       clear hbe
       go_wp2
       (try rw [Exit.noGoto_ret])
       go_ret2
       exact⟨by rw [HE.out];rfl,HBE.out⟩
    ·rw [if_neg (by simp),if_neg (by simp [hx8])] at hbg
     obtain⟨rfl,rfl⟩:=Prod.mk.inj hbg
     have hx9:((x:Int) == 65039)=false:=by simp;omega
     clear h1 hb K0 hlt hnw hbg hrs hR hn hx8 hxs hx1
     go_enter Tryz.func156,Tryz.ntmps156
     go_wp2
     go_step3
     go_wp2_with (first|(go_at_call 85;((with_reducible refine(K1.out _).mono ?_);rintro e w1 ⟨rfl,hb1⟩;obtain⟨hc1,hf1⟩:=bcell hb1;have hg1:=Nat.lt_of_lt_of_le hg hb1.size))|(go_at_call 172;((with_reducible refine(KO.out _).mono ?_);rintro e w2 ⟨rfl,hb2⟩;obtain⟨hc2,hf2⟩:=bcell hb2))|(go_at_call 85;((with_reducible refine(KX.out _).mono ?_);rintro e w2' ⟨rfl,hb2'⟩)))
     go_step3
     go_wp2
     go_loopw [5] (fun v wr=>∃ m:Nat,v=.int .i64 m∧1≤m∧m≤n∧Hid (grownS 8 (r :: rs) 1=grownS 8 (r :: rs) m)∧Below w.heap.size w wr) (fun v _=>n - (intOf v).toNat)
     case atStart=>exact⟨1,rfl,by omega,by omega,rfl,hb1.trans (hb2.mono hb1.size)⟩
     case round=>
      obtain⟨m,rfl,hm1,hmn,HG,hbe⟩:=hrel
      have HBE:=zH hbe
      have hgr:g<wr.heap.size:=Nat.lt_of_lt_of_le hg hbe.size
      by_cases hlt:m<n
      ·by_cases h16:m<16
       ·obtain⟨y,hy⟩:∃ y,(r :: rs)[m]?=some y:=⟨_,List.getElem?_eq_getElem (by have:=HLN.out;omega)⟩
        obtain⟨z,hz⟩:∃ z,(r :: rs)[m - 1]?=some z:=⟨_,List.getElem?_eq_getElem (by have:=HLN.out;omega)⟩
        have hcy:wr.cell? ⟨g,o+m,none⟩=some (.int .i32 y):=(hbe.cell (p:=⟨g,o+m,none⟩) hg).trans (HRd.out m y hy)
        have hcz:wr.cell? ⟨g,o+(m - 1),none⟩=some (.int .i32 z):=(hbe.cell (p:=⟨g,o+(m - 1),none⟩) hg).trans (HRd.out (m - 1) z hz)
        have hy31:=HLt.out y (List.mem_of_getElem? hy)
        have hz31:=HLt.out z (List.mem_of_getElem? hz)
        clear hbe
        rcases (show (kindS (y:Int)=0∨kindS (y:Int)=1∨kindS (y:Int)=6∨kindS (y:Int)=9)∨(kindS (y:Int)=2∨kindS (y:Int)=3∨kindS (y:Int)=4)∨kindS (y:Int)=5∨kindS (y:Int)=7∨kindS (y:Int)=8 from by have:=kindS_cases (y:Int);omega) with h|h|h|h
        ·rcases h with h|h|h|h
         all_goals
          have HE:Hid (lengthS (r :: rs)=(m,ofS r)):=zH (by rw [HL.out,HB.out,HG.out,grownS_stop hm1 (by have:=HLN.out;omega) (.inr (.inr ⟨z,y,hz,hy,by simp [okS,h,picS]⟩))])
          have KY:=zH (kind_at (y:Int) (by omega) (by omega) _ h)
          clear h hy hz hy31 hz31 
          go_wp2_with (first|(go_at_call 85;((with_reducible refine(KY.out _).mono ?_);rintro e w3 ⟨rfl,hb3⟩;obtain⟨hc3,hf3⟩:=bcell hb3))|(go_at_call 85;((with_reducible refine(KZ.out _).mono ?_);rintro e w4 ⟨rfl,hb4⟩))|(go_at_call 173;((with_reducible refine(HPIC.out _).mono ?_);rintro e w' ⟨rfl,rfl⟩)))
          (try rw [Exit.noGoto_ret])
          go_ret2
          exact⟨by rw [HE.out];rfl,HBE.out.trans (hb3.mono HBE.out.size)⟩
        ·rcases h with h|h|h
         all_goals
          have HN:Hid (grownS 8 (r :: rs) m=grownS 8 (r :: rs) (m+1)):=zH (grownS_step h16 hz hy (by simp [okS,h,picS]))
          have KY:=zH (kind_at (y:Int) (by omega) (by omega) _ h)
          clear h hy hz hy31 hz31 
          go_wp2_with (first|(go_at_call 85;((with_reducible refine(KY.out _).mono ?_);rintro e w3 ⟨rfl,hb3⟩;obtain⟨hc3,hf3⟩:=bcell hb3))|(go_at_call 85;((with_reducible refine(KZ.out _).mono ?_);rintro e w4 ⟨rfl,hb4⟩))|(go_at_call 173;((with_reducible refine(HPIC.out _).mono ?_);rintro e w' ⟨rfl,rfl⟩)))
          go_roundw
          case rel=>exact⟨m+1,by go_num,by omega,by omega,HG.out.trans HN.out,HBE.out.trans (hb3.mono HBE.out.size)⟩
          case measure=>simp [intOf];omega
        ·skip
         cases hpic:picS 8
         ·have HPIC:Hid (∀ w,Calls Tryz.prog 173 #[.int .i8 8] w (VRet (.bool false) w)):=zH (picture_any 8 false hpic (by omega))
          have HE:Hid (lengthS (r :: rs)=(m,ofS r)):=zH (by rw [HL.out,HB.out,HG.out,grownS_stop hm1 (by have:=HLN.out;omega) (.inr (.inr ⟨z,y,hz,hy,by simp [okS,h,hpic]⟩))])
          have KY:=zH (kind_at (y:Int) (by omega) (by omega) _ h)
          clear h hy hz hy31 hz31 hpic
          go_wp2_with (first|(go_at_call 85;((with_reducible refine(KY.out _).mono ?_);rintro e w3 ⟨rfl,hb3⟩;obtain⟨hc3,hf3⟩:=bcell hb3))|(go_at_call 85;((with_reducible refine(KZ.out _).mono ?_);rintro e w4 ⟨rfl,hb4⟩))|(go_at_call 173;((with_reducible refine(HPIC.out _).mono ?_);rintro e w' ⟨rfl,rfl⟩)))
          (try rw [Exit.noGoto_ret])
          go_ret2
          exact⟨by rw [HE.out];rfl,HBE.out.trans (hb3.mono HBE.out.size)⟩
         ·have HPIC:Hid (∀ w,Calls Tryz.prog 173 #[.int .i8 8] w (VRet (.bool true) w)):=zH (picture_any 8 true hpic (by omega))
          have HN:Hid (grownS 8 (r :: rs) m=grownS 8 (r :: rs) (m+1)):=zH (grownS_step h16 hz hy (by simp [okS,h,hpic]))
          have KY:=zH (kind_at (y:Int) (by omega) (by omega) _ h)
          clear h hy hz hy31 hz31 hpic
          go_wp2_with (first|(go_at_call 85;((with_reducible refine(KY.out _).mono ?_);rintro e w3 ⟨rfl,hb3⟩;obtain⟨hc3,hf3⟩:=bcell hb3))|(go_at_call 85;((with_reducible refine(KZ.out _).mono ?_);rintro e w4 ⟨rfl,hb4⟩))|(go_at_call 173;((with_reducible refine(HPIC.out _).mono ?_);rintro e w' ⟨rfl,rfl⟩)))
          go_roundw
          case rel=>exact⟨m+1,by go_num,by omega,by omega,HG.out.trans HN.out,HBE.out.trans (hb3.mono HBE.out.size)⟩
          case measure=>simp [intOf];omega
        ·rcases h with h|h
         all_goals
          cases hpic:picS 8
          ·have HPIC:Hid (∀ w,Calls Tryz.prog 173 #[.int .i8 8] w (VRet (.bool false) w)):=zH (picture_any 8 false hpic (by omega))
           have HE:Hid (lengthS (r :: rs)=(m,ofS r)):=zH (by rw [HL.out,HB.out,HG.out,grownS_stop hm1 (by have:=HLN.out;omega) (.inr (.inr ⟨z,y,hz,hy,by simp [okS,h,hpic]⟩))])
           have KY:=zH (kind_at (y:Int) (by omega) (by omega) _ h)
           clear h hy hz hy31 hz31 hpic
           go_wp2_with (first|(go_at_call 85;((with_reducible refine(KY.out _).mono ?_);rintro e w3 ⟨rfl,hb3⟩;obtain⟨hc3,hf3⟩:=bcell hb3))|(go_at_call 85;((with_reducible refine(KZ.out _).mono ?_);rintro e w4 ⟨rfl,hb4⟩))|(go_at_call 173;((with_reducible refine(HPIC.out _).mono ?_);rintro e w' ⟨rfl,rfl⟩)))
           (try rw [Exit.noGoto_ret])
           go_ret2
           exact⟨by rw [HE.out];rfl,HBE.out.trans (hb3.mono HBE.out.size)⟩
          ·have HPIC:Hid (∀ w,Calls Tryz.prog 173 #[.int .i8 8] w (VRet (.bool true) w)):=zH (picture_any 8 true hpic (by omega))
           by_cases hz3:kindS (z:Int)=3
           ·have KZ:=zH (kind_at (z:Int) (by omega) (by omega) 3 hz3)
            have HN:Hid (grownS 8 (r :: rs) m=grownS 8 (r :: rs) (m+1)):=zH (grownS_step h16 hz hy (by simp [okS,h,hpic,hz3]))
            have KY:=zH (kind_at (y:Int) (by omega) (by omega) _ h)
            clear h hy hz hy31 hz31 hpic hz3
            go_wp2_with (first|(go_at_call 85;((with_reducible refine(KY.out _).mono ?_);rintro e w3 ⟨rfl,hb3⟩;obtain⟨hc3,hf3⟩:=bcell hb3))|(go_at_call 85;((with_reducible refine(KZ.out _).mono ?_);rintro e w4 ⟨rfl,hb4⟩))|(go_at_call 173;((with_reducible refine(HPIC.out _).mono ?_);rintro e w' ⟨rfl,rfl⟩)))
            go_roundw
            case rel=>exact⟨m+1,by go_num,by omega,by omega,HG.out.trans HN.out,(HBE.out.trans (hb3.mono HBE.out.size)).trans (hb4.mono (Nat.le_trans HBE.out.size hb3.size))⟩
            case measure=>simp [intOf];omega
           ·obtain⟨kz,hkz⟩:∃ kz,kindS (z:Int)=kz:=⟨_,rfl⟩
            have KZ:=zH (kind_at (z:Int) (by omega) (by omega) kz hkz)
            have hz3':¬ kz=3:=hkz ▸ hz3
            have hz4:((kz:Int) == 3)=false:=by simp;omega
            have hz5:((kz:Int) != 3)=true:=by simp;omega
            have HE:Hid (lengthS (r :: rs)=(m,ofS r)):=zH (by rw [HL.out,HB.out,HG.out,grownS_stop hm1 (by have:=HLN.out;omega) (.inr (.inr ⟨z,y,hz,hy,by simp [okS,h,hpic,hz3]⟩))])
            have KY:=zH (kind_at (y:Int) (by omega) (by omega) _ h)
            clear h hy hz hy31 hz31 hpic hz3 hkz hz3'
            go_wp2_with (first|(go_at_call 85;((with_reducible refine(KY.out _).mono ?_);rintro e w3 ⟨rfl,hb3⟩;obtain⟨hc3,hf3⟩:=bcell hb3))|(go_at_call 85;((with_reducible refine(KZ.out _).mono ?_);rintro e w4 ⟨rfl,hb4⟩))|(go_at_call 173;((with_reducible refine(HPIC.out _).mono ?_);rintro e w' ⟨rfl,rfl⟩)))
            (try rw [Exit.noGoto_ret])
            go_ret2
            exact⟨by rw [HE.out];rfl,(HBE.out.trans (hb3.mono HBE.out.size)).trans (hb4.mono (Nat.le_trans HBE.out.size hb3.size))⟩
     
       ·have HE:Hid (lengthS (r :: rs)=(m,ofS r)):=zH (by rw [HL.out,HB.out,HG.out,grownS_stop hm1 (by have:=HLN.out;omega) (.inr (.inl (by have:=HLN.out;omega)))])
        clear hbe
        go_wp2
        (try rw [Exit.noGoto_ret])
        go_ret2
        exact⟨by rw [HE.out];rfl,HBE.out⟩
      ·have HE:Hid (lengthS (r :: rs)=(m,ofS r)):=zH (by rw [HL.out,HB.out,HG.out,grownS_stop hm1 (by have:=HLN.out;omega) (.inl (by have:=HLN.out;omega))])
       obtain rfl:m=n:=by omega
       clear hbe
       go_wp2
       (try rw [Exit.noGoto_ret])
       go_ret2
       exact⟨by rw [HE.out];rfl,HBE.out⟩
   ·rw [if_neg (by simp [h6]),if_neg (by simp [h8])] at hbg
    obtain⟨rfl,rfl⟩:=Prod.mk.inj hbg
    have h6I:((b:Int) == 6)=false:=by simp;omega
    have h8I:((b:Int) == 8)=false:=by simp;omega
    clear h1 hb K0 hlt hnw hbg hrs hR hn h6 h8 hxs hx1
    go_enter Tryz.func156,Tryz.ntmps156
    go_wp2
    go_step3
    go_wp2_with (first|(go_at_call 85;((with_reducible refine(K1.out _).mono ?_);rintro e w1 ⟨rfl,hb1⟩;obtain⟨hc1,hf1⟩:=bcell hb1;have hg1:=Nat.lt_of_lt_of_le hg hb1.size))|(go_at_call 172;((with_reducible refine(KO.out _).mono ?_);rintro e w2 ⟨rfl,hb2⟩;obtain⟨hc2,hf2⟩:=bcell hb2))|(go_at_call 85;((with_reducible refine(KX.out _).mono ?_);rintro e w2' ⟨rfl,hb2'⟩)))
    go_step3
    go_wp2
    go_loopw [5] (fun v wr=>∃ m:Nat,v=.int .i64 m∧1≤m∧m≤n∧Hid (grownS b (r :: rs) 1=grownS b (r :: rs) m)∧Below w.heap.size w wr) (fun v _=>n - (intOf v).toNat)
    case atStart=>exact⟨1,rfl,by omega,by omega,rfl,hb1.trans (hb2.mono hb1.size)⟩
    case round=>
     obtain⟨m,rfl,hm1,hmn,HG,hbe⟩:=hrel
     have HBE:=zH hbe
     have hgr:g<wr.heap.size:=Nat.lt_of_lt_of_le hg hbe.size
     by_cases hlt:m<n
     ·by_cases h16:m<16
      ·obtain⟨y,hy⟩:∃ y,(r :: rs)[m]?=some y:=⟨_,List.getElem?_eq_getElem (by have:=HLN.out;omega)⟩
       obtain⟨z,hz⟩:∃ z,(r :: rs)[m - 1]?=some z:=⟨_,List.getElem?_eq_getElem (by have:=HLN.out;omega)⟩
       have hcy:wr.cell? ⟨g,o+m,none⟩=some (.int .i32 y):=(hbe.cell (p:=⟨g,o+m,none⟩) hg).trans (HRd.out m y hy)
       have hcz:wr.cell? ⟨g,o+(m - 1),none⟩=some (.int .i32 z):=(hbe.cell (p:=⟨g,o+(m - 1),none⟩) hg).trans (HRd.out (m - 1) z hz)
       have hy31:=HLt.out y (List.mem_of_getElem? hy)
       have hz31:=HLt.out z (List.mem_of_getElem? hz)
       clear hbe
       rcases (show (kindS (y:Int)=0∨kindS (y:Int)=1∨kindS (y:Int)=6∨kindS (y:Int)=9)∨(kindS (y:Int)=2∨kindS (y:Int)=3∨kindS (y:Int)=4)∨kindS (y:Int)=5∨kindS (y:Int)=7∨kindS (y:Int)=8 from by have:=kindS_cases (y:Int);omega) with h|h|h|h
       ·rcases h with h|h|h|h
        all_goals
         have HE:Hid (lengthS (r :: rs)=(m,ofS r)):=zH (by rw [HL.out,HB.out,HG.out,grownS_stop hm1 (by have:=HLN.out;omega) (.inr (.inr ⟨z,y,hz,hy,by simp [okS,h,picS]⟩))])
         have KY:=zH (kind_at (y:Int) (by omega) (by omega) _ h)
         clear h hy hz hy31 hz31 
         go_wp2_with (first|(go_at_call 85;((with_reducible refine(KY.out _).mono ?_);rintro e w3 ⟨rfl,hb3⟩;obtain⟨hc3,hf3⟩:=bcell hb3))|(go_at_call 85;((with_reducible refine(KZ.out _).mono ?_);rintro e w4 ⟨rfl,hb4⟩))|(go_at_call 173;((with_reducible refine(HPIC.out _).mono ?_);rintro e w' ⟨rfl,rfl⟩)))
         (try rw [Exit.noGoto_ret])
         go_ret2
         exact⟨by rw [HE.out];rfl,HBE.out.trans (hb3.mono HBE.out.size)⟩
       ·rcases h with h|h|h
        all_goals
         have HN:Hid (grownS b (r :: rs) m=grownS b (r :: rs) (m+1)):=zH (grownS_step h16 hz hy (by simp [okS,h,picS]))
         have KY:=zH (kind_at (y:Int) (by omega) (by omega) _ h)
         clear h hy hz hy31 hz31 
         go_wp2_with (first|(go_at_call 85;((with_reducible refine(KY.out _).mono ?_);rintro e w3 ⟨rfl,hb3⟩;obtain⟨hc3,hf3⟩:=bcell hb3))|(go_at_call 85;((with_reducible refine(KZ.out _).mono ?_);rintro e w4 ⟨rfl,hb4⟩))|(go_at_call 173;((with_reducible refine(HPIC.out _).mono ?_);rintro e w' ⟨rfl,rfl⟩)))
         go_roundw
         case rel=>exact⟨m+1,by go_num,by omega,by omega,HG.out.trans HN.out,HBE.out.trans (hb3.mono HBE.out.size)⟩
         case measure=>simp [intOf];omega
       ·skip
        cases hpic:picS b
        ·have HPIC:Hid (∀ w,Calls Tryz.prog 173 #[.int .i8 b] w (VRet (.bool false) w)):=zH (picture_any b false hpic (by omega))
         have HE:Hid (lengthS (r :: rs)=(m,ofS r)):=zH (by rw [HL.out,HB.out,HG.out,grownS_stop hm1 (by have:=HLN.out;omega) (.inr (.inr ⟨z,y,hz,hy,by simp [okS,h,hpic]⟩))])
         have KY:=zH (kind_at (y:Int) (by omega) (by omega) _ h)
         clear h hy hz hy31 hz31 hpic
         go_wp2_with (first|(go_at_call 85;((with_reducible refine(KY.out _).mono ?_);rintro e w3 ⟨rfl,hb3⟩;obtain⟨hc3,hf3⟩:=bcell hb3))|(go_at_call 85;((with_reducible refine(KZ.out _).mono ?_);rintro e w4 ⟨rfl,hb4⟩))|(go_at_call 173;((with_reducible refine(HPIC.out _).mono ?_);rintro e w' ⟨rfl,rfl⟩)))
         (try rw [Exit.noGoto_ret])
         go_ret2
         exact⟨by rw [HE.out];rfl,HBE.out.trans (hb3.mono HBE.out.size)⟩
        ·have HPIC:Hid (∀ w,Calls Tryz.prog 173 #[.int .i8 b] w (VRet (.bool true) w)):=zH (picture_any b true hpic (by omega))
         have HN:Hid (grownS b (r :: rs) m=grownS b (r :: rs) (m+1)):=zH (grownS_step h16 hz hy (by simp [okS,h,hpic]))
         have KY:=zH (kind_at (y:Int) (by omega) (by omega) _ h)
         clear h hy hz hy31 hz31 hpic
         go_wp2_with (first|(go_at_call 85;((with_reducible refine(KY.out _).mono ?_);rintro e w3 ⟨rfl,hb3⟩;obtain⟨hc3,hf3⟩:=bcell hb3))|(go_at_call 85;((with_reducible refine(KZ.out _).mono ?_);rintro e w4 ⟨rfl,hb4⟩))|(go_at_call 173;((with_reducible refine(HPIC.out _).mono ?_);rintro e w' ⟨rfl,rfl⟩)))
         go_roundw
         case rel=>exact⟨m+1,by go_num,by omega,by omega,HG.out.trans HN.out,HBE.out.trans (hb3.mono HBE.out.size)⟩
         case measure=>simp [intOf];omega
       ·rcases h with h|h
        all_goals
         cases hpic:picS b
         ·have HPIC:Hid (∀ w,Calls Tryz.prog 173 #[.int .i8 b] w (VRet (.bool false) w)):=zH (picture_any b false hpic (by omega))
          have HE:Hid (lengthS (r :: rs)=(m,ofS r)):=zH (by rw [HL.out,HB.out,HG.out,grownS_stop hm1 (by have:=HLN.out;omega) (.inr (.inr ⟨z,y,hz,hy,by simp [okS,h,hpic]⟩))])
          have KY:=zH (kind_at (y:Int) (by omega) (by omega) _ h)
          clear h hy hz hy31 hz31 hpic
          go_wp2_with (first|(go_at_call 85;((with_reducible refine(KY.out _).mono ?_);rintro e w3 ⟨rfl,hb3⟩;obtain⟨hc3,hf3⟩:=bcell hb3))|(go_at_call 85;((with_reducible refine(KZ.out _).mono ?_);rintro e w4 ⟨rfl,hb4⟩))|(go_at_call 173;((with_reducible refine(HPIC.out _).mono ?_);rintro e w' ⟨rfl,rfl⟩)))
          (try rw [Exit.noGoto_ret])
          go_ret2
          exact⟨by rw [HE.out];rfl,HBE.out.trans (hb3.mono HBE.out.size)⟩
         ·have HPIC:Hid (∀ w,Calls Tryz.prog 173 #[.int .i8 b] w (VRet (.bool true) w)):=zH (picture_any b true hpic (by omega))
          by_cases hz3:kindS (z:Int)=3
          ·have KZ:=zH (kind_at (z:Int) (by omega) (by omega) 3 hz3)
           have HN:Hid (grownS b (r :: rs) m=grownS b (r :: rs) (m+1)):=zH (grownS_step h16 hz hy (by simp [okS,h,hpic,hz3]))
           have KY:=zH (kind_at (y:Int) (by omega) (by omega) _ h)
           clear h hy hz hy31 hz31 hpic hz3
           go_wp2_with (first|(go_at_call 85;((with_reducible refine(KY.out _).mono ?_);rintro e w3 ⟨rfl,hb3⟩;obtain⟨hc3,hf3⟩:=bcell hb3))|(go_at_call 85;((with_reducible refine(KZ.out _).mono ?_);rintro e w4 ⟨rfl,hb4⟩))|(go_at_call 173;((with_reducible refine(HPIC.out _).mono ?_);rintro e w' ⟨rfl,rfl⟩)))
           go_roundw
           case rel=>exact⟨m+1,by go_num,by omega,by omega,HG.out.trans HN.out,(HBE.out.trans (hb3.mono HBE.out.size)).trans (hb4.mono (Nat.le_trans HBE.out.size hb3.size))⟩
           case measure=>simp [intOf];omega
          ·obtain⟨kz,hkz⟩:∃ kz,kindS (z:Int)=kz:=⟨_,rfl⟩
           have KZ:=zH (kind_at (z:Int) (by omega) (by omega) kz hkz)
           have hz3':¬ kz=3:=hkz ▸ hz3
           have hz4:((kz:Int) == 3)=false:=by simp;omega
           have hz5:((kz:Int) != 3)=true:=by simp;omega
           have HE:Hid (lengthS (r :: rs)=(m,ofS r)):=zH (by rw [HL.out,HB.out,HG.out,grownS_stop hm1 (by have:=HLN.out;omega) (.inr (.inr ⟨z,y,hz,hy,by simp [okS,h,hpic,hz3]⟩))])
           have KY:=zH (kind_at (y:Int) (by omega) (by omega) _ h)
           clear h hy hz hy31 hz31 hpic hz3 hkz hz3'
           go_wp2_with (first|(go_at_call 85;((with_reducible refine(KY.out _).mono ?_);rintro e w3 ⟨rfl,hb3⟩;obtain⟨hc3,hf3⟩:=bcell hb3))|(go_at_call 85;((with_reducible refine(KZ.out _).mono ?_);rintro e w4 ⟨rfl,hb4⟩))|(go_at_call 173;((with_reducible refine(HPIC.out _).mono ?_);rintro e w' ⟨rfl,rfl⟩)))
           (try rw [Exit.noGoto_ret])
           go_ret2
           exact⟨by rw [HE.out];rfl,(HBE.out.trans (hb3.mono HBE.out.size)).trans (hb4.mono (Nat.le_trans HBE.out.size hb3.size))⟩
    
      ·have HE:Hid (lengthS (r :: rs)=(m,ofS r)):=zH (by rw [HL.out,HB.out,HG.out,grownS_stop hm1 (by have:=HLN.out;omega) (.inr (.inl (by have:=HLN.out;omega)))])
       clear hbe
       go_wp2
       (try rw [Exit.noGoto_ret])
       go_ret2
       exact⟨by rw [HE.out];rfl,HBE.out⟩
     ·have HE:Hid (lengthS (r :: rs)=(m,ofS r)):=zH (by rw [HL.out,HB.out,HG.out,grownS_stop hm1 (by have:=HLN.out;omega) (.inl (by have:=HLN.out;omega))])
      obtain rfl:m=n:=by omega
      clear hbe
      go_wp2
      (try rw [Exit.noGoto_ret])
      go_ret2
      exact⟨by rw [HE.out];rfl,HBE.out⟩
end Go.Proofs.YtlenbcmgjancmaaGreatDoor
