import Derived.Test.YtlenbcmgjancmaaGreatDoorMn05
import Derived.Test.YtlenbcmgjancmaaGreatDoorMn04
import Derived.LoopTactic
import Derived.Deep.DeepCutAuto
import Derived.Deep.QuietTactic
import Derived.BigQuiet
import Derived.Outline
import Derived.Test.YtlenbcmgjancmaaGreatDoorMn02
set_option linter.unusedVariables false
set_option linter.unusedSimpArgs false
namespace Go.Proofs.YtlenbcmgjancmaaGreatDoor
open Go.RowKit
theorem within1_any (lb rb g c:Nat) (t:List (Nat × Nat)) (r:Int) (i:Nat) (p:Nat × Nat) (hp:t[i]?=some p) (hm:t.length<1000) (hcc:t.length≤c) (w:World) (hl:w.cell? ⟨lb,0,none⟩=some (.slice (some ⟨g,0,none⟩) t.length c)) (hr:w.cell? ⟨rb,0,none⟩=some (.int .i32 r))
  (hc:w.cell? ⟨g,i*2+1,none⟩=some (.int .i32 p.2)) :
  Calls Tryz.prog 154 #[.int .i64 i,.pointer (some ⟨lb,0,none⟩),.pointer (some ⟨rb,0,none⟩)] w fun e w'=>∃ n,e=.returned (.bool (decide (r≤(p.2:Int))))∧w'=w.drewN n:=by
 have hi:i<t.length:=(List.getElem?_eq_some_iff.1 hp).1
 have hiI:(i:Int)<(t.length:Int):=by omega
 go_enter Tryz.func154,Tryz.ntmps154
 go_wp2
 go_quiet (fail)
 go_wp2
 go_ret
 exact⟨_,rfl,rfl⟩
def SrchPost (n:Nat) (p:Nat→Bool) (w:World) (e:Ending) (w':World):Prop :=
 ∃ m k:Nat,e=.returned (.int .i64 k)∧w'=w.drewN m∧k≤n∧(k=0∨p (k - 1)=false)∧(k=n∨p k=true)
set_option maxHeartbeats 1000000 in
theorem search_any (g:Nat) (cap:Array Value) (n:Nat) (hn:n<1000000) (p:Nat→Bool) (w:World) (eg:∀ args w,(callFunc g args).run Tryz.prog w=.ok (.enter g args) w)
  (hf:∀ (i m:Nat),i<n→Calls Tryz.prog g (#[.int .i64 i] ++ cap) (w.drewN m) fun e w'=>∃ k,e=.returned (.bool (p i))∧w'=(w.drewN m).drewN k) :
  Calls Tryz.prog 153 #[.int .i64 n,.func (.func g) #[] cap] w (SrchPost n p w):=by
 have HF:=zH hf
 clear hf
 go_enter Tryz.func153,Tryz.ntmps153
 go_wp2
 go_loopw [5,6] (fun i j wr=>∃ a b m:Nat,i=.int .i64 a∧j=.int .i64 b∧wr=w.drewN m∧a≤b∧b≤n∧(a=0∨p (a - 1)=false)∧(b=n∨p b=true)) (fun i j _=>(intOf j).toNat - (intOf i).toNat)
 case atStart=>exact⟨0,n,0,rfl,rfl,rfl,by omega,by omega,.inl rfl,.inl rfl⟩
 case round=>
  obtain⟨a,b,m,rfl,rfl,rfl,hab,hbn,ha,hb⟩:=hrel
  have HA:=zH ha
  have HB:=zH hb
  clear ha hb
  by_cases hlt:a<b
  ·have hf:=HF.out ((a+b) / 2) m (by omega)
   rw [show (((a+b) / 2:Nat):Int)=((a:Int)+(b:Int)) / 2 by omega] at hf
   cases hp:p ((a+b) / 2) with
   |true=>
    have HP:=zH hp
    rw [hp] at hf
    clear hp
    have HG:=zH hf
    clear hf
    go_wp2_with ((with_reducible refine HG.out.mono ?_);rintro e w' ⟨k,rfl,rfl⟩)
    go_roundw
    case rel=>exact⟨a,(a+b) / 2,m+k,rfl,by go_num,by go_simp,by omega,by omega,HA.out,.inr HP.out⟩
    case measure=>simp [intOf];omega
   |false=>
    have HP:=zH hp
    rw [hp] at hf
    clear hp
    have HG:=zH hf
    clear hf
    go_wp2_with ((with_reducible refine HG.out.mono ?_);rintro e w' ⟨k,rfl,rfl⟩)
    go_roundw
    case rel=>exact⟨(a+b) / 2+1,b,m+k,by go_num,rfl,by go_simp,by omega,by omega,.inr (by simpa using HP.out),HB.out⟩
    case measure=>simp [intOf];omega
  ·obtain rfl:a=b:=by omega
   go_wp2
   go_ret
   exact⟨m,a,rfl,rfl,hbn,HA.out,HB.out⟩
end Go.Proofs.YtlenbcmgjancmaaGreatDoor
namespace Go.Proofs.YtlenbcmgjancmaaGreatDoor
open Go.RowKit
set_option maxRecDepth 100000 in
set_option maxHeartbeats 1000000 in
theorem within_any (t:List (Nat × Nat)) (ht:sortedT t=true) (hm:t.length<1000) (g c:Nat) (hcc:t.length≤c) (r:Nat) (hr:r≤1114111) (w:World) (hg:g<w.heap.size)
  (hc:∀ i p,t[i]?=some p→w.cell? ⟨g,i*2,none⟩=some (.int .i32 p.1)∧w.cell? ⟨g,i*2+1,none⟩=some (.int .i32 p.2)) (b:Bool) (hb:withinS t r=b) :
  Calls Tryz.prog 121 #[.slice (some ⟨g,0,none⟩) t.length c,.int .i32 r] w (VBel (.bool b) w):=by
 let p:Nat→Bool:=fun i=>decide ((r:Int)≤((t.getD i (0,0)).2:Int))
 have HS:Hid (Calls Tryz.prog 153 #[.int .i64 t.length,.func (.func 154) #[] #[.pointer (some ⟨w.heap.size,0,none⟩),.pointer (some ⟨w.heap.size+1,0,none⟩)]] ((w.alloc (.cells #[.slice (some ⟨g,0,none⟩) t.length c] 173)).alloc (.cells #[.int .i32 r] 21)) (SrchPost t.length p ((w.alloc (.cells #[.slice (some ⟨g,0,none⟩) t.length c] 173)).alloc (.cells #[.int .i32 r] 21)))):=zH (by
  refine search_any _ _ t.length (by omega) p _ (fun _ _=>rfl) ?_
  intro i m hi
  have hp:t[i]?=some (t.getD i (0,0)):=by rw [List.getD_eq_getElem?_getD,List.getElem?_eq_getElem hi];rfl
  have:=hc i _ hp
  refine within1_any w.heap.size (w.heap.size+1) g c t r i (t.getD i (0,0)) hp hm hcc _ ?_ ?_ ?_
  ·simp
  ·simp
  ·rw [World.cell?_drewN,World.cell?_alloc_lt _ _ _ (by simp;omega),World.cell?_alloc_lt _ _ _ (by simpa using hg)];exact this.2)
 have HC:=zH hc
 have HB:=zH hb
 clear hc hb
 go_enter Tryz.func121,Tryz.ntmps121
 go_upto_region 2 with (go_at_call 153;((with_reducible refine HS.out.mono ?_);rintro e w' ⟨m,k,rfl,rfl,hk,h1,h2⟩))
 have hw:withinS t r=(match t[k]? with|some q=>decide (q.1≤r)|none=>false):=by
  refine within_at ht (fun i q hi hq=>?_) (fun i q hi hq=>?_)
  ·rcases h1 with rfl|h1
   ·omega
   ·have hkl:k - 1<t.length:=by omega
    have hp:t[k - 1]?=some (t.getD (k - 1) (0,0)):=by rw [List.getD_eq_getElem?_getD,List.getElem?_eq_getElem hkl];rfl
    have:=sortedT_mono ht (i:=i) (j:=k - 1) (by omega) hq hp
    have h1':¬ ((r:Int)≤((t.getD (k - 1) (0,0)).2:Int)):=by simpa [p] using h1
    omega
  ·rcases h2 with rfl|h2
   ·have:=(List.getElem?_eq_some_iff.1 hq).1;omega
   ·have hil:=(List.getElem?_eq_some_iff.1 hq).1
    have hkl:k<t.length:=by omega
    have hp:t[k]?=some (t.getD k (0,0)):=by rw [List.getD_eq_getElem?_getD,List.getElem?_eq_getElem hkl];rfl
    have:=sortedT_mono ht (i:=k) (j:=i) hi hp hq
    have h2':((r:Int)≤((t.getD k (0,0)).2:Int)):=by simpa [p] using h2
    omega
 have hbel:Below w.heap.size w ((w.alloc (.cells #[.slice (some ⟨g,0,none⟩) t.length c] 173)).alloc (.cells #[.int .i32 r] 21)):=by(repeat (first|exact Below.refl _ _|assumption|refine below_drewN ?_ _|refine Below.drew ?_|(refine Below.alloc ?_ ?bs _;(case bs=>first|omega|(simp;done)|(simp;omega)))|(refine Below.setCell ?_ ?bs _;(case bs=>first|omega|(simp;done)|(simp;omega)))))
 have HBel:=zH hbel
 clear h1 h2 HS hbel
 by_cases hkl:k<t.length
 ·obtain⟨q,hq⟩:∃ q,t[k]?=some q:=⟨_,List.getElem?_eq_getElem hkl⟩
  rw [hq] at hw
  simp only at hw
  have hcell:=(HC.out k q hq).1
  have HW:Hid (decide (q.1≤r)=b):=zH (by rw [← hw];exact HB.out)
  have hg':¬ g=w.heap.size:=by omega
  have hg'':¬ g=w.heap.size+1:=by omega
  have hlI:(k:Int)<(t.length:Int):=by omega
  clear hw HC HB hq ht
  go_quiet (fail)
  go_wp2
  go_ret
  exact⟨by rw [← HW.out];simp,below_drewN (below_drewN HBel.out _) _⟩
 ·obtain rfl:k=t.length:=by omega
  have HW:Hid (b=false):=zH (by rw [← HB.out,hw,List.getElem?_eq_none (Nat.le_refl _)])
  have hlI:decide ((t.length:Int)<(t.length:Int))=false:=by simp
  clear hw HC HB ht hkl hk
  go_quiet (fail)
  go_wp2
  go_ret
  exact⟨by rw [HW.out];rfl,below_drewN (below_drewN HBel.out _) _⟩
theorem told_any (c:Nat) (h:c<9) (w:World):Calls Tryz.prog 122 #[.int .i8 c] w (TRet c w):=by
 match c,h with
 | 0,_=>exact told_0 w
 | 1,_=>exact told_1 w
 | 2,_=>exact told_2 w
 | 3,_=>exact told_3 w
 | 4,_=>exact told_4 w
 | 5,_=>exact told_5 w
 | 6,_=>exact told_6 w
 | 7,_=>exact told_7 w
 | 8,_=>exact told_8 w
 |c+9,h=>omega
theorem tabC_good (c:Nat) (h:c<9):sortedT (tabC c)=true∧(tabC c).length<1000:=by
 match c,h with
 | 0,_=>decide
 | 1,_=>decide
 | 2,_=>decide
 | 3,_=>decide
 | 4,_=>decide
 | 5,_=>decide
 | 6,_=>decide
 | 7,_=>decide
 | 8,_=>decide
 |c+9,h=>omega
set_option maxRecDepth 100000 in
set_option maxHeartbeats 1000000 in
theorem kind_any (r:Int) (h1 : -2147483648≤r) (h2:r≤2147483647) (w:World):Calls Tryz.prog 85 #[.int .i32 r] w (VBel (.int .i8 (kindS r)) w):=by
 by_cases hr:r<0∨1114111<r
 ·have HK:Hid ((kindS r:Nat)=0):=zH (by unfold kindS;rw [if_pos hr])
  rcases hr with hr|hr
  ·go_enter Tryz.func85,Tryz.ntmps85
   go_wp2
   go_ret
   exact⟨by rw [HK.out];rfl,Below.refl _ _⟩
  ·have hr0:¬ r<0:=by omega
   go_enter Tryz.func85,Tryz.ntmps85
   go_wp2
   go_ret
   exact⟨by rw [HK.out];rfl,Below.refl _ _⟩
 ·have h0:¬ r<0:=fun h=>hr (.inl h)
  have h9:¬ 1114111<r:=fun h=>hr (.inr h)
  have HK0:kindS r=kindFrom r.toNat 9 0:=by unfold kindS;rw [if_neg hr]
  obtain⟨q,hq⟩:∃ q:Nat,r=(q:Int):=⟨r.toNat,by omega⟩
  rw [hq,Int.toNat_natCast] at HK0
  subst hq
  have hq9:q≤1114111:=by omega
  have HK:=zH HK0
  clear HK0 hr h1 h2
  go_enter Tryz.func85,Tryz.ntmps85
  go_wp2
  go_loopw [10] (fun x wr=>∃ c:Nat,x=.int .i8 c∧c≤9∧Hid (kindFrom q 9 0=kindFrom q (9 - c) c)∧Below w.heap.size w wr) (fun x _=>9 - (intOf x).toNat)
  case atStart=>exact⟨0,rfl,by omega,rfl,Below.refl _ _⟩
  case round=>
   obtain⟨c,rfl,hc9,HF,hb⟩:=hrel
   have HB:=zH hb
   clear hb
   by_cases hlt:c<9
   ·have HT:=tabC_good c hlt
    have hcI:(c:Int)<9:=by omega
    cases hw:withinS (tabC c) q with
    |true=>
     have HW:=zH hw
     have HE:Hid (kindS (q:Int)=c):=zH (by
      rw [HK.out,HF.out,show 9 - c=(8 - c)+1 by omega]
      simp only [kindFrom]
      rw [if_pos hw])
     clear hw
     go_wp2_with (first|(go_at_call 122;((with_reducible refine(told_any c hlt _).mono ?_);rintro e w1 ⟨rfl,rfl⟩))|(go_at_call 121;((with_reducible refine(within_any (tabC c) HT.1 HT.2 _ _ (Nat.le_refl _) q hq9 _ (by simp) (fun i p hp=>⟨by simpa using (tabV_get (tabC c) i p hp).1,by simpa using (tabV_get (tabC c) i p hp).2⟩) true HW.out).mono ?_);rintro e w2 ⟨rfl,hb2⟩)))
     go_ret
     exact⟨by rw [HE.out];rfl,(HB.out.alloc HB.out.size _).trans (hb2.mono (by have:=HB.out.size;simp;omega))⟩
    |false=>
     have HW:=zH hw
     have HE:Hid (kindFrom q 9 0=kindFrom q (9 - (c+1)) (c+1)):=zH (by
      rw [HF.out,show 9 - c=(9 - (c+1))+1 by omega]
      simp only [kindFrom]
      rw [if_neg (by rw [hw];decide)])
     clear hw
     go_wp2_with (first|(go_at_call 122;((with_reducible refine(told_any c hlt _).mono ?_);rintro e w1 ⟨rfl,rfl⟩))|(go_at_call 121;((with_reducible refine(within_any (tabC c) HT.1 HT.2 _ _ (Nat.le_refl _) q hq9 _ (by simp) (fun i p hp=>⟨by simpa using (tabV_get (tabC c) i p hp).1,by simpa using (tabV_get (tabC c) i p hp).2⟩) false HW.out).mono ?_);rintro e w2 ⟨rfl,hb2⟩)))
     go_roundw
     case rel=>exact⟨c+1,by go_num,by omega,HE.out,(HB.out.alloc HB.out.size _).trans (hb2.mono (by have:=HB.out.size;simp;omega))⟩
     case measure=>simp [intOf];omega
   ·obtain rfl:c=9:=by omega
    have HE:Hid (kindS (q:Int)=9):=zH (by rw [HK.out,HF.out];rfl)
    go_wp2
    go_ret
    exact⟨by rw [HE.out];rfl,HB.out⟩
end Go.Proofs.YtlenbcmgjancmaaGreatDoor
namespace Go.Proofs.YtlenbcmgjancmaaGreatDoor
open Go.RowKit
theorem bcell {W w1:World} (hb:Below W.heap.size W w1):(∀ b o,b<W.heap.size→w1.cell? ⟨b,o,none⟩=W.cell? ⟨b,o,none⟩)∧(∀ b o,b<W.heap.size→w1.frozen? ⟨b,o,none⟩=W.frozen? ⟨b,o,none⟩) :=
 ⟨fun b o h=>hb.cell (p:=⟨b,o,none⟩) h,fun b o h=>hb.frozen (p:=⟨b,o,none⟩) h⟩
theorem kindFrom_le (r k c:Nat):kindFrom r k c≤c+k:=by
 induction k generalizing c with
 |zero=>simp [kindFrom]
 |succ k ih=>
  simp only [kindFrom]
  split
  ·omega
  ·have:=ih (c+1);omega
theorem kindS_le (r:Int):kindS r≤9:=by
 unfold kindS
 split
 ·omega
 ·have:=kindFrom_le r.toNat 9 0;omega
theorem kindS_cases (r:Int):kindS r=0∨kindS r=1∨kindS r=2∨kindS r=3∨kindS r=4∨kindS r=5∨kindS r=6∨kindS r=7∨kindS r=8∨kindS r=9:=by
 have:=kindS_le r;omega
theorem kind_at (r:Int) (h1 : -2147483648≤r) (h2:r≤2147483647) (k:Nat) (hk:kindS r=k) (w:World):Calls Tryz.prog 85 #[.int .i32 r] w (VBel (.int .i8 k) w):=by
 rw [← hk];exact kind_any r h1 h2 w
set_option maxRecDepth 100000 in
set_option maxHeartbeats 1000000 in
theorem of_any (r:Int) (h1 : -2147483648≤r) (h2:r≤2147483647) (w:World):Calls Tryz.prog 172 #[.int .i32 r] w (VBel (.int .i64 (ofS r)) w):=by
 rcases kindS_cases r with h|h|h|h|h|h|h|h|h|h
 all_goals
  have HK:=zH (kind_at r h1 h2 _ h)
  have HO:=zH (show ofS r=_ from(by unfold ofS;simp only [h];rfl))
  clear h
  go_enter Tryz.func172,Tryz.ntmps172
  go_wp2_with (go_at_call 85;((with_reducible refine(HK.out _).mono ?_);rintro e w1 ⟨rfl,hb1⟩))
  go_ret
  exact⟨by rw [HO.out];rfl,hb1⟩
end Go.Proofs.YtlenbcmgjancmaaGreatDoor
