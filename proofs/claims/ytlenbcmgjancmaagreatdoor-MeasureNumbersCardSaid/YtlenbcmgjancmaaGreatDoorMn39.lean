import Derived.Test.YtlenbcmgjancmaaGreatDoorMn37
import Derived.Stop.BytesEq
set_option linter.unusedVariables false
set_option linter.unusedSimpArgs false
namespace Go.Proofs.YtlenbcmgjancmaaGreatDoor
open Go.RowKit
theorem part_i8 (t:TypeId) (P:Program) (he:P.underlying t=some (.int .i8)) (cs:Array Value) (i:Nat) (u:Value) (h:cs[i]?=some u) (w:World):(Go.part t cs i).run P w=.ok u w:=by
 simp [Go.part,isAgg,run_underlying he,h]
theorem arms_eq (x y z v a b c d:Int):∃ t:Bool,∀ w,(binOp .eql 148 (.agg #[.int .i8 x,.int .i8 y,.int .i8 z,.int .i8 v]) (.agg #[.int .i8 a,.int .i8 b,.int .i8 c,.int .i8 d])).run Tryz.prog w=.ok (.bool t) w:=by
 refine⟨x == a && (y == b && (z == c && v == d)),fun w=>?_⟩
 have ht:=Tryz.underlying148
 have he:=Tryz.underlying36
 have hsz:∀ w,(sizeOf 36).run Tryz.prog w=.ok 1 w:=fun w=>by kernel_rfl
 rw [run_eql_struct,show (10000:Nat)=9999+1 from rfl,Op.equalIn]
 simp only [Sem.run_bind,run_underlying ht,Result.andThen_ok,hsz,Std.Legacy.Range.forIn_eq_forIn_range',Std.Legacy.Range.size,Nat.sub_zero,Nat.add_sub_cancel,Nat.div_one]
 have p:=fun (cs:Array Value) (i:Nat) (u:Value) (h:cs[i]?=some u) (w:World)=>part_i8 36 Tryz.prog he cs i u h w
 have q:=fun (a b:Int) (w:World)=>show (Op.equalIn 9999 36 (.int .i8 a) (.int .i8 b)).run Tryz.prog w=.ok (a == b) w from run_equalIn_int (P:=Tryz.prog) w 9998 36 .i8 .i8 a b he
 rw [show List.range' 0 4=[0,1,2,3] from rfl]
 simp only [List.forIn_cons,List.forIn_nil,Sem.run_bind,Result.andThen_ok,Nat.zero_mul,Nat.one_mul,show (2*1:Nat)=2 from rfl,show (3*1:Nat)=3 from rfl]
 rw [p _ 0 (.int .i8 x) rfl,Result.andThen_ok,p _ 0 (.int .i8 a) rfl,Result.andThen_ok,q,Result.andThen_ok]
 cases (x == a)
 ·simp
 simp only [Bool.not_true,Bool.false_eq_true,if_false,Sem.run_pure,Result.andThen_ok,Sem.run_bind]
 rw [p _ 1 (.int .i8 y) rfl,Result.andThen_ok,p _ 1 (.int .i8 b) rfl,Result.andThen_ok,q,Result.andThen_ok]
 cases (y == b)
 ·simp
 simp only [Bool.not_true,Bool.false_eq_true,if_false,Sem.run_pure,Result.andThen_ok,Sem.run_bind]
 rw [p _ 2 (.int .i8 z) rfl,Result.andThen_ok,p _ 2 (.int .i8 c) rfl,Result.andThen_ok,q,Result.andThen_ok]
 cases (z == c)
 ·simp
 simp only [Bool.not_true,Bool.false_eq_true,if_false,Sem.run_pure,Result.andThen_ok,Sem.run_bind]
 rw [p _ 3 (.int .i8 v) rfl,Result.andThen_ok,p _ 3 (.int .i8 d) rfl,Result.andThen_ok,q,Result.andThen_ok]
 cases (v == d)
 ·simp
 ·simp
set_option maxRecDepth 100000 in
set_option maxHeartbeats 2000000 in
theorem gseek_any (x y z v:Int) (w:World):Calls Tryz.prog 141 #[.agg #[.int .i8 x,.int .i8 y,.int .i8 z,.int .i8 v]] w (fun e w'=>∃ r:Int,e=.returned (.int .i32 r)∧(r=32∨9472≤r∧r≤9599)∧Below w.heap.size w w'):=by
 have hA1:Arr (w.alloc (.cells #[.int .i8 x,.int .i8 y,.int .i8 z,.int .i8 v] 148)) w.heap.size [.int .i8 x,.int .i8 y,.int .i8 z,.int .i8 v] 148:=heap_alloc_new w _
 have hB:Below w.heap.size w (w.alloc (.cells #[.int .i8 x,.int .i8 y,.int .i8 z,.int .i8 v] 148)):=by(repeat (first|exact Below.refl _ _|assumption|refine below_drewN ?_ _|refine Below.drew ?_|(refine Below.alloc ?_ ?bs _;(case bs=>first|omega|(simp;done)|(simp;omega)))|(refine Below.setCell ?_ ?bs _;(case bs=>first|omega|(simp;done)|(simp;omega)))))
 go_enter Tryz.func141,Tryz.ntmps141
 go_wp2
 generalize w.alloc (.cells #[.int .i8 x,.int .i8 y,.int .i8 z,.int .i8 v] 148)=W at hA1 hB ⊢
 have HA1:=zH hA1
 have HB:=zH hB
 clear hA1 hB
 go_loopw [3] (fun i wr=>∃ k:Nat,i=.int .i32 (9472+k)∧k≤128∧Hid (Arr wr w.heap.size [.int .i8 x,.int .i8 y,.int .i8 z,.int .i8 v] 148)∧Hid (Below w.heap.size w wr)) (fun i _=>9600 - (intOf i).toNat)
 case atStart=>exact⟨0,rfl,by omega,HA1,HB⟩
 case round=>
  obtain⟨k,rfl,hk,HR,HRB⟩:=hrel
  have l1:=HR.out.lt
  by_cases hlt:k<128
  ·have hltI:(9472:Int)+k≤9599:=by omega
   go_upto_if 20 with (go_at_call 168;((with_reducible refine(gof_any k hlt _).mono ?_);rintro e1' w4 ⟨a,b,c,d,t,rfl,hb⟩;have HR4:=zH (Arr.below HR.out hb);have q0:=HR4.out.cell (j:=0) rfl;have q1:=HR4.out.cell (j:=1) rfl;have q2:=HR4.out.cell (j:=2) rfl;have q3:=HR4.out.cell (j:=3) rfl;have l4:=HR4.out.lt;have HB4:=zH (HRB.out.trans (hb.mono HRB.out.size));clear hb;obtain⟨eq,heq⟩:=arms_eq x y z v a b c d;have f4:=frozen_of_row (w4.alloc (.cells #[.int .i8 a,.int .i8 b,.int .i8 c,.int .i8 d] 148)) w4.heap.size 0 _ _ (heap_alloc_new w4 _)))
   ·cases eq
    ·go_wp2
     go_roundw
     case rel=>exact⟨k+1,by first|rfl|go_num|simp|(congr 1;omega),by omega,zH (Arr.alloc HR4.out _),zH (HB4.out.alloc HB4.out.size _)⟩
     case measure=>simp [intOf]<;>omega
    ·go_wp2
     go_ret
     exact⟨9472+k,rfl,.inr ⟨by omega,by omega⟩,HB4.out.alloc HB4.out.size _⟩
   ·go_wp2
    go_roundw
    case rel=>exact⟨k+1,by first|rfl|go_num|simp|(congr 1;omega),by omega,zH (Arr.alloc HR4.out _),zH (HB4.out.alloc HB4.out.size _)⟩
    case measure=>simp [intOf]<;>omega
  ·have hltI:decide ((9472:Int)+k≤9599)=false:=decide_eq_false (by omega)
   go_wp2
   go_ret
   exact⟨32,rfl,.inl rfl,HRB.out⟩
set_option maxRecDepth 100000 in
set_option maxHeartbeats 2000000 in
theorem gdoubled_any (x y z v:Int) (there:Int) (w:World):Calls Tryz.prog 142 #[.agg #[.int .i8 x,.int .i8 y,.int .i8 z,.int .i8 v],.int .i64 there] w (fun e w'=>∃ x y z v:Int,e=.returned (.agg #[.int .i8 x,.int .i8 y,.int .i8 z,.int .i8 v])∧Below w.heap.size w w'):=by
 have hA1:Ar ((w.alloc (.cells #[.int .i8 x,.int .i8 y,.int .i8 z,.int .i8 v] 148)).alloc (.cells #[.int .i8 0,.int .i8 0,.int .i8 0,.int .i8 0] 148)) w.heap.size:=(Ar.made w x y z v _).alloc _
 have hA2:Ar ((w.alloc (.cells #[.int .i8 x,.int .i8 y,.int .i8 z,.int .i8 v] 148)).alloc (.cells #[.int .i8 0,.int .i8 0,.int .i8 0,.int .i8 0] 148)) (w.heap.size+1):=by
  have:=Ar.made (w.alloc (.cells #[.int .i8 x,.int .i8 y,.int .i8 z,.int .i8 v] 148)) 0 0 0 0 148
  simpa using this
 have hB:Below w.heap.size w ((w.alloc (.cells #[.int .i8 x,.int .i8 y,.int .i8 z,.int .i8 v] 148)).alloc (.cells #[.int .i8 0,.int .i8 0,.int .i8 0,.int .i8 0] 148)):=by(repeat (first|exact Below.refl _ _|assumption|refine below_drewN ?_ _|refine Below.drew ?_|(refine Below.alloc ?_ ?bs _;(case bs=>first|omega|(simp;done)|(simp;omega)))|(refine Below.setCell ?_ ?bs _;(case bs=>first|omega|(simp;done)|(simp;omega)))))
 go_enter Tryz.func142,Tryz.ntmps142
 go_wp2
 generalize (w.alloc (.cells #[.int .i8 x,.int .i8 y,.int .i8 z,.int .i8 v] 148)).alloc (.cells #[.int .i8 0,.int .i8 0,.int .i8 0,.int .i8 0] 148)=W at hA1 hA2 hB ⊢
 have HA1:=zH hA1
 have HA2:=zH hA2
 have HB:=zH hB
 clear hA1 hA2 hB
 go_loopw [8] (fun i wr=>∃ j:Nat,i=.int .i64 j∧j≤4∧Hid (Ar wr w.heap.size)∧Hid (Ar wr (w.heap.size+1))∧Hid (Below w.heap.size w wr)) (fun i _=>4 - (intOf i).toNat)
 case atStart=>exact⟨0,rfl,by omega,HA1,HA2,HB⟩
 case round=>
  obtain⟨j,rfl,hj,HR1,HR2,HRB⟩:=hrel
  have l1:=HR1.out.lt
  have l2:=HR2.out.lt
  by_cases hlt:j<4
  ·have hltI:(j:Int)<4:=by omega
   obtain⟨x,hx⟩:=HR1.out.cell hlt
   have fx:=HR1.out.froz j
   by_cases h2:x=2
   ·subst h2
    go_wp2
    go_roundw
    case rel=>exact⟨j+1,by first|rfl|go_num,by omega,zH (HR1.out.set j 3),zH (HR2.out.other (by omega) _ _),zH (HRB.out.setCell (p:=⟨w.heap.size,j,none⟩) (Nat.le_refl _) _)⟩
    case measure=>simp [intOf]<;>omega
   ·have h2b:(x == 2)=false:=by simpa using h2
    go_wp2
    go_roundw
    case rel=>exact⟨j+1,by first|rfl|go_num,by omega,HR1,HR2,HRB⟩
    case measure=>simp [intOf]<;>omega
  ·have hltI:decide ((j:Int)<4)=false:=decide_eq_false (by omega)
   obtain rfl:j=4:=by omega
   go_wp2
   go_loopw [18] (fun i ws=>∃ q:Nat,i=.int .i64 q∧q≤4∧Hid (Ar ws w.heap.size)∧Hid (Ar ws (w.heap.size+1))∧Hid (Below w.heap.size w ws)) (fun i _=>4 - (intOf i).toNat)
   case atStart=>exact⟨0,rfl,by omega,HR1,HR2,HRB⟩
   case round=>
    obtain⟨q,rfl,hq,HS1,HS2,HSB⟩:=hrel
    have m1:=HS1.out.lt
    have m2:=HS2.out.lt
    by_cases hlt2:q<4
    ·rcases (show q=0∨q=1∨q=2∨q=3 by omega) with rfl|rfl|rfl|rfl
     ·skip
      obtain⟨x,hx⟩:=HS1.out.cell (j:=0) (by omega)
      obtain⟨y,hy⟩:=HS1.out.cell (j:=2) (by omega)
      have fx:=HS1.out.froz 0
      have fy:=HS1.out.froz 2
      by_cases hx3:x=3
      ·subst hx3
       by_cases hy0:y=0
       ·subst hy0
        by_cases ht:there=1
        ·have htb:(there == 1)=true:=by simp [ht]
         clear ht
         go_wp2
         (go_roundw;(case rel=>exact⟨0+1,by first|rfl|go_num,by omega,zH (by first|exact HS1.out|exact HS1.out.set _ _|exact(HS1.out.set _ _).set _ _),zH (by first|exact HS2.out|exact HS2.out.other (by omega) _ _|exact(HS2.out.other (by omega) _ _).other (by omega) _ _),zH (by first|exact HSB.out|exact HSB.out.setCell (Nat.le_refl _) _|exact(HSB.out.setCell (Nat.le_refl _) _).setCell (Nat.le_refl _) _)⟩);(case measure=>simp [intOf]<;>omega))
        ·have htb:(there == 1)=false:=by simpa using ht
         clear ht
         go_wp2
         (go_roundw;(case rel=>exact⟨0+1,by first|rfl|go_num,by omega,zH (by first|exact HS1.out|exact HS1.out.set _ _|exact(HS1.out.set _ _).set _ _),zH (by first|exact HS2.out|exact HS2.out.other (by omega) _ _|exact(HS2.out.other (by omega) _ _).other (by omega) _ _),zH (by first|exact HSB.out|exact HSB.out.setCell (Nat.le_refl _) _|exact(HSB.out.setCell (Nat.le_refl _) _).setCell (Nat.le_refl _) _)⟩);(case measure=>simp [intOf]<;>omega))
       ·have hyb:(y == 0)=false:=by simpa using hy0
        have hyn:(y != 0)=true:=by simp [hy0]
        by_cases ht:there=1
        ·have htb:(there == 1)=true:=by simp [ht]
         clear ht
         go_wp2
         (go_roundw;(case rel=>exact⟨0+1,by first|rfl|go_num,by omega,zH (by first|exact HS1.out|exact HS1.out.set _ _|exact(HS1.out.set _ _).set _ _),zH (by first|exact HS2.out|exact HS2.out.other (by omega) _ _|exact(HS2.out.other (by omega) _ _).other (by omega) _ _),zH (by first|exact HSB.out|exact HSB.out.setCell (Nat.le_refl _) _|exact(HSB.out.setCell (Nat.le_refl _) _).setCell (Nat.le_refl _) _)⟩);(case measure=>simp [intOf]<;>omega))
        ·have htb:(there == 1)=false:=by simpa using ht
         clear ht
         go_wp2
         (go_roundw;(case rel=>exact⟨0+1,by first|rfl|go_num,by omega,zH (by first|exact HS1.out|exact HS1.out.set _ _|exact(HS1.out.set _ _).set _ _),zH (by first|exact HS2.out|exact HS2.out.other (by omega) _ _|exact(HS2.out.other (by omega) _ _).other (by omega) _ _),zH (by first|exact HSB.out|exact HSB.out.setCell (Nat.le_refl _) _|exact(HSB.out.setCell (Nat.le_refl _) _).setCell (Nat.le_refl _) _)⟩);(case measure=>simp [intOf]<;>omega))
      ·have hxb:(x == 3)=false:=by simpa using hx3
       go_wp2
       (go_roundw;(case rel=>exact⟨0+1,by first|rfl|go_num,by omega,zH (by first|exact HS1.out|exact HS1.out.set _ _|exact(HS1.out.set _ _).set _ _),zH (by first|exact HS2.out|exact HS2.out.other (by omega) _ _|exact(HS2.out.other (by omega) _ _).other (by omega) _ _),zH (by first|exact HSB.out|exact HSB.out.setCell (Nat.le_refl _) _|exact(HSB.out.setCell (Nat.le_refl _) _).setCell (Nat.le_refl _) _)⟩);(case measure=>simp [intOf]<;>omega))
     ·skip
      obtain⟨x,hx⟩:=HS1.out.cell (j:=1) (by omega)
      obtain⟨y,hy⟩:=HS1.out.cell (j:=3) (by omega)
      have fx:=HS1.out.froz 1
      have fy:=HS1.out.froz 3
      by_cases hx3:x=3
      ·subst hx3
       by_cases hy0:y=0
       ·subst hy0
        by_cases ht:there=1
        ·have htb:(there == 1)=true:=by simp [ht]
         clear ht
         go_wp2
         (go_roundw;(case rel=>exact⟨1+1,by first|rfl|go_num,by omega,zH (by first|exact HS1.out|exact HS1.out.set _ _|exact(HS1.out.set _ _).set _ _),zH (by first|exact HS2.out|exact HS2.out.other (by omega) _ _|exact(HS2.out.other (by omega) _ _).other (by omega) _ _),zH (by first|exact HSB.out|exact HSB.out.setCell (Nat.le_refl _) _|exact(HSB.out.setCell (Nat.le_refl _) _).setCell (Nat.le_refl _) _)⟩);(case measure=>simp [intOf]<;>omega))
        ·have htb:(there == 1)=false:=by simpa using ht
         clear ht
         go_wp2
         (go_roundw;(case rel=>exact⟨1+1,by first|rfl|go_num,by omega,zH (by first|exact HS1.out|exact HS1.out.set _ _|exact(HS1.out.set _ _).set _ _),zH (by first|exact HS2.out|exact HS2.out.other (by omega) _ _|exact(HS2.out.other (by omega) _ _).other (by omega) _ _),zH (by first|exact HSB.out|exact HSB.out.setCell (Nat.le_refl _) _|exact(HSB.out.setCell (Nat.le_refl _) _).setCell (Nat.le_refl _) _)⟩);(case measure=>simp [intOf]<;>omega))
       ·have hyb:(y == 0)=false:=by simpa using hy0
        have hyn:(y != 0)=true:=by simp [hy0]
        by_cases ht:there=1
        ·have htb:(there == 1)=true:=by simp [ht]
         clear ht
         go_wp2
         (go_roundw;(case rel=>exact⟨1+1,by first|rfl|go_num,by omega,zH (by first|exact HS1.out|exact HS1.out.set _ _|exact(HS1.out.set _ _).set _ _),zH (by first|exact HS2.out|exact HS2.out.other (by omega) _ _|exact(HS2.out.other (by omega) _ _).other (by omega) _ _),zH (by first|exact HSB.out|exact HSB.out.setCell (Nat.le_refl _) _|exact(HSB.out.setCell (Nat.le_refl _) _).setCell (Nat.le_refl _) _)⟩);(case measure=>simp [intOf]<;>omega))
        ·have htb:(there == 1)=false:=by simpa using ht
         clear ht
         go_wp2
         (go_roundw;(case rel=>exact⟨1+1,by first|rfl|go_num,by omega,zH (by first|exact HS1.out|exact HS1.out.set _ _|exact(HS1.out.set _ _).set _ _),zH (by first|exact HS2.out|exact HS2.out.other (by omega) _ _|exact(HS2.out.other (by omega) _ _).other (by omega) _ _),zH (by first|exact HSB.out|exact HSB.out.setCell (Nat.le_refl _) _|exact(HSB.out.setCell (Nat.le_refl _) _).setCell (Nat.le_refl _) _)⟩);(case measure=>simp [intOf]<;>omega))
      ·have hxb:(x == 3)=false:=by simpa using hx3
       go_wp2
       (go_roundw;(case rel=>exact⟨1+1,by first|rfl|go_num,by omega,zH (by first|exact HS1.out|exact HS1.out.set _ _|exact(HS1.out.set _ _).set _ _),zH (by first|exact HS2.out|exact HS2.out.other (by omega) _ _|exact(HS2.out.other (by omega) _ _).other (by omega) _ _),zH (by first|exact HSB.out|exact HSB.out.setCell (Nat.le_refl _) _|exact(HSB.out.setCell (Nat.le_refl _) _).setCell (Nat.le_refl _) _)⟩);(case measure=>simp [intOf]<;>omega))
     ·skip
      obtain⟨x,hx⟩:=HS1.out.cell (j:=2) (by omega)
      obtain⟨y,hy⟩:=HS1.out.cell (j:=0) (by omega)
      have fx:=HS1.out.froz 2
      have fy:=HS1.out.froz 0
      by_cases hx3:x=3
      ·subst hx3
       by_cases hy0:y=0
       ·subst hy0
        by_cases ht:there=1
        ·have htb:(there == 1)=true:=by simp [ht]
         clear ht
         go_wp2
         (go_roundw;(case rel=>exact⟨2+1,by first|rfl|go_num,by omega,zH (by first|exact HS1.out|exact HS1.out.set _ _|exact(HS1.out.set _ _).set _ _),zH (by first|exact HS2.out|exact HS2.out.other (by omega) _ _|exact(HS2.out.other (by omega) _ _).other (by omega) _ _),zH (by first|exact HSB.out|exact HSB.out.setCell (Nat.le_refl _) _|exact(HSB.out.setCell (Nat.le_refl _) _).setCell (Nat.le_refl _) _)⟩);(case measure=>simp [intOf]<;>omega))
        ·have htb:(there == 1)=false:=by simpa using ht
         clear ht
         go_wp2
         (go_roundw;(case rel=>exact⟨2+1,by first|rfl|go_num,by omega,zH (by first|exact HS1.out|exact HS1.out.set _ _|exact(HS1.out.set _ _).set _ _),zH (by first|exact HS2.out|exact HS2.out.other (by omega) _ _|exact(HS2.out.other (by omega) _ _).other (by omega) _ _),zH (by first|exact HSB.out|exact HSB.out.setCell (Nat.le_refl _) _|exact(HSB.out.setCell (Nat.le_refl _) _).setCell (Nat.le_refl _) _)⟩);(case measure=>simp [intOf]<;>omega))
       ·have hyb:(y == 0)=false:=by simpa using hy0
        have hyn:(y != 0)=true:=by simp [hy0]
        by_cases ht:there=1
        ·have htb:(there == 1)=true:=by simp [ht]
         clear ht
         go_wp2
         (go_roundw;(case rel=>exact⟨2+1,by first|rfl|go_num,by omega,zH (by first|exact HS1.out|exact HS1.out.set _ _|exact(HS1.out.set _ _).set _ _),zH (by first|exact HS2.out|exact HS2.out.other (by omega) _ _|exact(HS2.out.other (by omega) _ _).other (by omega) _ _),zH (by first|exact HSB.out|exact HSB.out.setCell (Nat.le_refl _) _|exact(HSB.out.setCell (Nat.le_refl _) _).setCell (Nat.le_refl _) _)⟩);(case measure=>simp [intOf]<;>omega))
        ·have htb:(there == 1)=false:=by simpa using ht
         clear ht
         go_wp2
         (go_roundw;(case rel=>exact⟨2+1,by first|rfl|go_num,by omega,zH (by first|exact HS1.out|exact HS1.out.set _ _|exact(HS1.out.set _ _).set _ _),zH (by first|exact HS2.out|exact HS2.out.other (by omega) _ _|exact(HS2.out.other (by omega) _ _).other (by omega) _ _),zH (by first|exact HSB.out|exact HSB.out.setCell (Nat.le_refl _) _|exact(HSB.out.setCell (Nat.le_refl _) _).setCell (Nat.le_refl _) _)⟩);(case measure=>simp [intOf]<;>omega))
      ·have hxb:(x == 3)=false:=by simpa using hx3
       go_wp2
       (go_roundw;(case rel=>exact⟨2+1,by first|rfl|go_num,by omega,zH (by first|exact HS1.out|exact HS1.out.set _ _|exact(HS1.out.set _ _).set _ _),zH (by first|exact HS2.out|exact HS2.out.other (by omega) _ _|exact(HS2.out.other (by omega) _ _).other (by omega) _ _),zH (by first|exact HSB.out|exact HSB.out.setCell (Nat.le_refl _) _|exact(HSB.out.setCell (Nat.le_refl _) _).setCell (Nat.le_refl _) _)⟩);(case measure=>simp [intOf]<;>omega))
     ·skip
      obtain⟨x,hx⟩:=HS1.out.cell (j:=3) (by omega)
      obtain⟨y,hy⟩:=HS1.out.cell (j:=1) (by omega)
      have fx:=HS1.out.froz 3
      have fy:=HS1.out.froz 1
      by_cases hx3:x=3
      ·subst hx3
       by_cases hy0:y=0
       ·subst hy0
        by_cases ht:there=1
        ·have htb:(there == 1)=true:=by simp [ht]
         clear ht
         go_wp2
         (go_roundw;(case rel=>exact⟨3+1,by first|rfl|go_num,by omega,zH (by first|exact HS1.out|exact HS1.out.set _ _|exact(HS1.out.set _ _).set _ _),zH (by first|exact HS2.out|exact HS2.out.other (by omega) _ _|exact(HS2.out.other (by omega) _ _).other (by omega) _ _),zH (by first|exact HSB.out|exact HSB.out.setCell (Nat.le_refl _) _|exact(HSB.out.setCell (Nat.le_refl _) _).setCell (Nat.le_refl _) _)⟩);(case measure=>simp [intOf]<;>omega))
        ·have htb:(there == 1)=false:=by simpa using ht
         clear ht
         go_wp2
         (go_roundw;(case rel=>exact⟨3+1,by first|rfl|go_num,by omega,zH (by first|exact HS1.out|exact HS1.out.set _ _|exact(HS1.out.set _ _).set _ _),zH (by first|exact HS2.out|exact HS2.out.other (by omega) _ _|exact(HS2.out.other (by omega) _ _).other (by omega) _ _),zH (by first|exact HSB.out|exact HSB.out.setCell (Nat.le_refl _) _|exact(HSB.out.setCell (Nat.le_refl _) _).setCell (Nat.le_refl _) _)⟩);(case measure=>simp [intOf]<;>omega))
       ·have hyb:(y == 0)=false:=by simpa using hy0
        have hyn:(y != 0)=true:=by simp [hy0]
        by_cases ht:there=1
        ·have htb:(there == 1)=true:=by simp [ht]
         clear ht
         go_wp2
         (go_roundw;(case rel=>exact⟨3+1,by first|rfl|go_num,by omega,zH (by first|exact HS1.out|exact HS1.out.set _ _|exact(HS1.out.set _ _).set _ _),zH (by first|exact HS2.out|exact HS2.out.other (by omega) _ _|exact(HS2.out.other (by omega) _ _).other (by omega) _ _),zH (by first|exact HSB.out|exact HSB.out.setCell (Nat.le_refl _) _|exact(HSB.out.setCell (Nat.le_refl _) _).setCell (Nat.le_refl _) _)⟩);(case measure=>simp [intOf]<;>omega))
        ·have htb:(there == 1)=false:=by simpa using ht
         clear ht
         go_wp2
         (go_roundw;(case rel=>exact⟨3+1,by first|rfl|go_num,by omega,zH (by first|exact HS1.out|exact HS1.out.set _ _|exact(HS1.out.set _ _).set _ _),zH (by first|exact HS2.out|exact HS2.out.other (by omega) _ _|exact(HS2.out.other (by omega) _ _).other (by omega) _ _),zH (by first|exact HSB.out|exact HSB.out.setCell (Nat.le_refl _) _|exact(HSB.out.setCell (Nat.le_refl _) _).setCell (Nat.le_refl _) _)⟩);(case measure=>simp [intOf]<;>omega))
      ·have hxb:(x == 3)=false:=by simpa using hx3
       go_wp2
       (go_roundw;(case rel=>exact⟨3+1,by first|rfl|go_num,by omega,zH (by first|exact HS1.out|exact HS1.out.set _ _|exact(HS1.out.set _ _).set _ _),zH (by first|exact HS2.out|exact HS2.out.other (by omega) _ _|exact(HS2.out.other (by omega) _ _).other (by omega) _ _),zH (by first|exact HSB.out|exact HSB.out.setCell (Nat.le_refl _) _|exact(HSB.out.setCell (Nat.le_refl _) _).setCell (Nat.le_refl _) _)⟩);(case measure=>simp [intOf]<;>omega))
    ·have hltI2:decide ((q:Int)<4)=false:=decide_eq_false (by omega)
     obtain rfl:q=4:=by omega
     obtain⟨x0,y0⟩:=HS1.out.cell (j:=0) (by omega)
     obtain⟨x1,y1⟩:=HS1.out.cell (j:=1) (by omega)
     obtain⟨x2,y2⟩:=HS1.out.cell (j:=2) (by omega)
     obtain⟨x3,y3⟩:=HS1.out.cell (j:=3) (by omega)
     obtain⟨z0,t0⟩:=HS2.out.cell (j:=0) (by omega)
     obtain⟨z1,t1⟩:=HS2.out.cell (j:=1) (by omega)
     obtain⟨z2,t2⟩:=HS2.out.cell (j:=2) (by omega)
     obtain⟨z3,t3⟩:=HS2.out.cell (j:=3) (by omega)
     have f0:=HS2.out.froz 0
     have f1:=HS2.out.froz 1
     have f2:=HS2.out.froz 2
     have f3:=HS2.out.froz 3
     go_wp2
     have hR:=((((HS2.out.set 0 x0).set 1 x1).set 2 x2).set 3 x3)
     refine arms_ret1 (p:=4) rfl rfl rfl hR fun a b c d=>⟨a,b,c,d,rfl,?_⟩
     have h0:w.heap.size≤w.heap.size+1:=Nat.le_succ _
     exact(((HSB.out.setCell (p:=⟨w.heap.size+1,0,none⟩) h0 _).setCell (p:=⟨w.heap.size+1,1,none⟩) h0 _).setCell (p:=⟨w.heap.size+1,2,none⟩) h0 _).setCell (p:=⟨w.heap.size+1,3,none⟩) h0 _
end Go.Proofs.YtlenbcmgjancmaaGreatDoor
namespace Go.Proofs.YtlenbcmgjancmaaGreatDoor
open Go.RowKit
set_option maxRecDepth 100000 in
set_option maxHeartbeats 4000000 in
theorem grune_any (x y z v:Int) (w:World):Calls Tryz.prog 106 #[.agg #[.int .i8 x,.int .i8 y,.int .i8 z,.int .i8 v]] w (fun e w'=>∃ r:Int,e=.returned (.int .i32 r)∧(r=32∨9472≤r∧r≤9599)∧Below w.heap.size w w'):=by
 have HA0:Hid (Ar (w.alloc (.cells #[.int .i8 x,.int .i8 y,.int .i8 z,.int .i8 v] 148)) w.heap.size):=zH (Ar.made w x y z v _)
 have HB0:Hid (Below w.heap.size w (w.alloc (.cells #[.int .i8 x,.int .i8 y,.int .i8 z,.int .i8 v] 148))):=zH (by(repeat (first|exact Below.refl _ _|assumption|refine below_drewN ?_ _|refine Below.drew ?_|(refine Below.alloc ?_ ?bs _;(case bs=>first|omega|(simp;done)|(simp;omega)))|(refine Below.setCell ?_ ?bs _;(case bs=>first|omega|(simp;done)|(simp;omega))))))
 go_enter Tryz.func106,Tryz.ntmps106
 go_upto_region 2 with (go_at_call 140;((with_reducible refine(gcounted_any _ _ _ _ _).mono ?_);rintro e1' w1 ⟨a,b,c,d,rfl,hb1⟩;have HA1:=zH (HA0.out.below hb1);have HB1:=zH (HB0.out.trans (hb1.mono HB0.out.size));obtain⟨x0,y0⟩:=HA1.out.cell (j:=0) (by omega);obtain⟨x1,y1⟩:=HA1.out.cell (j:=1) (by omega);obtain⟨x2,y2⟩:=HA1.out.cell (j:=2) (by omega);obtain⟨x3,y3⟩:=HA1.out.cell (j:=3) (by omega);have f0:=HA1.out.froz 0;have f1:=HA1.out.froz 1;have f2:=HA1.out.froz 2;have f3:=HA1.out.froz 3;have l1:=HA1.out.lt;clear hb1))
 have HA2:=zH ((((HA1.out.set 0 a).set 1 b).set 2 c).set 3 d)
 have h0:w.heap.size≤w.heap.size:=Nat.le_refl _
 have HB2:=zH ((((HB1.out.setCell (p:=⟨w.heap.size,0,none⟩) h0 (.int .i8 a)).setCell (p:=⟨w.heap.size,1,none⟩) h0 (.int .i8 b)).setCell (p:=⟨w.heap.size,2,none⟩) h0 (.int .i8 c)).setCell (p:=⟨w.heap.size,3,none⟩) h0 (.int .i8 d))
 generalize (((w1.setCell ⟨w.heap.size,0,none⟩ (.int .i8 a)).setCell ⟨w.heap.size,1,none⟩ (.int .i8 b)).setCell ⟨w.heap.size,2,none⟩ (.int .i8 c)).setCell ⟨w.heap.size,3,none⟩ (.int .i8 d)=W at HA2 HB2 ⊢
 clear HA1 HB1 y0 y1 y2 y3 f0 f1 f2 f3 l1 HA0 HB0 h0
 obtain⟨x0,y0⟩:=HA2.out.cell (j:=0) (by omega)
 obtain⟨x1,y1⟩:=HA2.out.cell (j:=1) (by omega)
 obtain⟨x2,y2⟩:=HA2.out.cell (j:=2) (by omega)
 obtain⟨x3,y3⟩:=HA2.out.cell (j:=3) (by omega)
 have l2:=HA2.out.lt
 obtain⟨eq,heq⟩:=arms_eq x0 x1 x2 x3 0 0 0 0
 cases eq
 ·go_wp2
  clear y0 y1 y2 y3 heq
  go_loopw [13] (fun i wr=>∃ j:Nat,i=.int .i64 j∧j≤4∧Hid (Ar wr w.heap.size)∧Hid (Below w.heap.size w wr)) (fun i _=>4 - (intOf i).toNat)
  case atStart=>exact⟨0,rfl,by omega,HA2,HB2⟩
  case round=>
   obtain⟨j,rfl,hj,HR,HRB⟩:=hrel
   have l1:=HR.out.lt
   by_cases hlt:j<4
   ·rcases (show j=0∨j=1∨j=2∨j=3 by omega) with rfl|rfl|rfl|rfl
    ·as_aux_lemma=>
     skip
     have HR4:Hid (∀ o,Ar (wr.alloc o) w.heap.size):=zH fun o=>HR.out.alloc o
     have HRB4:Hid (∀ o,Below w.heap.size w (wr.alloc o)):=zH fun o=>HRB.out.alloc HRB.out.size o
     obtain⟨x0,y0⟩:=HR.out.cell (j:=0) (by omega)
     obtain⟨x1,y1⟩:=HR.out.cell (j:=1) (by omega)
     obtain⟨x2,y2⟩:=HR.out.cell (j:=2) (by omega)
     obtain⟨x3,y3⟩:=HR.out.cell (j:=3) (by omega)
     obtain⟨eq,heq⟩:=arms_eq x0 x1 x2 x3 4 4 0 0
     cases eq
     ·go_wp2
      go_roundw
      case rel=>exact⟨0+1,by first|rfl|go_num,by omega,zH (HR4.out _),zH (HRB4.out _)⟩
      case measure=>simp [intOf]<;>omega
     ·go_wp2_with (go_at_call 141;((with_reducible refine(gseek_any _ _ _ _ _).mono ?_);rintro e1' w5 ⟨r,rfl,hr,hb5⟩))
      go_ret
      refine⟨r,rfl,hr,?_⟩
      exact(HRB4.out _).trans (hb5.mono (HRB4.out _).size)
    ·as_aux_lemma=>
     skip
     have HR4:Hid (∀ o,Ar (wr.alloc o) w.heap.size):=zH fun o=>HR.out.alloc o
     have HRB4:Hid (∀ o,Below w.heap.size w (wr.alloc o)):=zH fun o=>HRB.out.alloc HRB.out.size o
     obtain⟨x0,y0⟩:=HR.out.cell (j:=0) (by omega)
     obtain⟨x1,y1⟩:=HR.out.cell (j:=1) (by omega)
     obtain⟨x2,y2⟩:=HR.out.cell (j:=2) (by omega)
     obtain⟨x3,y3⟩:=HR.out.cell (j:=3) (by omega)
     obtain⟨eq,heq⟩:=arms_eq x0 x1 x2 x3 0 4 4 0
     cases eq
     ·go_wp2
      go_roundw
      case rel=>exact⟨1+1,by first|rfl|go_num,by omega,zH (HR4.out _),zH (HRB4.out _)⟩
      case measure=>simp [intOf]<;>omega
     ·go_wp2_with (go_at_call 141;((with_reducible refine(gseek_any _ _ _ _ _).mono ?_);rintro e1' w5 ⟨r,rfl,hr,hb5⟩))
      go_ret
      refine⟨r,rfl,hr,?_⟩
      exact(HRB4.out _).trans (hb5.mono (HRB4.out _).size)
    ·as_aux_lemma=>
     skip
     have HR4:Hid (∀ o,Ar (wr.alloc o) w.heap.size):=zH fun o=>HR.out.alloc o
     have HRB4:Hid (∀ o,Below w.heap.size w (wr.alloc o)):=zH fun o=>HRB.out.alloc HRB.out.size o
     obtain⟨x0,y0⟩:=HR.out.cell (j:=0) (by omega)
     obtain⟨x1,y1⟩:=HR.out.cell (j:=1) (by omega)
     obtain⟨x2,y2⟩:=HR.out.cell (j:=2) (by omega)
     obtain⟨x3,y3⟩:=HR.out.cell (j:=3) (by omega)
     obtain⟨eq,heq⟩:=arms_eq x0 x1 x2 x3 0 0 4 4
     cases eq
     ·go_wp2
      go_roundw
      case rel=>exact⟨2+1,by first|rfl|go_num,by omega,zH (HR4.out _),zH (HRB4.out _)⟩
      case measure=>simp [intOf]<;>omega
     ·go_wp2_with (go_at_call 141;((with_reducible refine(gseek_any _ _ _ _ _).mono ?_);rintro e1' w5 ⟨r,rfl,hr,hb5⟩))
      go_ret
      refine⟨r,rfl,hr,?_⟩
      exact(HRB4.out _).trans (hb5.mono (HRB4.out _).size)
    ·as_aux_lemma=>
     skip
     have HR4:Hid (∀ o,Ar (wr.alloc o) w.heap.size):=zH fun o=>HR.out.alloc o
     have HRB4:Hid (∀ o,Below w.heap.size w (wr.alloc o)):=zH fun o=>HRB.out.alloc HRB.out.size o
     obtain⟨x0,y0⟩:=HR.out.cell (j:=0) (by omega)
     obtain⟨x1,y1⟩:=HR.out.cell (j:=1) (by omega)
     obtain⟨x2,y2⟩:=HR.out.cell (j:=2) (by omega)
     obtain⟨x3,y3⟩:=HR.out.cell (j:=3) (by omega)
     obtain⟨eq,heq⟩:=arms_eq x0 x1 x2 x3 4 0 0 4
     cases eq
     ·go_wp2
      go_roundw
      case rel=>exact⟨3+1,by first|rfl|go_num,by omega,zH (HR4.out _),zH (HRB4.out _)⟩
      case measure=>simp [intOf]<;>omega
     ·go_wp2_with (go_at_call 141;((with_reducible refine(gseek_any _ _ _ _ _).mono ?_);rintro e1' w5 ⟨r,rfl,hr,hb5⟩))
      go_ret
      refine⟨r,rfl,hr,?_⟩
      exact(HRB4.out _).trans (hb5.mono (HRB4.out _).size)
   ·have hltI:decide ((j:Int)<4)=false:=decide_eq_false (by omega)
    obtain rfl:j=4:=by omega
    go_wp2
    go_loopw [5,6,28] (fun t d i ws=>∃ (q:Nat) (n:Int) (e:Bool),t=.int .i64 n∧d=.bool e∧i=.int .i64 q∧q≤4∧0≤n∧n≤q∧Hid (Ar ws w.heap.size)∧Hid (Below w.heap.size w ws)) (fun _ _ i _=>4 - (intOf i).toNat)
    case atStart=>exact⟨0,0,false,rfl,rfl,rfl,by omega,by omega,by omega,HR,HRB⟩
    case round=>
     obtain⟨q,n,e,rfl,rfl,rfl,hq,hn0,hn4,HS1,HSB⟩:=hrel
     have m1:=HS1.out.lt
     by_cases hlt2:q<4
     ·have hlt2I:(q:Int)<4:=by omega
      obtain⟨x,hx⟩:=HS1.out.cell hlt2
      have fx:=HS1.out.froz q
      by_cases hx0:x=0
      ·subst hx0
       cases e
       ·go_wp2
        (go_roundw;(case rel=>exact⟨q+1,_,_,rfl,rfl,by first|rfl|go_num,by omega,by omega,by omega,zH (by first|exact HS1.out|exact HS1.out.set _ _),zH (by first|exact HSB.out|exact HSB.out.setCell (Nat.le_refl _) _)⟩);(case measure=>simp [intOf]<;>omega))
       ·go_wp2
        (go_roundw;(case rel=>exact⟨q+1,_,_,rfl,rfl,by first|rfl|go_num,by omega,by omega,by omega,zH (by first|exact HS1.out|exact HS1.out.set _ _),zH (by first|exact HSB.out|exact HSB.out.setCell (Nat.le_refl _) _)⟩);(case measure=>simp [intOf]<;>omega))
      ·have hx0b:(x == 0)=false:=by simpa using hx0
       have hx0n:(x != 0)=true:=by simp [hx0]
       by_cases hx4:x=4
       ·subst hx4
        cases e
        ·go_wp2
         (go_roundw;(case rel=>exact⟨q+1,_,_,rfl,rfl,by first|rfl|go_num,by omega,by omega,by omega,zH (by first|exact HS1.out|exact HS1.out.set _ _),zH (by first|exact HSB.out|exact HSB.out.setCell (Nat.le_refl _) _)⟩);(case measure=>simp [intOf]<;>omega))
        ·go_wp2
         (go_roundw;(case rel=>exact⟨q+1,_,_,rfl,rfl,by first|rfl|go_num,by omega,by omega,by omega,zH (by first|exact HS1.out|exact HS1.out.set _ _),zH (by first|exact HSB.out|exact HSB.out.setCell (Nat.le_refl _) _)⟩);(case measure=>simp [intOf]<;>omega))
       ·have hx4b:(x == 4)=false:=by simpa using hx4
        cases e
        ·obtain⟨t3,ht3⟩:∃ t,(x == 3)=t:=⟨_,rfl⟩
         go_wp2
         (go_roundw;(case rel=>exact⟨q+1,_,_,rfl,rfl,by first|rfl|go_num,by omega,by omega,by omega,zH (by first|exact HS1.out|exact HS1.out.set _ _),zH (by first|exact HSB.out|exact HSB.out.setCell (Nat.le_refl _) _)⟩);(case measure=>simp [intOf]<;>omega))
        ·go_wp2
         (go_roundw;(case rel=>exact⟨q+1,_,_,rfl,rfl,by first|rfl|go_num,by omega,by omega,by omega,zH (by first|exact HS1.out|exact HS1.out.set _ _),zH (by first|exact HSB.out|exact HSB.out.setCell (Nat.le_refl _) _)⟩);(case measure=>simp [intOf]<;>omega))
     ·have hlt2I:decide ((q:Int)<4)=false:=decide_eq_false (by omega)
      obtain rfl:q=4:=by omega
      obtain⟨x0,y0⟩:=HS1.out.cell (j:=0) (by omega)
      obtain⟨x1,y1⟩:=HS1.out.cell (j:=1) (by omega)
      obtain⟨x2,y2⟩:=HS1.out.cell (j:=2) (by omega)
      obtain⟨x3,y3⟩:=HS1.out.cell (j:=3) (by omega)
      cases e
      ·go_wp2_with (go_at_call 141;((with_reducible refine(gseek_any _ _ _ _ _).mono ?_);rintro e1' w5 ⟨r,rfl,hr,hb5⟩))
       go_ret
       exact⟨r,rfl,hr,HSB.out.trans (hb5.mono HSB.out.size)⟩
      ·go_upto_region 24 with (go_at_call 142;((with_reducible refine(gdoubled_any _ _ _ _ _ _).mono ?_);rintro e1' w6 ⟨a,b,c,d,rfl,hb6⟩;have HA6:=zH (HS1.out.below hb6);have HB6:=zH (HSB.out.trans (hb6.mono HSB.out.size));obtain⟨p0,q0⟩:=HA6.out.cell (j:=0) (by omega);obtain⟨p1,q1⟩:=HA6.out.cell (j:=1) (by omega);obtain⟨p2,q2⟩:=HA6.out.cell (j:=2) (by omega);obtain⟨p3,q3⟩:=HA6.out.cell (j:=3) (by omega);have f0:=HA6.out.froz 0;have f1:=HA6.out.froz 1;have f2:=HA6.out.froz 2;have f3:=HA6.out.froz 3;have l6:=HA6.out.lt;clear hb6))
       have h0:w.heap.size≤w.heap.size:=Nat.le_refl _
       have HB7:=zH ((((HB6.out.setCell (p:=⟨w.heap.size,0,none⟩) h0 (.int .i8 a)).setCell (p:=⟨w.heap.size,1,none⟩) h0 (.int .i8 b)).setCell (p:=⟨w.heap.size,2,none⟩) h0 (.int .i8 c)).setCell (p:=⟨w.heap.size,3,none⟩) h0 (.int .i8 d))
       go_wp2_with (go_at_call 141;((with_reducible refine(gseek_any _ _ _ _ _).mono ?_);rintro e1' w5 ⟨r,rfl,hr,hb5⟩))
       go_ret
       exact⟨r,rfl,hr,HB7.out.trans (hb5.mono HB7.out.size)⟩
 ·go_wp2
  go_ret
  exact⟨32,rfl,.inl rfl,HB2.out⟩
end Go.Proofs.YtlenbcmgjancmaaGreatDoor
namespace Go.Proofs.YtlenbcmgjancmaaGreatDoor
open Go.RowKit
theorem encode_four (r:Int):(Utf8.encode r).size≤4:=by
 unfold Utf8.encode
 split
 ·simp only
  split
  ·show 1≤4;omega
  ·split
   ·show 2≤4;omega
   ·split
    ·show 3≤4;omega
    ·show 4≤4;omega
 ·show 3≤4;omega
set_option maxRecDepth 100000 in
theorem sign_any (up side:Int) (hu:up=0∨up=1) (hs:side=0∨side=1) (b:Nat) (line:Int) (hl:0≤line∧line≤4) (w:World) (hc:w.cell? ⟨b,0,none⟩=some (.int .i8 line)) :
  Calls Tryz.prog 105 #[.int .i8 up,.int .i8 side,.pointer (some ⟨b,0,none⟩)] w (Txt 4 w):=by
 rcases hu with rfl|rfl<;>rcases hs with rfl|rfl
 all_goals
  go_enter Tryz.func105,Tryz.ntmps105
  go_wp2_with (go_at_call 106;((with_reducible refine(grune_any _ _ _ _ _).mono ?_);rintro e1' w5 ⟨r,rfl,hr,hb5⟩))
  go_ret
  exact⟨_,rfl,encode_four _,hb5⟩
end Go.Proofs.YtlenbcmgjancmaaGreatDoor
