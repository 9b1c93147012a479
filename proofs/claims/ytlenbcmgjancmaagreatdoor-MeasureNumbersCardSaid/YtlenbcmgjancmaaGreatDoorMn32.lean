import Derived.Test.YtlenbcmgjancmaaGreatDoorMn29
import Derived.Test.YtlenbcmgjancmaaGreatDoorMn22
import Derived.SizedLaws
import Derived.Deep.Slices
import Derived.ChangeArms
import Derived.Laws.IdiomArrays
import Derived.OpenShut
import Derived.Lib.SmallJoins
set_option linter.unusedVariables false
set_option linter.unusedSimpArgs false
namespace Go.Proofs.YtlenbcmgjancmaaGreatDoor
open Go.RowKit Go.Maps
theorem words_step {l:List UInt8} {k m:Nat} {was:Bool} {b:UInt8} (h:l[k]?=some b):wordsF (l.drop k) was m=wordsF (l.drop (k+1)) (!blankB b) (if blankB b=false∧was=false then m+1 else m):=by
 obtain⟨h1,e1⟩:=List.getElem?_eq_some_iff.1 h
 rw [List.drop_eq_getElem_cons h1,e1]
 rfl
theorem blank_nat (b:UInt8):blankB b=decide (b.toNat=32∨b.toNat=9∨b.toNat=10∨b.toNat=13):=by
 have e:∀ n:Nat,n<256→(b == UInt8.ofNat n)=decide (b.toNat=n):=fun n hn=>by
  rw [Bool.eq_iff_iff]
  simp only [beq_iff_eq,decide_eq_true_eq]
  constructor
  ·intro h;rw [h];simp;omega
  ·intro h;apply UInt8.toNat_inj.1;rw [h];simp;omega
 unfold blankB
 rw [show (32:UInt8)=UInt8.ofNat 32 from rfl,show (9:UInt8)=UInt8.ofNat 9 from rfl,show (10:UInt8)=UInt8.ofNat 10 from rfl,show (13:UInt8)=UInt8.ofNat 13 from rfl,e 32 (by omega),e 9 (by omega),e 10 (by omega),e 13 (by omega)]
 simp [Bool.decide_or,Bool.or_assoc]
set_option maxRecDepth 100000 in
set_option maxHeartbeats 4000000 in
theorem words_any (s:ByteArray) (hs:s.size≤1048576) (w:World):Calls Tryz.prog 75 #[.string s] w (VRet (.int .i64 (wordsF s.data.toList false 0:Nat)) w):=by
 obtain⟨R,hR⟩:∃ R,wordsF s.data.toList false 0=R:=⟨_,rfl⟩
 rw [hR]
 go_enter Tryz.func75,Tryz.ntmps75
 go_wp2
 go_loopw [9,3,4] (fun i n b wr=>∃ (k m:Nat) (was:Bool),i=.int .i64 k∧k≤s.size∧n=.int .i64 m∧m≤k∧b=.bool was∧wordsF (s.data.toList.drop k) was m=R∧wr=w) (fun i _ _ _=>s.size - (intOf i).toNat)
 case atStart=>exact⟨0,0,false,rfl,by omega,rfl,by omega,rfl,by simpa using hR,by first|rfl|trivial⟩
 case round=>
  obtain⟨k,m,was,rfl,hk,rfl,hm,rfl,hW,rfl⟩:=hrel
  clear hR
  by_cases hlt:k<s.size
  ·have hb:s.data.toList[k]?=some s[k]:=by rw [List.getElem?_eq_getElem (by simpa using hlt)];rfl
   by_cases hc:s[k].toNat=32
   ·skip
    have hB:blankB s[k]=true:=by rw [blank_nat];simp [hc]
    cases was
    ·have HT:Hid (wordsF (s.data.toList.drop (k+1)) false (m)=R):=zH (by rw [← hW,words_step hb,hB];simp)
     clear hW hb hB
     go_wp2
     go_roundw
     case rel=>exact⟨k+1,m,false,by first|rfl|go_num,by omega,by first|rfl|go_num,by omega,by first|rfl|trivial,HT.out,by first|rfl|trivial⟩
     case measure=>simp [intOf]<;>omega
    ·have HT:Hid (wordsF (s.data.toList.drop (k+1)) false (m)=R):=zH (by rw [← hW,words_step hb,hB];simp)
     clear hW hb hB
     go_wp2
     go_roundw
     case rel=>exact⟨k+1,m,false,by first|rfl|go_num,by omega,by first|rfl|go_num,by omega,by first|rfl|trivial,HT.out,by first|rfl|trivial⟩
     case measure=>simp [intOf]<;>omega
   by_cases hc9:s[k].toNat=9
   ·skip
    have n32:((s[k].toNat:Int) == 32)=false:=by rw [beq_eq_false_iff_ne];omega
    have m32:((s[k].toNat:Int)=32)=False:=eq_false (by omega)
    have k32:((s[k].toNat:Int) != 32)=true:=by rw [bne,n32];rfl
    have l32:decide ((s[k].toNat:Int)=32)=false:=decide_eq_false (by omega)
    clear hc
    have hc:=hc9
    clear hc9
    have hB:blankB s[k]=true:=by rw [blank_nat];simp [hc]
    cases was
    ·have HT:Hid (wordsF (s.data.toList.drop (k+1)) false (m)=R):=zH (by rw [← hW,words_step hb,hB];simp)
     clear hW hb hB
     go_wp2
     go_roundw
     case rel=>exact⟨k+1,m,false,by first|rfl|go_num,by omega,by first|rfl|go_num,by omega,by first|rfl|trivial,HT.out,by first|rfl|trivial⟩
     case measure=>simp [intOf]<;>omega
    ·have HT:Hid (wordsF (s.data.toList.drop (k+1)) false (m)=R):=zH (by rw [← hW,words_step hb,hB];simp)
     clear hW hb hB
     go_wp2
     go_roundw
     case rel=>exact⟨k+1,m,false,by first|rfl|go_num,by omega,by first|rfl|go_num,by omega,by first|rfl|trivial,HT.out,by first|rfl|trivial⟩
     case measure=>simp [intOf]<;>omega
   by_cases hc10:s[k].toNat=10
   ·skip
    have n32:((s[k].toNat:Int) == 32)=false:=by rw [beq_eq_false_iff_ne];omega
    have m32:((s[k].toNat:Int)=32)=False:=eq_false (by omega)
    have k32:((s[k].toNat:Int) != 32)=true:=by rw [bne,n32];rfl
    have l32:decide ((s[k].toNat:Int)=32)=false:=decide_eq_false (by omega)
    have n9:((s[k].toNat:Int) == 9)=false:=by rw [beq_eq_false_iff_ne];omega
    have m9:((s[k].toNat:Int)=9)=False:=eq_false (by omega)
    have k9:((s[k].toNat:Int) != 9)=true:=by rw [bne,n9];rfl
    have l9:decide ((s[k].toNat:Int)=9)=false:=decide_eq_false (by omega)
    clear hc hc9
    have hc:=hc10
    clear hc10
    have hB:blankB s[k]=true:=by rw [blank_nat];simp [hc]
    cases was
    ·have HT:Hid (wordsF (s.data.toList.drop (k+1)) false (m)=R):=zH (by rw [← hW,words_step hb,hB];simp)
     clear hW hb hB
     go_wp2
     go_roundw
     case rel=>exact⟨k+1,m,false,by first|rfl|go_num,by omega,by first|rfl|go_num,by omega,by first|rfl|trivial,HT.out,by first|rfl|trivial⟩
     case measure=>simp [intOf]<;>omega
    ·have HT:Hid (wordsF (s.data.toList.drop (k+1)) false (m)=R):=zH (by rw [← hW,words_step hb,hB];simp)
     clear hW hb hB
     go_wp2
     go_roundw
     case rel=>exact⟨k+1,m,false,by first|rfl|go_num,by omega,by first|rfl|go_num,by omega,by first|rfl|trivial,HT.out,by first|rfl|trivial⟩
     case measure=>simp [intOf]<;>omega
   by_cases hc13:s[k].toNat=13
   ·skip
    have n32:((s[k].toNat:Int) == 32)=false:=by rw [beq_eq_false_iff_ne];omega
    have m32:((s[k].toNat:Int)=32)=False:=eq_false (by omega)
    have k32:((s[k].toNat:Int) != 32)=true:=by rw [bne,n32];rfl
    have l32:decide ((s[k].toNat:Int)=32)=false:=decide_eq_false (by omega)
    have n9:((s[k].toNat:Int) == 9)=false:=by rw [beq_eq_false_iff_ne];omega
    have m9:((s[k].toNat:Int)=9)=False:=eq_false (by omega)
    have k9:((s[k].toNat:Int) != 9)=true:=by rw [bne,n9];rfl
    have l9:decide ((s[k].toNat:Int)=9)=false:=decide_eq_false (by omega)
    have n10:((s[k].toNat:Int) == 10)=false:=by rw [beq_eq_false_iff_ne];omega
    have m10:((s[k].toNat:Int)=10)=False:=eq_false (by omega)
    have k10:((s[k].toNat:Int) != 10)=true:=by rw [bne,n10];rfl
    have l10:decide ((s[k].toNat:Int)=10)=false:=decide_eq_false (by omega)
    clear hc hc9 hc10
    have hc:=hc13
    clear hc13
    have hB:blankB s[k]=true:=by rw [blank_nat];simp [hc]
    cases was
    ·have HT:Hid (wordsF (s.data.toList.drop (k+1)) false (m)=R):=zH (by rw [← hW,words_step hb,hB];simp)
     clear hW hb hB
     go_wp2
     go_roundw
     case rel=>exact⟨k+1,m,false,by first|rfl|go_num,by omega,by first|rfl|go_num,by omega,by first|rfl|trivial,HT.out,by first|rfl|trivial⟩
     case measure=>simp [intOf]<;>omega
    ·have HT:Hid (wordsF (s.data.toList.drop (k+1)) false (m)=R):=zH (by rw [← hW,words_step hb,hB];simp)
     clear hW hb hB
     go_wp2
     go_roundw
     case rel=>exact⟨k+1,m,false,by first|rfl|go_num,by omega,by first|rfl|go_num,by omega,by first|rfl|trivial,HT.out,by first|rfl|trivial⟩
     case measure=>simp [intOf]<;>omega
   ·skip
    have n32:((s[k].toNat:Int) == 32)=false:=by rw [beq_eq_false_iff_ne];omega
    have m32:((s[k].toNat:Int)=32)=False:=eq_false (by omega)
    have k32:((s[k].toNat:Int) != 32)=true:=by rw [bne,n32];rfl
    have l32:decide ((s[k].toNat:Int)=32)=false:=decide_eq_false (by omega)
    have n9:((s[k].toNat:Int) == 9)=false:=by rw [beq_eq_false_iff_ne];omega
    have m9:((s[k].toNat:Int)=9)=False:=eq_false (by omega)
    have k9:((s[k].toNat:Int) != 9)=true:=by rw [bne,n9];rfl
    have l9:decide ((s[k].toNat:Int)=9)=false:=decide_eq_false (by omega)
    have n10:((s[k].toNat:Int) == 10)=false:=by rw [beq_eq_false_iff_ne];omega
    have m10:((s[k].toNat:Int)=10)=False:=eq_false (by omega)
    have k10:((s[k].toNat:Int) != 10)=true:=by rw [bne,n10];rfl
    have l10:decide ((s[k].toNat:Int)=10)=false:=decide_eq_false (by omega)
    have n13:((s[k].toNat:Int) == 13)=false:=by rw [beq_eq_false_iff_ne];omega
    have m13:((s[k].toNat:Int)=13)=False:=eq_false (by omega)
    have k13:((s[k].toNat:Int) != 13)=true:=by rw [bne,n13];rfl
    have l13:decide ((s[k].toNat:Int)=13)=false:=decide_eq_false (by omega)
    have hB:blankB s[k]=false:=by rw [blank_nat];simp [hc,hc9,hc10,hc13]
    clear hc hc9 hc10 hc13
    cases was
    ·have HT:Hid (wordsF (s.data.toList.drop (k+1)) true (m+1)=R):=zH (by rw [← hW,words_step hb,hB];simp)
     clear hW hb hB
     go_wp2
     go_roundw
     case rel=>exact⟨k+1,m+1,true,by first|rfl|go_num,by omega,by first|rfl|go_num,by omega,by first|rfl|trivial,HT.out,by first|rfl|trivial⟩
     case measure=>simp [intOf]<;>omega
    ·have HT:Hid (wordsF (s.data.toList.drop (k+1)) true (m)=R):=zH (by rw [← hW,words_step hb,hB];simp)
     clear hW hb hB
     go_wp2
     go_roundw
     case rel=>exact⟨k+1,m,true,by first|rfl|go_num,by omega,by first|rfl|go_num,by omega,by first|rfl|trivial,HT.out,by first|rfl|trivial⟩
     case measure=>simp [intOf]<;>omega
  ·have hW2:m=R:=by rw [← hW,List.drop_of_length_le (by simp;omega)];rfl
   have hlt':decide ((k:Int)<(s.size:Int))=false:=decide_eq_false (by omega)
   subst hW2
   go_wp2
   go_ret
   exact⟨rfl,rfl⟩
set_option maxRecDepth 100000 in
theorem chart_most (w:World) (g o:Nat) (t:ByteArray) (a1:w.cell? ⟨g,o+22,none⟩=some (.string t)) (mv:Value) (n:Int) (ht:t.size≤1048576) :
  Calls Tryz.prog 74 #[mv,.pointer (some ⟨g,o,none⟩),.int .i64 n] w (VRet (.int .i64 (max 1 (wordsF t.data.toList false 0:Nat))) w):=by
 have hg:g<w.heap.size:=World.block_lt_of_cell? w _ a1
 have HL:=zH (words_any t ht w)
 generalize wordsF t.data.toList false 0=r at HL ⊢
 clear ht
 go_enter Tryz.func74,Tryz.ntmps74
 go_wp2_with (go_at_call 75;((with_reducible refine HL.out.mono ?_);rintro e1' w2 ⟨rfl,hw2⟩;obtain rfl:=hw2.symm))
 all_goals
  go_ret
  exact⟨by first|rfl|simp,rfl⟩
end Go.Proofs.YtlenbcmgjancmaaGreatDoor
namespace Go.Proofs.YtlenbcmgjancmaaGreatDoor
open Go.ChangeShapes Go.WideShapes Go.ChangeAt Go.RowKit Go.Joins Go.Deep
structure NSz (x:ND):Prop where
 id:x.id.size≤140737488355328
 cl:x.cl.size≤140737488355328
 tx:x.tx.size≤140737488355328
 kids:x.kids.length≤17592186044416
 cols:x.cols.length≤17592186044416
section
variable {H:Type}
def Sm (t:TypeId) (d:DataW H):Prop:=∀ n ∈ d.weights Tryz.prog t,n≤140737488351232
theorem reach_eq:reachBytes=140737488351232:=by decide
theorem sm_arg {ts:List TypeId} {ds:List (DataW H)} (h:(DataW.weightsEach Tryz.prog ts ds).all (·≤reachBytes)=true) {j:Nat} {t:TypeId} {d:DataW H} (ht:ts[j]?=some t) (hd:ds[j]?=some d):Sm t d:=fun n hn=>by
 have:=List.all_eq_true.1 h _ (DataW.weights_mem_each ht hd n hn)
 rw [reach_eq] at this
 simpa using this
theorem sm_field {t:TypeId} {fs:Array Field} {parts:List (DataW H)} (hu:Tryz.prog.underlying t=some (.struct fs)) (h:Sm t (.agg parts)) {i:Nat} {f:Field} (hf:fs[i]?=some f) {d:DataW H} (hd:parts[i]?=some d):Sm f.type d:=fun n hn=>
 h n (by
  simp only [DataW.weights,hu]
  exact DataW.weights_mem_each (j:=i) (by rw [List.getElem?_map];simp [hf]) hd n hn)
theorem weights_all_mem {e:TypeId}:∀ {ds:List (DataW H)} {d:DataW H},d ∈ ds→∀ n ∈ d.weights Tryz.prog e,n ∈ DataW.weightsAll Tryz.prog e ds
 |x :: ds,d,h,n,hn=>by
  simp only [DataW.weightsAll,List.mem_append]
  rcases List.mem_cons.1 h with rfl|h
  ·exact .inl hn
  ·exact .inr (weights_all_mem h n hn)
theorem sm_elem {t e:TypeId} {es ss:List (DataW H)} (hu:Tryz.prog.underlying t=some (.slice e)) (h:Sm t (.slice es ss)) {d:DataW H} (hd:d ∈ es):Sm e d:=fun n hn=>
 h n (by
  simp only [DataW.weights,hu]
  exact List.mem_cons_of_mem _ (List.mem_append_left _ (weights_all_mem hd n hn)))
theorem sm_len {t e:TypeId} {es ss:List (DataW H)} (hu:Tryz.prog.underlying t=some (.slice e)) (h:Sm t (.slice es ss)):(es.length+ss.length)*Tryz.prog.bytesOf e≤140737488351232 :=
 h _ (by simp [DataW.weights,hu])
theorem sm_str {t:TypeId} {b:List UInt8} (h:Sm (H:=H) t (.lit (.string b))):b.length≤140737488351232:=h _ (by simp [DataW.weights])
end
instance:Inhabited ND:=⟨⟨0,⟨#[]⟩,⟨#[]⟩,[],default,default,0,0,0,0,0,0,0,0,⟨#[]⟩,0,0,0,0,0,[],0,0,0,0,0⟩⟩
section
variable {H:Type} {enc:TypeId × Value→H} {W:World} {spare:Nat→Bool} {held:Bool} {base fuel:Nat}
theorem add_nA (g o i:Nat):(⟨g,o,none⟩:Addr).add i=⟨g,o+i,none⟩:=by
 unfold Addr.add
 split<;>simp_all
theorem open_ints {c:Value} {x:DataW H × List MemPlace} (h:DataW.trod enc Tryz.prog W base spare held fuel 38 [c]=some x) (hs:Sm 38 x.1):∃ l:List Int,l.length≤17592186044416∧SlI W c l∧∀ y ∈ l,-9223372036854775808≤y∧y≤9223372036854775807:=by
 rcases open_slice1 Tryz.underlying38 (show Tryz.prog.cellsOf 3=1 by kernel_rfl) h with ⟨e,_⟩|⟨a,len,cap,m,n,V,D,Pl,e,_,hl,hm,hmm,hx,hc⟩
 ·obtain rfl:c=.slice none 0 0:=by simpa using e
  exact⟨[],by simp,⟨none,0,rfl,by simp,fun i y hi=>by simp at hi⟩,fun y hy=>by simp at hy⟩
 ·obtain rfl:c=.slice (some a) len cap:=by simpa using e
  have hlm:len≤m:=by rw [hmm];split<;>omega
  have hF:∀ i,i<len→∃ y:Int,V i=.int .i64 y∧-9223372036854775808≤y∧y≤9223372036854775807:=fun i hi=>by
   obtain⟨y,e,_,hw⟩:=DataW.trod_int Tryz.underlying3 (hc i (by omega)).2
   exact⟨y,by simpa using e,by simpa [Lit.wf,IntKind.min,IntKind.max,IntKind.signed,IntKind.bits] using hw⟩
  obtain⟨B,hB⟩:=choose_lt hF
  have hlen:len≤17592186044416:=by
   rw [hx] at hs
   have:=sm_len Tryz.underlying38 hs
   rw [show Tryz.prog.bytesOf 3=8 by kernel_rfl] at this
   simp at this
   omega
  refine⟨(List.range len).map B,by simpa using hlen,⟨some a,cap,by simp,by simpa using hlen,fun i y hi=>?_⟩,fun y hy=>?_⟩
  ·have hil:i<len:=by
    rcases Nat.lt_or_ge i len with h|h
    ·exact h
    ·rw [List.getElem?_eq_none (by simpa using h)] at hi;cases hi
   simp [hil] at hi
   subst hi
   have hci:=(hc i (by omega)).1
   have hsp:=World.cell?_spot (hc 0 (by omega)).1
   have hlt:=World.block_lt_of_cell? _ _ (hc 0 (by omega)).1
   obtain⟨g,o,spot⟩:=a
   have:spot=none:=by simpa [Addr.add] using hsp
   subst this
   refine⟨g,o,rfl,by simpa [Addr.add] using hlt,?_⟩
   rw [← add_nA,hci,(hB i hil).1]
  ·obtain⟨i,hi,rfl⟩:=List.mem_map.1 hy
   exact(hB i (List.mem_range.1 hi)).2
theorem field_of {t:TypeId} {k i off n:Nat} {cs u:List Value} {xs:List (DataW H × List MemPlace)} {y:DataW H × List MemPlace} (hf:DataW.trod enc Tryz.prog W base spare held n t ((cs.drop off).take (Tryz.prog.cellsOf t))=xs[i]?) (hk:Tryz.prog.cellsOf t=k) (hu:(cs.drop off).take k=u) (hx:xs[i]?=some y):DataW.trod enc Tryz.prog W base spare held n t u=some y:=by
 rw [hk,hu,hx] at hf
 exact hf
set_option maxRecDepth 100000 in
theorem open_item {cs:List Value} {x:DataW H × List MemPlace} (h:DataW.trod enc Tryz.prog W base spare held fuel 40 cs=some x):∃ it:Itm,cs=[.int .i8 it.k,.int .i64 it.n,.int .i64 it.d,.int .i64 it.mn,.int .i64 it.mx]:=by
 obtain⟨xs,n,_,_,hl,hxl,hf⟩:=DataW.trod_struct Tryz.underlying40 h
 have hx5:xs.length=5:=hxl
 rw [show Tryz.prog.cellsOf 40=5 by kernel_rfl] at hl
 match cs,hl with
 | [c0,c1,c2,c3,c4],_=>
  have k1:Tryz.prog.cellsOf 3=1:=by kernel_rfl
  have k2:Tryz.prog.cellsOf 36=1:=by kernel_rfl
  have g:∀ i,i<5→∃ y,xs[i]?=some y:=fun i hi=>⟨_,List.getElem?_eq_getElem (by omega)⟩
  obtain⟨y0,e0⟩:=g 0 (by omega)
  obtain⟨y1,e1⟩:=g 1 (by omega)
  obtain⟨y2,e2⟩:=g 2 (by omega)
  obtain⟨y3,e3⟩:=g 3 (by omega)
  obtain⟨y4,e4⟩:=g 4 (by omega)
  have f0:DataW.trod enc Tryz.prog W base spare held n 36 [c0]=some y0:=field_of (hf 0 _ rfl) k2 rfl e0
  have f1:DataW.trod enc Tryz.prog W base spare held n 3 [c1]=some y1:=field_of (hf 1 _ rfl) k1 rfl e1
  have f2:DataW.trod enc Tryz.prog W base spare held n 3 [c2]=some y2:=field_of (hf 2 _ rfl) k1 rfl e2
  have f3:DataW.trod enc Tryz.prog W base spare held n 3 [c3]=some y3:=field_of (hf 3 _ rfl) k1 rfl e3
  have f4:DataW.trod enc Tryz.prog W base spare held n 3 [c4]=some y4:=field_of (hf 4 _ rfl) k1 rfl e4
  obtain⟨a0,q0,_⟩:=DataW.trod_int (k:=.i8) Tryz.underlying36 f0
  obtain⟨a1,q1,_⟩:=DataW.trod_int (k:=.i64) Tryz.underlying3 f1
  obtain⟨a2,q2,_⟩:=DataW.trod_int (k:=.i64) Tryz.underlying3 f2
  obtain⟨a3,q3,_⟩:=DataW.trod_int (k:=.i64) Tryz.underlying3 f3
  obtain⟨a4,q4,_⟩:=DataW.trod_int (k:=.i64) Tryz.underlying3 f4
  simp at q0 q1 q2 q3 q4
  subst q0 q1 q2 q3 q4
  exact⟨⟨a0,a1,a2,a3,a4⟩,rfl⟩
theorem open_items {c:Value} {x:DataW H × List MemPlace} (h:DataW.trod enc Tryz.prog W base spare held fuel 44 [c]=some x) (hs:Sm 44 x.1):∃ l:List Itm,l.length≤4398046511104∧SlT W c l:=by
 rcases open_slice Tryz.underlying44 h with ⟨e,_⟩|⟨a,len,cap,m,n,D,Pl,e,_,hl,hm,hmm,hx,hc⟩
 ·obtain rfl:c=.slice none 0 0:=by simpa using e
  exact⟨[],by simp,none,0,rfl,by simp,fun i y hi=>by simp at hi⟩
 ·obtain rfl:c=.slice (some a) len cap:=by simpa using e
  have hlm:len≤m:=by rw [hmm];split<;>omega
  have k5:Tryz.prog.cellsOf 40=5:=by kernel_rfl
  rw [k5] at hc
  have hlen:len≤4398046511104:=by
   rw [hx] at hs
   have:=sm_len Tryz.underlying44 hs
   rw [show Tryz.prog.bytesOf 40=40 by kernel_rfl] at this
   simp at this
   omega
  have hsp:0<len→a.spot=none:=fun h=>by
   obtain⟨cs',h1,_⟩:=hc 0 (by omega)
   obtain⟨_,hlen,hcell⟩:=World.cells?_some h1
   have e0:=hcell 0 (by omega)
   rw [List.getElem?_eq_getElem (by omega)] at e0
   simpa [Addr.add] using World.cell?_spot e0
  have hF:∀ i,i<len→∃ it:Itm,a.block<W.heap.size∧ItmAt W a.block (a.off+i*5) it:=fun i hi=>by
   obtain⟨cs',h1,h2⟩:=hc i (by omega)
   obtain⟨_,hlen,hcell⟩:=World.cells?_some h1
   obtain⟨it,rfl⟩:=open_item h2
   have e0:=hcell 0 (by omega)
   have e1:=hcell 1 (by omega)
   have e2:=hcell 2 (by omega)
   have e3:=hcell 3 (by omega)
   have e4:=hcell 4 (by omega)
   have hs:=hsp (by omega)
   have hlt:=World.block_lt_of_cell? _ _ e0
   obtain⟨g,o,spot⟩:=a
   simp only at hs
   subst hs
   rw [add_nA,add_nA] at e0 e1 e2 e3 e4
   rw [add_nA,add_nA] at hlt
   exact⟨it,hlt,e0,e1,e2,e3,e4⟩
  obtain⟨B,hB⟩:=choose_lt hF
  refine⟨(List.range len).map B,by simpa using hlen,some a,cap,by simp,by simpa using hlen,fun i y hi=>?_⟩
  have hil:i<len:=by
   rcases Nat.lt_or_ge i len with h|h
   ·exact h
   ·rw [List.getElem?_eq_none (by simpa using h)] at hi;cases hi
  simp [hil] at hi
  subst hi
  have hs:=hsp (by omega)
  obtain⟨g,o,spot⟩:=a
  simp only at hs
  subst hs
  exact⟨g,o,rfl,(hB i hil).1,(hB i hil).2⟩
def node34 (y:ND) (kv cv:Value):List Value:=[.int .i8 y.kd,.string y.id,.string y.cl,kv,.int .i8 y.wd.k,.int .i64 y.wd.n,.int .i64 y.wd.d,.int .i64 y.wd.mn,.int .i64 y.wd.mx,.int .i8 y.ht.k,.int .i64 y.ht.n,.int .i64 y.ht.d,.int .i64 y.ht.mn,.int .i64 y.ht.mx,.int .i64 y.gap,.int .i64 y.p0,.int .i64 y.p1,.int .i64 y.p2,.int .i64 y.p3,.int .i8 y.bd,.int .i8 y.al,.int .i8 y.cr,.string y.tx,.int .i8 y.md,.int .i32 y.fg,.int .i32 y.bg,.int .u8 y.ad,.int .u8 y.dr,cv,.int .i64 y.x0,.int .i64 y.x1,.int .i64 y.x2,.int .i64 y.x3,.int .u8 y.fl]
theorem consOf {α:Type} {n:Nat} {l:List α} (h:l.length=n+1):∃ a t,l=a :: t∧t.length=n:=by
 cases l with
 |nil=>simp at h
 |cons a t=>exact⟨a,t,rfl,by simpa using h⟩
theorem list34 {α:Type} (l:List α) (h:l.length=34):∃ c0 c1 c2 c3 c4 c5 c6 c7 c8 c9 c10 c11 c12 c13 c14 c15 c16 c17 c18 c19 c20 c21 c22 c23 c24 c25 c26 c27 c28 c29 c30 c31 c32 c33,l=[c0,c1,c2,c3,c4,c5,c6,c7,c8,c9,c10,c11,c12,c13,c14,c15,c16,c17,c18,c19,c20,c21,c22,c23,c24,c25,c26,c27,c28,c29,c30,c31,c32,c33]:=by
 obtain⟨c0,l0,e0,h0⟩:=consOf h
 subst e0
 obtain⟨c1,l1,e1,h1⟩:=consOf h0
 subst e1
 obtain⟨c2,l2,e2,h2⟩:=consOf h1
 subst e2
 obtain⟨c3,l3,e3,h3⟩:=consOf h2
 subst e3
 obtain⟨c4,l4,e4,h4⟩:=consOf h3
 subst e4
 obtain⟨c5,l5,e5,h5⟩:=consOf h4
 subst e5
 obtain⟨c6,l6,e6,h6⟩:=consOf h5
 subst e6
 obtain⟨c7,l7,e7,h7⟩:=consOf h6
 subst e7
 obtain⟨c8,l8,e8,h8⟩:=consOf h7
 subst e8
 obtain⟨c9,l9,e9,h9⟩:=consOf h8
 subst e9
 obtain⟨c10,l10,e10,h10⟩:=consOf h9
 subst e10
 obtain⟨c11,l11,e11,h11⟩:=consOf h10
 subst e11
 obtain⟨c12,l12,e12,h12⟩:=consOf h11
 subst e12
 obtain⟨c13,l13,e13,h13⟩:=consOf h12
 subst e13
 obtain⟨c14,l14,e14,h14⟩:=consOf h13
 subst e14
 obtain⟨c15,l15,e15,h15⟩:=consOf h14
 subst e15
 obtain⟨c16,l16,e16,h16⟩:=consOf h15
 subst e16
 obtain⟨c17,l17,e17,h17⟩:=consOf h16
 subst e17
 obtain⟨c18,l18,e18,h18⟩:=consOf h17
 subst e18
 obtain⟨c19,l19,e19,h19⟩:=consOf h18
 subst e19
 obtain⟨c20,l20,e20,h20⟩:=consOf h19
 subst e20
 obtain⟨c21,l21,e21,h21⟩:=consOf h20
 subst e21
 obtain⟨c22,l22,e22,h22⟩:=consOf h21
 subst e22
 obtain⟨c23,l23,e23,h23⟩:=consOf h22
 subst e23
 obtain⟨c24,l24,e24,h24⟩:=consOf h23
 subst e24
 obtain⟨c25,l25,e25,h25⟩:=consOf h24
 subst e25
 obtain⟨c26,l26,e26,h26⟩:=consOf h25
 subst e26
 obtain⟨c27,l27,e27,h27⟩:=consOf h26
 subst e27
 obtain⟨c28,l28,e28,h28⟩:=consOf h27
 subst e28
 obtain⟨c29,l29,e29,h29⟩:=consOf h28
 subst e29
 obtain⟨c30,l30,e30,h30⟩:=consOf h29
 subst e30
 obtain⟨c31,l31,e31,h31⟩:=consOf h30
 subst e31
 obtain⟨c32,l32,e32,h32⟩:=consOf h31
 subst e32
 obtain⟨c33,l33,e33,h33⟩:=consOf h32
 subst e33
 obtain rfl:=List.length_eq_zero_iff.1 h33
 exact⟨c0,c1,c2,c3,c4,c5,c6,c7,c8,c9,c10,c11,c12,c13,c14,c15,c16,c17,c18,c19,c20,c21,c22,c23,c24,c25,c26,c27,c28,c29,c30,c31,c32,c33,rfl⟩
theorem sizeOf_list {b:ByteArray} (h:b.data.toList.length≤140737488351232):b.size≤140737488355328:=by
 have:b.size=b.data.toList.length:=(Array.length_toList).symm
 omega
theorem wf8 {n:Int} (h:(Lit.int .i8 n).wf=true) : -128≤n∧n≤127:=by simpa [Lit.wf,IntKind.min,IntKind.max,IntKind.signed,IntKind.bits] using h
set_option maxRecDepth 100000 in
set_option maxHeartbeats 4000000 in
theorem open_node {cs:List Value} {x:DataW H × List MemPlace} (h:DataW.trod enc Tryz.prog W base spare held fuel 46 cs=some x) (hs:Sm 46 x.1):∃ (y:ND) (kv cv:Value),cs=node34 y kv cv∧X8 y∧NSz y∧SlI W kv y.kids∧SlT W cv y.cols:=by
 obtain⟨xs,n,_,hx,hl,hxl,hf⟩:=DataW.trod_struct Tryz.underlying46 h
 rw [show Tryz.prog.cellsOf 46=34 by kernel_rfl] at hl
 have hx17:xs.length=17:=hxl
 rw [hx] at hs
 obtain⟨c0,c1,c2,c3,c4,c5,c6,c7,c8,c9,c10,c11,c12,c13,c14,c15,c16,c17,c18,c19,c20,c21,c22,c23,c24,c25,c26,c27,c28,c29,c30,c31,c32,c33,rfl⟩:=list34 cs hl
 have k1:Tryz.prog.cellsOf 3=1:=by kernel_rfl
 have k2:Tryz.prog.cellsOf 36=1:=by kernel_rfl
 have k3:Tryz.prog.cellsOf 9=1:=by kernel_rfl
 have k4:Tryz.prog.cellsOf 38=1:=by kernel_rfl
 have k5:Tryz.prog.cellsOf 40=5:=by kernel_rfl
 have k6:Tryz.prog.cellsOf 37=4:=by kernel_rfl
 have k7:Tryz.prog.cellsOf 43=4:=by kernel_rfl
 have k8:Tryz.prog.cellsOf 44=1:=by kernel_rfl
 have k9:Tryz.prog.cellsOf 5=1:=by kernel_rfl
 have k10:Tryz.prog.cellsOf 41=1:=by kernel_rfl
 have g:∀ i,i<17→∃ y,xs[i]?=some y:=fun i hi=>⟨_,List.getElem?_eq_getElem (by omega)⟩
 have gm:∀ {i:Nat} {y:DataW H × List MemPlace},xs[i]?=some y→(xs.map (·.1))[i]?=some y.1:=fun h=>by rw [List.getElem?_map,h];rfl
 obtain⟨y0,e0⟩:=g 0 (by omega)
 have f0:DataW.trod enc Tryz.prog W base spare held n 36 [c0]=some y0:=field_of (hf 0 _ rfl) k2 rfl e0
 obtain⟨a0,q0,_,w0⟩:=DataW.trod_int (k:=.i8) Tryz.underlying36 f0
 obtain⟨y1,e1⟩:=g 1 (by omega)
 have f1:DataW.trod enc Tryz.prog W base spare held n 9 [c1]=some y1:=field_of (hf 1 _ rfl) k3 rfl e1
 obtain⟨a1,q1,r1,_⟩:=DataW.trod_string Tryz.underlying9 f1
 have s1:=sm_field Tryz.underlying46 hs (i:=1) rfl (gm e1)
 rw [r1] at s1
 have z1:=sm_str s1
 obtain⟨y2,e2⟩:=g 2 (by omega)
 have f2:DataW.trod enc Tryz.prog W base spare held n 9 [c2]=some y2:=field_of (hf 2 _ rfl) k3 rfl e2
 obtain⟨a2,q2,r2,_⟩:=DataW.trod_string Tryz.underlying9 f2
 have s2:=sm_field Tryz.underlying46 hs (i:=2) rfl (gm e2)
 rw [r2] at s2
 have z2:=sm_str s2
 obtain⟨y3,e3⟩:=g 3 (by omega)
 have f3:DataW.trod enc Tryz.prog W base spare held n 38 [c3]=some y3:=field_of (hf 3 _ rfl) k4 rfl e3
 obtain⟨a3,z3,q3,_⟩:=open_ints f3 (sm_field Tryz.underlying46 hs (i:=3) rfl (gm e3))
 obtain⟨y4,e4⟩:=g 4 (by omega)
 have f4:DataW.trod enc Tryz.prog W base spare held n 40 [c4,c5,c6,c7,c8]=some y4:=field_of (hf 4 _ rfl) k5 rfl e4
 obtain⟨a4,q4⟩:=open_item f4
 obtain⟨y5,e5⟩:=g 5 (by omega)
 have f5:DataW.trod enc Tryz.prog W base spare held n 40 [c9,c10,c11,c12,c13]=some y5:=field_of (hf 5 _ rfl) k5 rfl e5
 obtain⟨a5,q5⟩:=open_item f5
 obtain⟨y6,e6⟩:=g 6 (by omega)
 have f6:DataW.trod enc Tryz.prog W base spare held n 3 [c14]=some y6:=field_of (hf 6 _ rfl) k1 rfl e6
 obtain⟨a6,q6,_,w6⟩:=DataW.trod_int (k:=.i64) Tryz.underlying3 f6
 obtain⟨y7,e7⟩:=g 7 (by omega)
 have f7:DataW.trod enc Tryz.prog W base spare held n 37 [c15,c16,c17,c18]=some y7:=field_of (hf 7 _ rfl) k6 rfl e7
 obtain⟨u7,v7,s7,t7,_,_,g7a,g7b,g7c,g7d⟩:=trod_array4 Tryz.underlying37 k1 f7
 obtain⟨a7a,q7a,_⟩:=DataW.trod_int (k:=.i64) Tryz.underlying3 g7a
 obtain⟨a7b,q7b,_⟩:=DataW.trod_int (k:=.i64) Tryz.underlying3 g7b
 obtain⟨a7c,q7c,_⟩:=DataW.trod_int (k:=.i64) Tryz.underlying3 g7c
 obtain⟨a7d,q7d,_⟩:=DataW.trod_int (k:=.i64) Tryz.underlying3 g7d
 obtain⟨y8,e8⟩:=g 8 (by omega)
 have f8:DataW.trod enc Tryz.prog W base spare held n 36 [c19]=some y8:=field_of (hf 8 _ rfl) k2 rfl e8
 obtain⟨a8,q8,_,w8⟩:=DataW.trod_int (k:=.i8) Tryz.underlying36 f8
 obtain⟨y9,e9⟩:=g 9 (by omega)
 have f9:DataW.trod enc Tryz.prog W base spare held n 36 [c20]=some y9:=field_of (hf 9 _ rfl) k2 rfl e9
 obtain⟨a9,q9,_,w9⟩:=DataW.trod_int (k:=.i8) Tryz.underlying36 f9
 obtain⟨y10,e10⟩:=g 10 (by omega)
 have f10:DataW.trod enc Tryz.prog W base spare held n 36 [c21]=some y10:=field_of (hf 10 _ rfl) k2 rfl e10
 obtain⟨a10,q10,_,w10⟩:=DataW.trod_int (k:=.i8) Tryz.underlying36 f10
 obtain⟨y11,e11⟩:=g 11 (by omega)
 have f11:DataW.trod enc Tryz.prog W base spare held n 9 [c22]=some y11:=field_of (hf 11 _ rfl) k3 rfl e11
 obtain⟨a11,q11,r11,_⟩:=DataW.trod_string Tryz.underlying9 f11
 have s11:=sm_field Tryz.underlying46 hs (i:=11) rfl (gm e11)
 rw [r11] at s11
 have z11:=sm_str s11
 obtain⟨y12,e12⟩:=g 12 (by omega)
 have f12:DataW.trod enc Tryz.prog W base spare held n 36 [c23]=some y12:=field_of (hf 12 _ rfl) k2 rfl e12
 obtain⟨a12,q12,_,w12⟩:=DataW.trod_int (k:=.i8) Tryz.underlying36 f12
 obtain⟨y13,e13⟩:=g 13 (by omega)
 have f13:DataW.trod enc Tryz.prog W base spare held n 43 [c24,c25,c26,c27]=some y13:=field_of (hf 13 _ rfl) k7 rfl e13
 obtain⟨ps,n2,_,_,_,hpl,hp⟩:=DataW.trod_struct Tryz.underlying43 f13
 have hp4:ps.length=4:=hpl
 have gp:∀ i,i<4→∃ y,ps[i]?=some y:=fun i hi=>⟨_,List.getElem?_eq_getElem (by omega)⟩
 obtain⟨yp0,ep0⟩:=gp 0 (by omega)
 have fp0:DataW.trod enc Tryz.prog W base spare held n2 41 [c24]=some yp0:=field_of (hp 0 _ rfl) k10 rfl ep0
 obtain⟨ap0,qp0,_⟩:=DataW.trod_int (k:=.i32) Tryz.underlying41 fp0
 obtain⟨yp1,ep1⟩:=gp 1 (by omega)
 have fp1:DataW.trod enc Tryz.prog W base spare held n2 41 [c25]=some yp1:=field_of (hp 1 _ rfl) k10 rfl ep1
 obtain⟨ap1,qp1,_⟩:=DataW.trod_int (k:=.i32) Tryz.underlying41 fp1
 obtain⟨yp2,ep2⟩:=gp 2 (by omega)
 have fp2:DataW.trod enc Tryz.prog W base spare held n2 5 [c26]=some yp2:=field_of (hp 2 _ rfl) k9 rfl ep2
 obtain⟨ap2,qp2,_⟩:=DataW.trod_int (k:=.u8) Tryz.underlying5 fp2
 obtain⟨yp3,ep3⟩:=gp 3 (by omega)
 have fp3:DataW.trod enc Tryz.prog W base spare held n2 5 [c27]=some yp3:=field_of (hp 3 _ rfl) k9 rfl ep3
 obtain⟨ap3,qp3,_⟩:=DataW.trod_int (k:=.u8) Tryz.underlying5 fp3
 obtain⟨y14,e14⟩:=g 14 (by omega)
 have f14:DataW.trod enc Tryz.prog W base spare held n 44 [c28]=some y14:=field_of (hf 14 _ rfl) k8 rfl e14
 obtain⟨a14,z14,q14⟩:=open_items f14 (sm_field Tryz.underlying46 hs (i:=14) rfl (gm e14))
 obtain⟨y15,e15⟩:=g 15 (by omega)
 have f15:DataW.trod enc Tryz.prog W base spare held n 37 [c29,c30,c31,c32]=some y15:=field_of (hf 15 _ rfl) k6 rfl e15
 obtain⟨u15,v15,s15,t15,_,_,g15a,g15b,g15c,g15d⟩:=trod_array4 Tryz.underlying37 k1 f15
 obtain⟨a15a,q15a,_⟩:=DataW.trod_int (k:=.i64) Tryz.underlying3 g15a
 obtain⟨a15b,q15b,_⟩:=DataW.trod_int (k:=.i64) Tryz.underlying3 g15b
 obtain⟨a15c,q15c,_⟩:=DataW.trod_int (k:=.i64) Tryz.underlying3 g15c
 obtain⟨a15d,q15d,_⟩:=DataW.trod_int (k:=.i64) Tryz.underlying3 g15d
 obtain⟨y16,e16⟩:=g 16 (by omega)
 have f16:DataW.trod enc Tryz.prog W base spare held n 5 [c33]=some y16:=field_of (hf 16 _ rfl) k9 rfl e16
 obtain⟨a16,q16,_,w16⟩:=DataW.trod_int (k:=.u8) Tryz.underlying5 f16
 simp only [List.cons.injEq,and_true] at q0 q1 q2 q4 q5 q6 q8 q9 q10 q11 q12 q16 q7a q7b q7c q7d q15a q15b q15c q15d qp0 qp1 qp2 qp3
 obtain⟨rfl,rfl,rfl,rfl,rfl⟩:=q4
 obtain⟨rfl,rfl,rfl,rfl,rfl⟩:=q5
 subst q0 q1 q2 q6 q8 q9 q10 q11 q12 q16 q7a q7b q7c q7d q15a q15b q15c q15d qp0 qp1 qp2 qp3
 exact⟨⟨a0,a1,a2,a3,a4,a5,a6,a7a,a7b,a7c,a7d,a8,a9,a10,a11,a12,ap0,ap1,ap2,ap3,a14,a15a,a15b,a15c,a15d,a16⟩,c3,c28,rfl,⟨wf8 w8,wf8 w9,wf8 w10,wf8 w12⟩,⟨sizeOf_list z1,sizeOf_list z2,sizeOf_list z11,z3,by have:=z14;show a14.length≤_;omega⟩,q3,q14⟩
theorem node34_get (y:ND) (kv cv:Value) {W:World} {g o:Nat} (h:∀ j,j<34→W.cell? ⟨g,o+j,none⟩=(node34 y kv cv)[j]?):NodeV W g o y kv cv:=by
 constructor
 ·exact h 0 (by omega)
 ·exact h 1 (by omega)
 ·exact h 2 (by omega)
 ·exact h 3 (by omega)
 ·exact h 4 (by omega)
 ·exact h 5 (by omega)
 ·exact h 6 (by omega)
 ·exact h 7 (by omega)
 ·exact h 8 (by omega)
 ·exact h 9 (by omega)
 ·exact h 10 (by omega)
 ·exact h 11 (by omega)
 ·exact h 12 (by omega)
 ·exact h 13 (by omega)
 ·exact h 14 (by omega)
 ·exact h 15 (by omega)
 ·exact h 16 (by omega)
 ·exact h 17 (by omega)
 ·exact h 18 (by omega)
 ·exact h 19 (by omega)
 ·exact h 20 (by omega)
 ·exact h 21 (by omega)
 ·exact h 22 (by omega)
 ·exact h 23 (by omega)
 ·exact h 24 (by omega)
 ·exact h 25 (by omega)
 ·exact h 26 (by omega)
 ·exact h 27 (by omega)
 ·exact h 28 (by omega)
 ·exact h 29 (by omega)
 ·exact h 30 (by omega)
 ·exact h 31 (by omega)
 ·exact h 32 (by omega)
 ·exact h 33 (by omega)
theorem open_tree {c:Value} {x:DataW H × List MemPlace} (h:DataW.trod enc Tryz.prog W base spare held fuel 22 [c]=some x) (hs:Sm 22 x.1) :
  ∃ (ns:List ND) (p:Option Addr) (cap:Nat),c=.slice p ns.length cap∧ns.length≤4398046511104∧TreeAt W p ns∧(∀ y ∈ ns,X8 y)∧(∀ y ∈ ns,NSz y):=by
 rcases open_slice Tryz.underlying22 h with ⟨e,_⟩|⟨a,len,cap,m,n,D,Pl,e,_,hl,hm,hmm,hx,hc⟩
 ·obtain rfl:c=.slice none 0 0:=by simpa using e
  exact⟨[],none,0,rfl,by simp,fun i y hi=>by simp at hi,fun y hy=>by simp at hy,fun y hy=>by simp at hy⟩
 ·obtain rfl:c=.slice (some a) len cap:=by simpa using e
  have hlm:len≤m:=by rw [hmm];split<;>omega
  rw [show Tryz.prog.cellsOf 46=34 by kernel_rfl] at hc
  rw [hx] at hs
  have hlen:len≤4398046511104:=by
   have:=sm_len Tryz.underlying22 hs
   rw [show Tryz.prog.bytesOf 46=288 by kernel_rfl] at this
   simp at this
   omega
  have hsp:0<len→a.spot=none:=fun h=>by
   obtain⟨cs',h1,_⟩:=hc 0 (by omega)
   obtain⟨_,hlen,hcell⟩:=World.cells?_some h1
   have e0:=hcell 0 (by omega)
   rw [List.getElem?_eq_getElem (by omega)] at e0
   simpa [Addr.add] using World.cell?_spot e0
  have hF:∀ i,i<len→∃ y:ND,a.block<W.heap.size∧X8 y∧NSz y∧∃ kv cv,NodeV W a.block (a.off+i*34) y kv cv∧SlI W kv y.kids∧SlT W cv y.cols:=fun i hi=>by
   obtain⟨cs',h1,h2⟩:=hc i (by omega)
   obtain⟨_,hl34,hcell⟩:=World.cells?_some h1
   have hsi:Sm 46 (D i):=sm_elem Tryz.underlying22 hs (List.mem_map.2 ⟨i,List.mem_range.2 hi,rfl⟩)
   obtain⟨y,kv,cv,rfl,h8,hz,hk,hv⟩:=open_node h2 hsi
   have e0:=hcell 0 (by omega)
   have hs:=hsp (by omega)
   have hlt:=World.block_lt_of_cell? _ _ (show W.cell? _=some (.int .i8 y.kd) from e0)
   obtain⟨g,o,spot⟩:=a
   simp only at hs
   subst hs
   rw [add_nA,add_nA] at hlt
   refine⟨y,hlt,h8,hz,kv,cv,node34_get y kv cv fun j hj=>?_,hk,hv⟩
   have:=hcell j (by omega)
   rw [add_nA,add_nA] at this
   exact this
  obtain⟨B,hB⟩:=choose_lt (α:=ND) (p:=fun i y=>a.block<W.heap.size∧X8 y∧NSz y∧∃ kv cv,NodeV W a.block (a.off+i*34) y kv cv∧SlI W kv y.kids∧SlT W cv y.cols) hF
  refine⟨(List.range len).map B,some a,cap,by simp,by simpa using hlen,fun i y hi=>?_,fun y hy=>?_,fun y hy=>?_⟩
  ·have hil:i<len:=by
    rcases Nat.lt_or_ge i len with h|h
    ·exact h
    ·rw [List.getElem?_eq_none (by simpa using h)] at hi;cases hi
   simp [hil] at hi
   subst hi
   have hs:=hsp (by omega)
   obtain⟨g,o,spot⟩:=a
   simp only at hs
   subst hs
   obtain⟨q1,_,_,kv,cv,q2,q3,q4⟩:=hB i hil
   exact⟨g,o,rfl,q1,kv,cv,q2,q3,q4⟩
  ·obtain⟨i,hi,rfl⟩:=List.mem_map.1 hy
   exact(hB i (List.mem_range.1 hi)).2.1
  ·obtain⟨i,hi,rfl⟩:=List.mem_map.1 hy
   exact(hB i (List.mem_range.1 hi)).2.2.1
end
end Go.Proofs.YtlenbcmgjancmaaGreatDoor
