/-
 The walks of measure.words and of a chart's width.
-/
import Derived.Test.YthhomflonpjbmaaGreatDoorMb32
set_option linter.unusedVariables false
set_option linter.unusedSimpArgs false
namespace Go.Proofs.YthhomflonpjbmaaGreatDoor
open Go.RowKit Go.Maps
theorem words_step {l : List UInt8} {k m : Nat} {was : Bool} {b : UInt8} (h : l[k]? = some b) : wordsF (l.drop k) was m = wordsF (l.drop (k + 1)) (!blankB b) (if blankB b = false∧was = false then m + 1 else m):=by
 obtain ⟨h1,e1⟩:=List.getElem?_eq_some_iff.1 h
 rw [List.drop_eq_getElem_cons h1,e1]
 rfl
theorem blank_nat (b : UInt8) : blankB b = decide (b.toNat = 32∨b.toNat = 9∨b.toNat = 10∨b.toNat = 13):=by
 have e : ∀ n : Nat,n < 256→(b == UInt8.ofNat n) = decide (b.toNat = n):=fun n hn=>by
  rw [Bool.eq_iff_iff]
  simp only [beq_iff_eq,decide_eq_true_eq]
  constructor
  ·intro h;rw [h];simp;omega
  ·intro h;apply UInt8.toNat_inj.1;rw [h];simp;omega
 unfold blankB
 rw [show (32 : UInt8) = UInt8.ofNat 32 from rfl,show (9 : UInt8) = UInt8.ofNat 9 from rfl,show (10 : UInt8) = UInt8.ofNat 10 from rfl,show (13 : UInt8) = UInt8.ofNat 13 from rfl,e 32 (by omega),e 9 (by omega),e 10 (by omega),e 13 (by omega)]
 simp [Bool.decide_or,Bool.or_assoc]
set_option maxRecDepth 100000 in
set_option maxHeartbeats 4000000 in
theorem words_any (s : ByteArray) (hs : s.size≤1048576) (w : World) : Calls Tryz.prog 75 #[.string s] w (VRet (.int .i64 (wordsF s.data.toList false 0 : Nat)) w):=by
 obtain ⟨R,hR⟩ : ∃ R,wordsF s.data.toList false 0 = R:=⟨_,rfl⟩
 rw [hR]
 go_enter Tryz.func75,Tryz.ntmps75
 go_wp2
 go_loopw [9,3,4] (fun i n b wr=>∃ (k m : Nat) (was : Bool),i = .int .i64 k∧k≤s.size∧n = .int .i64 m∧m≤k∧b = .bool was∧wordsF (s.data.toList.drop k) was m = R∧wr = w) (fun i _ _ _=>s.size - (intOf i).toNat)
 case atStart=>exact ⟨0,0,false,rfl,by omega,rfl,by omega,rfl,by simpa using hR,by first | rfl | trivial⟩
 case round=>
  obtain ⟨k,m,was,rfl,hk,rfl,hm,rfl,hW,rfl⟩:=hrel
  clear hR
  by_cases hlt : k < s.size
  ·have hb : s.data.toList[k]? = some s[k]:=by rw [List.getElem?_eq_getElem (by simpa using hlt)];rfl
   by_cases hc : s[k].toNat = 32
   ·skip
    have hB : blankB s[k] = true:=by rw [blank_nat];simp [hc]
    cases was
    ·have HT : Hid (wordsF (s.data.toList.drop (k + 1)) false (m) = R):=zH (by rw [← hW,words_step hb,hB];simp)
     clear hW hb hB
     go_wp2
     go_roundw
     case rel=>exact ⟨k + 1,m,false,by first | rfl | go_num,by omega,by first | rfl | go_num,by omega,by first | rfl | trivial,HT.out,by first | rfl | trivial⟩
     case measure=>simp [intOf] <;> omega
    ·have HT : Hid (wordsF (s.data.toList.drop (k + 1)) false (m) = R):=zH (by rw [← hW,words_step hb,hB];simp)
     clear hW hb hB
     go_wp2
     go_roundw
     case rel=>exact ⟨k + 1,m,false,by first | rfl | go_num,by omega,by first | rfl | go_num,by omega,by first | rfl | trivial,HT.out,by first | rfl | trivial⟩
     case measure=>simp [intOf] <;> omega
   by_cases hc9 : s[k].toNat = 9
   ·skip
    have n32 : ((s[k].toNat : Int) == 32) = false:=by rw [beq_eq_false_iff_ne];omega
    have m32 : ((s[k].toNat : Int) = 32) = False:=eq_false (by omega)
    have k32 : ((s[k].toNat : Int) != 32) = true:=by rw [bne,n32];rfl
    have l32 : decide ((s[k].toNat : Int) = 32) = false:=decide_eq_false (by omega)
    clear hc
    have hc:=hc9
    clear hc9
    have hB : blankB s[k] = true:=by rw [blank_nat];simp [hc]
    cases was
    ·have HT : Hid (wordsF (s.data.toList.drop (k + 1)) false (m) = R):=zH (by rw [← hW,words_step hb,hB];simp)
     clear hW hb hB
     go_wp2
     go_roundw
     case rel=>exact ⟨k + 1,m,false,by first | rfl | go_num,by omega,by first | rfl | go_num,by omega,by first | rfl | trivial,HT.out,by first | rfl | trivial⟩
     case measure=>simp [intOf] <;> omega
    ·have HT : Hid (wordsF (s.data.toList.drop (k + 1)) false (m) = R):=zH (by rw [← hW,words_step hb,hB];simp)
     clear hW hb hB
     go_wp2
     go_roundw
     case rel=>exact ⟨k + 1,m,false,by first | rfl | go_num,by omega,by first | rfl | go_num,by omega,by first | rfl | trivial,HT.out,by first | rfl | trivial⟩
     case measure=>simp [intOf] <;> omega
   by_cases hc10 : s[k].toNat = 10
   ·skip
    have n32 : ((s[k].toNat : Int) == 32) = false:=by rw [beq_eq_false_iff_ne];omega
    have m32 : ((s[k].toNat : Int) = 32) = False:=eq_false (by omega)
    have k32 : ((s[k].toNat : Int) != 32) = true:=by rw [bne,n32];rfl
    have l32 : decide ((s[k].toNat : Int) = 32) = false:=decide_eq_false (by omega)
    have n9 : ((s[k].toNat : Int) == 9) = false:=by rw [beq_eq_false_iff_ne];omega
    have m9 : ((s[k].toNat : Int) = 9) = False:=eq_false (by omega)
    have k9 : ((s[k].toNat : Int) != 9) = true:=by rw [bne,n9];rfl
    have l9 : decide ((s[k].toNat : Int) = 9) = false:=decide_eq_false (by omega)
    clear hc hc9
    have hc:=hc10
    clear hc10
    have hB : blankB s[k] = true:=by rw [blank_nat];simp [hc]
    cases was
    ·have HT : Hid (wordsF (s.data.toList.drop (k + 1)) false (m) = R):=zH (by rw [← hW,words_step hb,hB];simp)
     clear hW hb hB
     go_wp2
     go_roundw
     case rel=>exact ⟨k + 1,m,false,by first | rfl | go_num,by omega,by first | rfl | go_num,by omega,by first | rfl | trivial,HT.out,by first | rfl | trivial⟩
     case measure=>simp [intOf] <;> omega
    ·have HT : Hid (wordsF (s.data.toList.drop (k + 1)) false (m) = R):=zH (by rw [← hW,words_step hb,hB];simp)
     clear hW hb hB
     go_wp2
     go_roundw
     case rel=>exact ⟨k + 1,m,false,by first | rfl | go_num,by omega,by first | rfl | go_num,by omega,by first | rfl | trivial,HT.out,by first | rfl | trivial⟩
     case measure=>simp [intOf] <;> omega
   by_cases hc13 : s[k].toNat = 13
   ·skip
    have n32 : ((s[k].toNat : Int) == 32) = false:=by rw [beq_eq_false_iff_ne];omega
    have m32 : ((s[k].toNat : Int) = 32) = False:=eq_false (by omega)
    have k32 : ((s[k].toNat : Int) != 32) = true:=by rw [bne,n32];rfl
    have l32 : decide ((s[k].toNat : Int) = 32) = false:=decide_eq_false (by omega)
    have n9 : ((s[k].toNat : Int) == 9) = false:=by rw [beq_eq_false_iff_ne];omega
    have m9 : ((s[k].toNat : Int) = 9) = False:=eq_false (by omega)
    have k9 : ((s[k].toNat : Int) != 9) = true:=by rw [bne,n9];rfl
    have l9 : decide ((s[k].toNat : Int) = 9) = false:=decide_eq_false (by omega)
    have n10 : ((s[k].toNat : Int) == 10) = false:=by rw [beq_eq_false_iff_ne];omega
    have m10 : ((s[k].toNat : Int) = 10) = False:=eq_false (by omega)
    have k10 : ((s[k].toNat : Int) != 10) = true:=by rw [bne,n10];rfl
    have l10 : decide ((s[k].toNat : Int) = 10) = false:=decide_eq_false (by omega)
    clear hc hc9 hc10
    have hc:=hc13
    clear hc13
    have hB : blankB s[k] = true:=by rw [blank_nat];simp [hc]
    cases was
    ·have HT : Hid (wordsF (s.data.toList.drop (k + 1)) false (m) = R):=zH (by rw [← hW,words_step hb,hB];simp)
     clear hW hb hB
     go_wp2
     go_roundw
     case rel=>exact ⟨k + 1,m,false,by first | rfl | go_num,by omega,by first | rfl | go_num,by omega,by first | rfl | trivial,HT.out,by first | rfl | trivial⟩
     case measure=>simp [intOf] <;> omega
    ·have HT : Hid (wordsF (s.data.toList.drop (k + 1)) false (m) = R):=zH (by rw [← hW,words_step hb,hB];simp)
     clear hW hb hB
     go_wp2
     go_roundw
     case rel=>exact ⟨k + 1,m,false,by first | rfl | go_num,by omega,by first | rfl | go_num,by omega,by first | rfl | trivial,HT.out,by first | rfl | trivial⟩
     case measure=>simp [intOf] <;> omega
   ·skip
    have n32 : ((s[k].toNat : Int) == 32) = false:=by rw [beq_eq_false_iff_ne];omega
    have m32 : ((s[k].toNat : Int) = 32) = False:=eq_false (by omega)
    have k32 : ((s[k].toNat : Int) != 32) = true:=by rw [bne,n32];rfl
    have l32 : decide ((s[k].toNat : Int) = 32) = false:=decide_eq_false (by omega)
    have n9 : ((s[k].toNat : Int) == 9) = false:=by rw [beq_eq_false_iff_ne];omega
    have m9 : ((s[k].toNat : Int) = 9) = False:=eq_false (by omega)
    have k9 : ((s[k].toNat : Int) != 9) = true:=by rw [bne,n9];rfl
    have l9 : decide ((s[k].toNat : Int) = 9) = false:=decide_eq_false (by omega)
    have n10 : ((s[k].toNat : Int) == 10) = false:=by rw [beq_eq_false_iff_ne];omega
    have m10 : ((s[k].toNat : Int) = 10) = False:=eq_false (by omega)
    have k10 : ((s[k].toNat : Int) != 10) = true:=by rw [bne,n10];rfl
    have l10 : decide ((s[k].toNat : Int) = 10) = false:=decide_eq_false (by omega)
    have n13 : ((s[k].toNat : Int) == 13) = false:=by rw [beq_eq_false_iff_ne];omega
    have m13 : ((s[k].toNat : Int) = 13) = False:=eq_false (by omega)
    have k13 : ((s[k].toNat : Int) != 13) = true:=by rw [bne,n13];rfl
    have l13 : decide ((s[k].toNat : Int) = 13) = false:=decide_eq_false (by omega)
    have hB : blankB s[k] = false:=by rw [blank_nat];simp [hc,hc9,hc10,hc13]
    clear hc hc9 hc10 hc13
    cases was
    ·have HT : Hid (wordsF (s.data.toList.drop (k + 1)) true (m + 1) = R):=zH (by rw [← hW,words_step hb,hB];simp)
     clear hW hb hB
     go_wp2
     go_roundw
     case rel=>exact ⟨k + 1,m + 1,true,by first | rfl | go_num,by omega,by first | rfl | go_num,by omega,by first | rfl | trivial,HT.out,by first | rfl | trivial⟩
     case measure=>simp [intOf] <;> omega
    ·have HT : Hid (wordsF (s.data.toList.drop (k + 1)) true (m) = R):=zH (by rw [← hW,words_step hb,hB];simp)
     clear hW hb hB
     go_wp2
     go_roundw
     case rel=>exact ⟨k + 1,m,true,by first | rfl | go_num,by omega,by first | rfl | go_num,by omega,by first | rfl | trivial,HT.out,by first | rfl | trivial⟩
     case measure=>simp [intOf] <;> omega
  ·have hW2 : m = R:=by rw [← hW,List.drop_of_length_le (by simp;omega)];rfl
   have hlt' : decide ((k : Int) < (s.size : Int)) = false:=decide_eq_false (by omega)
   subst hW2
   go_wp2
   go_ret
   exact ⟨rfl,rfl⟩
set_option maxRecDepth 100000 in
theorem chart_most (w : World) (g o : Nat) (t : ByteArray) (a1 : w.cell? ⟨g,o + 22,none⟩ = some (.string t)) (mv : Value) (n : Int) (ht : t.size≤1048576) :
  Calls Tryz.prog 74 #[mv,.pointer (some ⟨g,o,none⟩),.int .i64 n] w (VRet (.int .i64 (max 1 (wordsF t.data.toList false 0 : Nat))) w):=by
 have hg : g < w.heap.size:=World.block_lt_of_cell? w _ a1
 have HL:=zH (words_any t ht w)
 generalize wordsF t.data.toList false 0 = r at HL ⊢
 clear ht
 go_enter Tryz.func74,Tryz.ntmps74
 go_wp2_with (go_at_call 75;((with_reducible refine HL.out.mono ?_);rintro e1' w2 ⟨rfl,hw2⟩;obtain rfl:=hw2.symm))
 all_goals
  go_ret
  exact ⟨by first | rfl | simp,rfl⟩
end Go.Proofs.YthhomflonpjbmaaGreatDoor
