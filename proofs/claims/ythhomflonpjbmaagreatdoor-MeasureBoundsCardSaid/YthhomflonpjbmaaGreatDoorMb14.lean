/-
 The walks of wrap.Least and Most.
-/
import Derived.Test.YthhomflonpjbmaaGreatDoorMb13
set_option linter.unusedVariables false
set_option linter.unusedSimpArgs false
namespace Go.Proofs.YthhomflonpjbmaaGreatDoor
open Go.RowKit
def lstep (mode : Int) (st : Nat × Nat) (c : Cl) : Nat × Nat :=
 if c.1 = [10]∨(c.1 = [32]∧mode ≠ 2) then (st.1,0) else (max st.1 ((if mode = 1 then 0 else st.2) + c.2),(if mode = 1 then 0 else st.2) + c.2)
def leastS (mode : Int) (cs : List Cl) : Nat:=(cs.foldl (lstep mode) (0,0)).1
theorem lstep_le' (mode : Int) (l : List Cl) (h : ∀ c ∈ l,c.2≤2) (st : Nat × Nat) (B : Nat) (h1 : st.1≤B) (h2 : st.2≤B) : (l.foldl (lstep mode) st).1≤B + 2 * l.length∧(l.foldl (lstep mode) st).2≤B + 2 * l.length:=by
 induction l generalizing st B with
 |nil=>simpa using ⟨h1,h2⟩
 |cons c l ih=>
  have hc:=h c (by simp)
  have hst : (lstep mode st c).1≤B + 2∧(lstep mode st c).2≤B + 2:=by
   unfold lstep
   split
   ·simp only;omega
   ·simp only
    split <;> omega
  have:=ih (fun x hx=>h x (List.mem_cons_of_mem _ hx)) (lstep mode st c) (B + 2) hst.1 hst.2
  simp only [List.foldl_cons,List.length_cons]
  omega
theorem lstep_le (mode : Int) (l : List Cl) (h : ∀ c ∈ l,c.2≤2) : (l.foldl (lstep mode) (0,0)).1≤2 * l.length∧(l.foldl (lstep mode) (0,0)).2≤2 * l.length:=by
 have:=lstep_le' mode l h (0,0) 0 (Nat.le_refl _) (Nat.le_refl _)
 omega
theorem foldl_take (mode : Int) (cs : List Cl) (k : Nat) (y : Cl) (h : cs[k]? = some y) : (cs.take (k + 1)).foldl (lstep mode) (0,0) = lstep mode ((cs.take k).foldl (lstep mode) (0,0)) y:=by
 obtain ⟨h1,h2⟩:=List.getElem?_eq_some_iff.1 h
 rw [List.take_succ_eq_append_getElem h1,List.foldl_append,h2];rfl
set_option maxRecDepth 100000 in
set_option maxHeartbeats 2000000 in
theorem least_any (s : ByteArray) (mode : Int) (hs : s.size≤10000000) (w : World) : Calls Tryz.prog 14 #[.string s,.int .i8 mode] w (VBel (.int .i64 (leastS mode (flowS s.data.toList))) w):=by
 obtain ⟨cs,hcs⟩ : ∃ cs,flowS s.data.toList = cs:=⟨_,rfl⟩
 have hok : ∀ c ∈ cs,okC c:=by
  rw [← hcs];intro c hc
  exact clustersS_ok _ c (List.mem_filter.1 hc).1
 have hlen : cs.length≤40000000:=by
  rw [← hcs]
  refine Nat.le_trans (List.length_filter_le _ _) (Nat.le_trans (clustersS_len _) (Nat.le_trans (runesS_len _) ?_))
  have h1:=textS_len (flowR (runesS s.data.toList))
  have h2 : (flowR (runesS s.data.toList)).length≤(runesS s.data.toList).length:=by unfold flowR;rw [List.length_map];exact List.length_filter_le _ _
  have h3:=runesS_len s.data.toList
  rw [blen] at h3
  simp only [toBytes,List.length_map];omega
 have HFL:=zH (flow_any s hs w)
 rw [hcs] at HFL ⊢
 obtain ⟨n,hn⟩ : ∃ n,cs.length = n:=⟨_,rfl⟩
 have HN:=zH hn
 rw [hn] at hlen HFL
 have HOK:=zH hok
 clear hcs hok hn
 go_enter Tryz.func14,Tryz.ntmps14
 go_wp2_with (go_at_call 28;((with_reducible refine HFL.out.mono ?_);rintro e w1 ⟨v,rfl,hb1,hrow⟩;obtain ⟨A,c,rfl,hc1,hc2,hA⟩:=slice_form2 hrow;have HA:=zH hA;have HB1:=zH hb1;clear hA hrow hb1))
 go_loopw [5,6,12] (fun a b i wr=>∃ k : Nat,i = .int .i64 k∧k≤n∧a = .int .i64 ((cs.take k).foldl (lstep mode) (0,0)).1∧b = .int .i64 ((cs.take k).foldl (lstep mode) (0,0)).2∧Hid (Below w1.heap.size w1 wr)) (fun _ _ i _=>n - (intOf i).toNat)
 case atStart=>exact ⟨0,rfl,by omega,rfl,rfl,Below.refl _ _⟩
 case round=>
  obtain ⟨k,rfl,hk,rfl,rfl,HBE⟩:=hrel
  by_cases hlt : k < n
  ·obtain ⟨g,rfl,hgB,hg,hc⟩:=HA.out (by omega)
   obtain ⟨y,hy⟩ : ∃ y,cs[k]? = some y:=⟨_,List.getElem?_eq_getElem (by have:=HN.out;omega)⟩
   have hc0 : wr.cell? ⟨g,k * 2,none⟩ = some (.string (mkS y.1)):=(HBE.out.cell (p:=⟨g,k * 2,none⟩) hg).trans (hc _ _ (cv_get cs k y hy).1)
   have hc1' : wr.cell? ⟨g,k * 2 + 1,none⟩ = some (.int .i64 y.2):=(HBE.out.cell (p:=⟨g,k * 2 + 1,none⟩) hg).trans (hc _ _ (cv_get cs k y hy).2)
   have hgr : g < wr.heap.size:=Nat.lt_of_lt_of_le hg HBE.out.size
   have hyok:=HOK.out y (List.mem_of_getElem? hy)
   have hln:=line_mk hyok.2
   have hbk : mkS y.1 = ⟨#[32]⟩↔y.1 = [32]:=(blank_mk hyok.2).trans (by simp [blankC])
   have hy2:=hyok.1
   have hbd:=lstep_le mode (cs.take k) fun x hx=>(HOK.out x (List.mem_of_mem_take hx)).1
   have hst:=foldl_take mode cs k y hy
   obtain ⟨a,b,hab⟩ : ∃ a b,(cs.take k).foldl (lstep mode) (0,0) = (a,b):=⟨_,_,rfl⟩
   rw [hab] at hst hbd ⊢
   have hl : (cs.take k).length≤k:=List.length_take_le _ _
   simp only at hbd ⊢
   have hb1 : a≤80000000:=by omega
   have hb2 : b≤80000000:=by omega
   obtain ⟨t,ht⟩ : ∃ t,mkS y.1 = t:=⟨_,rfl⟩
   obtain ⟨y1,y2⟩:=y
   simp only at ht hc0 hc1' hln hbk hy2 hst
   rw [ht] at hc0 hln hbk
   clear hbd hl hab hyok hc hy
   by_cases hlf : y1 = [10]
   ·have e:=hln.2 hlf
    subst e
    have HT : Hid ((cs.take (k + 1)).foldl (lstep mode) (0,0) = (a,0)):=zH (by rw [hst];unfold lstep;rw [if_pos (.inl hlf)])
    clear hln hbk hst hlf ht
    go_wp2
    go_roundw
    case rel=>exact ⟨k + 1,by go_num,by omega,by rw [HT.out],by rw [HT.out];rfl,HBE.out.alloc HBE.out.size _⟩
    case measure=>simp [intOf];omega
   ·have e1 : ¬ t = ⟨#[10]⟩:=fun h=>hlf (hln.1 h)
    have e2 : (t.toList == [10]) = false:=by simp;exact fun h=>e1 (ba_toList h)
    by_cases hbl : y1 = [32]
    ·by_cases hm2 : mode = 2
     ·have e:=hbk.2 hbl
      subst e
      subst hm2
      have HT : Hid ((cs.take (k + 1)).foldl (lstep 2) (0,0) = (max a (b + y2),b + y2)):=zH (by rw [hst];unfold lstep;rw [if_neg (by simp [hlf])];rfl)
      clear hln hbk hst hlf ht hbl e1 e2
      go_wp2
      go_roundw
      case rel=>exact ⟨k + 1,by go_num,by omega,by rw [HT.out];go_num,by rw [HT.out];go_num,HBE.out.alloc HBE.out.size _⟩
      case measure=>simp [intOf];omega
     ·have e:=hbk.2 hbl
      subst e
      have HT : Hid ((cs.take (k + 1)).foldl (lstep mode) (0,0) = (a,0)):=zH (by rw [hst];unfold lstep;rw [if_pos (.inr ⟨hbl,hm2⟩)])
      have m2 : (mode != 2) = true:=by simp [hm2]
      clear hln hbk hst hlf ht hbl e1 e2
      go_wp2
      go_roundw
      case rel=>exact ⟨k + 1,by go_num,by omega,by rw [HT.out],by rw [HT.out];rfl,HBE.out.alloc HBE.out.size _⟩
      case measure=>simp [intOf];omega
    ·have e3 : ¬ t = ⟨#[32]⟩:=fun h=>hbl (hbk.1 h)
     have e4 : (t.toList == [32]) = false:=by simp;exact fun h=>e3 (ba_toList h)
     by_cases hm1 : mode = 1
     ·subst hm1
      have HT : Hid ((cs.take (k + 1)).foldl (lstep 1) (0,0) = (max a (0 + y2),0 + y2)):=zH (by rw [hst];unfold lstep;rw [if_neg (by simp [hlf,hbl])];rfl)
      clear hln hbk hst hlf ht hbl
      go_wp2
      go_roundw
      case rel=>exact ⟨k + 1,by go_num,by omega,by rw [HT.out];go_num,by rw [HT.out];go_num,HBE.out.alloc HBE.out.size _⟩
      case measure=>simp [intOf];omega
     ·have HT : Hid ((cs.take (k + 1)).foldl (lstep mode) (0,0) = (max a (b + y2),b + y2)):=zH (by rw [hst];unfold lstep;rw [if_neg (by simp [hlf,hbl]),if_neg hm1])
      have m1 : (mode == 1) = false:=by simp [hm1]
      clear hln hbk hst hlf ht hbl
      go_wp2
      go_roundw
      case rel=>exact ⟨k + 1,by go_num,by omega,by rw [HT.out];go_num,by rw [HT.out];go_num,HBE.out.alloc HBE.out.size _⟩
      case measure=>simp [intOf];omega
  ·obtain rfl : k = n:=by omega
   have HT : Hid (leastS mode cs = ((cs.take k).foldl (lstep mode) (0,0)).1):=zH (by unfold leastS;rw [List.take_of_length_le (by rw [HN.out];exact Nat.le_refl _)])
   go_wp2
   go_ret
   exact ⟨by rw [HT.out];rfl,HB1.out.trans (HBE.out.mono HB1.out.size)⟩
end Go.Proofs.YthhomflonpjbmaaGreatDoor
