/-
 The walks of measure.columns and of a table's least width.
-/
import Derived.Test.YthhomflonpjbmaaGreatDoorMb40
import Derived.Test.YthhomflonpjbmaaGreatDoorMb37
import Derived.Test.YthhomflonpjbmaaGreatDoorMb30
set_option linter.unusedVariables false
set_option linter.unusedSimpArgs false
namespace Go.Proofs.YthhomflonpjbmaaGreatDoor
open Go.RowKit Go.Maps
def colI (cols : List Itm) (i : Nat) : Itm:=(cols[i]?).getD itm0
def colW (cols : List Itm) (i : Nat) : Int:=intoS (if (colI cols i).k = 1 then (colI cols i).n else 1) (colI cols i)
noncomputable def colsT (rows : List (List ByteArray)) (cols : List Itm) : List Int:=(List.range (widthsT rows cols 4096).length).map (colW cols)
abbrev TcS (w : World) (g o : Nat) (t : ByteArray) (cv : Value) (W : World) : Prop :=
 W.cell? ⟨g,o + 22,none⟩ = some (.string t)∧W.cell? ⟨g,o + 28,none⟩ = some cv∧Below w.heap.size w W
theorem TcS.drew {w : World} {g o : Nat} {t : ByteArray} {cv : Value} {W : World} (h : TcS w g o t cv W) : TcS w g o t cv W.drew:=⟨h.1,h.2.1,h.2.2.drew⟩
theorem TcS.go {w : World} {g o : Nat} {t : ByteArray} {cv : Value} {W V : World} (h : TcS w g o t cv W) (lg : g < w.heap.size) (hb : Below W.heap.size W V) : TcS w g o t cv V :=
 have hs:=Nat.lt_of_lt_of_le lg h.2.2.size
 ⟨(hb.cell (p:=⟨g,o + 22,none⟩) hs).trans h.1,(hb.cell (p:=⟨g,o + 28,none⟩) hs).trans h.2.1,h.2.2.trans (hb.mono h.2.2.size)⟩
theorem ArrT.one {W : World} {q : Nat} {c : Itm} (h : ArrT W q [c]) : ItmAt W q 0 c:=by
 have:=ArrT.at h (i:=0) (x:=c) rfl
 simpa using this
theorem NewZ.form {l : List Int} {w w' : World} {v : Value} (h : NewZ l w (.returned v) w') : Below w.heap.size w w'∧∃ p b,v = .slice p l.length l.length∧(l.length = 0∧p = none∨p = some ⟨b,0,none⟩∧w.heap.size≤b∧ArrI w' b l):=by
 rcases h with ⟨b,e,hb,ha,hB⟩ | ⟨rfl,e,hB⟩
 ·cases e
  exact ⟨hB,_,b,rfl,.inr ⟨rfl,hb,ha⟩⟩
 ·cases e
  exact ⟨hB,_,0,rfl,.inl ⟨rfl,rfl⟩⟩
set_option maxRecDepth 100000 in
set_option maxHeartbeats 4000000 in
theorem columns_any (w : World) (g o : Nat) (x : ND) (kv cv : Value) (hnd : NodeV w g o x kv cv) (hcv : SlT w cv x.cols) (lg : g < w.heap.size) (ht : x.tx.size≤65536) (hc : x.cols.length≤64) :
  Calls Tryz.prog 68 #[.pointer (some ⟨g,o,none⟩)] w (OutI (colsT (rowsT x.tx) x.cols) w):=by
 have s1:=hnd.tx
 have s2:=hnd.cols
 obtain ⟨pu,cu,rfl,hcl0,hxu⟩:=hcv
 have hcv : SlT w (.slice pu x.cols.length cu) x.cols:=⟨pu,cu,rfl,hcl0,hxu⟩
 have HRW:=zH (tabRows_any x.tx ht w.drew)
 have hro:=rowsT_ok ht
 have hnr:=widthsT_near (rowsT x.tx) x.cols 4096
 have hcT : Hid (colsT (rowsT x.tx) x.cols = (List.range (widthsT (rowsT x.tx) x.cols 4096).length).map (colW x.cols)):=zH rfl
 obtain ⟨t,htx⟩ : ∃ t,x.tx = t:=⟨_,rfl⟩
 obtain ⟨IL,hil⟩ : ∃ IL,x.cols = IL:=⟨_,rfl⟩
 rw [htx] at s1 HRW hro hnr hcT ⊢
 rw [hil] at s2 hnr hcT hcv hc hxu ⊢
 generalize rowsT t = RL at HRW hro hnr hcT ⊢
 have HWC:=zH (fun W v u h1 h2=>widths_any RL IL 4096 W v u h1 h2 hro.1 hro.2 hc (by omega))
 generalize widthsT RL IL 4096 = L at HWC hnr hcT ⊢
 obtain ⟨n,hn⟩ : ∃ n,L.length = n:=⟨_,rfl⟩
 obtain ⟨cn,hcn⟩ : ∃ cn,IL.length = cn:=⟨_,rfl⟩
 have HN:=zH hn
 have HCN:=zH hcn
 rw [hn] at hcT hnr
 have hn4:=hnr.1
 rw [hcn] at s2 hcv hc
 have HXU:=zH hxu
 have HCV:=zH hcv
 have HS0 : Hid (TcS w g o t (.slice pu cn cu) w.drew):=zH (TcS.drew ⟨s1,s2,Below.refl _ _⟩)
 have s3 : Below w.heap.size w w:=Below.refl _ _
 have HC2:=zH s2
 clear hnd htx hil ht hro hnr hn hcn hxu hcv hcl0
 go_enter Tryz.func68,Tryz.ntmps68
 go_upto_region 1 with (fail)
 go_region_held3 (fun W=>W.cell? ⟨g,o + 22,none⟩ = some (.string t)∧W.cell? ⟨g,o + 28,none⟩ = some (.slice pu cn cu)∧Below w.heap.size w W)
  ((first | (refine TcS.drew ?_;(refine ⟨?_,?_,?_⟩ <;> assumption)) | (refine ⟨?_,?_,?_⟩ <;> assumption)))
  (first | (go_at_call 71;((with_reducible refine HRW.out.mono ?_);rintro e1' w4 ⟨v4,rfl,hb4,hs4⟩;have HT4:=zH (HS0.out.go lg hb4);obtain ⟨r1,r2,r3⟩:=HT4.out;have HTC:=zH (HWC.out w4 v4 (.slice pu cn cu) hs4 (SlT.below HCV.out r3));clear hb4 hs4)) | (go_at_call 70;((with_reducible refine HTC.out.mono ?_);rintro e1' w6 h6;obtain ⟨v6,rfl,h6⟩:=h6.ret;obtain ⟨hb6,pv,b,rfl,hp6⟩:=h6.form;have HT6:=zH (HT4.out.go lg hb6);obtain ⟨t1,t2,t3⟩:=HT6.out;have HP6:=zH hp6;have HW4:=zH HT4.out.2.2.size;clear h6 hb6 hp6)))
 all_goals
  rw [HN.out]
  have HP : Hid (n = 0∨pv = some ⟨b,0,none⟩∧w.heap.size≤b∧ArrI w6 b L):=zH (by have h1:=HP6.out;have h2:=HW4.out;rw [HN.out] at h1;rcases h1 with h | ⟨h,h3,h4⟩;exact .inl h.1;exact .inr ⟨h,by omega,h4⟩)
  clear HP6
  go_wp2
  go_loopw [18] (fun i wr=>∃ (k : Nat) (M : List Int),i = .int .i64 k∧k≤n∧Hid (M.length = n)∧Hid (∀ j,j < k→M[j]? = some (colW IL j))∧Hid (n = 0∨ArrI wr b M)∧Hid (Below w.heap.size w wr)) (fun i _=>n - (intOf i).toNat)
  case atStart=>exact ⟨0,L,rfl,by omega,HN,zH fun j h=>absurd h (Nat.not_lt_zero _),zH (HP.out.elim .inl fun h=>.inr h.2.2),zH t3⟩
  case round=>
   obtain ⟨k,M,rfl,hk,HML,HMJ,HA0,HB⟩:=hrel
   have c2:=(HB.out.cell (p:=⟨g,o + 28,none⟩) lg).trans HC2.out
   have lgr : g < wr.heap.size:=Nat.lt_of_lt_of_le lg HB.out.size
   have hzr:=HB.out.size
   clear t1 t2 t3
   by_cases hlt : k < n
   ·have hltI : (k : Int) < (n : Int):=by omega
    obtain ⟨rfl,hwb,_⟩:=HP.out.resolve_left (by omega)
    have HA:=zH (HA0.out.resolve_left (by omega))
    have lA:=Arr.lt HA.out
    have HCI : Hid (∀ c,IL[k]? = some c→colI IL k = c):=zH fun c h=>by unfold colI;rw [h];rfl
    have HCN0 : Hid (cn≤k→colI IL k = itm0):=zH fun h=>by unfold colI;rw [List.getElem?_eq_none (by rw [HCN.out];exact h)];rfl
    have HQ0 : Hid (ArrT (wr.alloc (.cells #[.int .i8 0,.int .i64 0,.int .i64 0,.int .i64 0,.int .i64 0] 40)) wr.heap.size [itm0]):=zH (heap_alloc_new wr _)
    have HAQ:=zH (Arr.alloc HA.out (.cells #[.int .i8 0,.int .i64 0,.int .i64 0,.int .i64 0,.int .i64 0] 40))
    have HBQ:=zH (HB.out.alloc HB.out.size (.cells #[.int .i8 0,.int .i64 0,.int .i64 0,.int .i64 0,.int .i64 0] 40))
    go_upto_if 28 with (fail)
    go_cut [5] (fun v W=>∃ q,v = .pointer (some ⟨q,0,none⟩)∧ArrT W q [colI IL k]∧ArrI W b M∧Below w.heap.size w W∧b < q)
    case first=>
     by_cases hkc : k < cn
     ·have hkcI : (k : Int) < (cn : Int):=by omega
      obtain ⟨c,hck⟩ : ∃ c,IL[k]? = some c:=⟨_,List.getElem?_eq_getElem (by rw [HCN.out];exact hkc)⟩
      obtain ⟨gu,ou,rfl,hgu,hci⟩:=HXU.out k c hck
      have HCK:=zH (HCI.out c hck)
      obtain ⟨y0,y1,y2,y3,y4⟩:=hci.below HB.out hgu
      have lgu : gu < wr.heap.size:=Nat.lt_of_lt_of_le hgu HB.out.size
      clear hck hci
      go_wp2
      go_meet
      refine ⟨wr.heap.size,rfl,?_,?_,?_,lA⟩
      ·rw [HCK.out];exact heap_alloc_new wr _
      ·exact Arr.alloc HA.out _
      ·exact HB.out.alloc HB.out.size _
     ·have hkcI : decide ((k : Int) < (cn : Int)) = false:=decide_eq_false (by omega)
      have HCK:=zH (HCN0.out (by omega))
      go_wp2
      go_meet
      exact ⟨wr.heap.size,rfl,by rw [HCK.out];exact HQ0.out,HAQ.out,HBQ.out,lA⟩
    case rest=>
    obtain ⟨q,rfl,hQ,hA1,hB1,hbq⟩:=hcut
    have HCW : Hid (colW IL k = intoS (if (colI IL k).k = 1 then (colI IL k).n else 1) (colI IL k)):=zH rfl
    generalize colI IL k = c at hQ HCW
    obtain ⟨K,N,D,MN,MX⟩:=c
    have HI1 : Hid (∀ W n,Calls Tryz.prog 95 #[.int .i64 n,.agg #[.int .i8 K,.int .i64 N,.int .i64 D,.int .i64 MN,.int .i64 MX]] W (VBel (.int .i64 (intoS n ⟨K,N,D,MN,MX⟩)) W)):=zH (fun W n=>into_any n ⟨K,N,D,MN,MX⟩ W)
    generalize hf : (fun n=>intoS n ⟨K,N,D,MN,MX⟩) = f at *
    have HF:=zH hf
    have hf1 : ∀ n,intoS n ⟨K,N,D,MN,MX⟩ = f n:=fun n=>by rw [← hf]
    simp only [hf1] at HI1 HCW
    clear hf hf1 HF
    obtain ⟨u,hu⟩ : ∃ u,M[k]? = some u:=⟨_,List.getElem?_eq_getElem (by rw [HML.out];exact hlt)⟩
    have HU:=zH hu
    have HQ:=zH hQ
    have HA1:=zH hA1
    have HB1:=zH hB1
    obtain ⟨z0,z1,z2,z3,z4⟩:=hQ.one
    simp only [Nat.zero_add] at z0 z1 z2 z3 z4
    have lq:=Arr.lt hQ
    have hne : b ≠ q:=by omega
    clear hu hQ hA1 hB1
    go_upto_region 9 with (go_at_call 95;((with_reducible refine (HI1.out _ _).mono ?_);rintro e1' w5 ⟨rfl,hb5⟩;have HQ5:=zH (Arr.below HQ.out hb5);have HA5 : Hid (ArrI w5 b M):=zH (Arr.below HA1.out hb5);have HB5:=zH (HB1.out.trans (hb5.mono HB1.out.size));have c5:=HA5.out.at HU.out;have f5:=Arr.froz HA5.out k;have l5:=Arr.lt HA5.out;clear hb5))
    have HA6:=zH (HA5.out.put k (f 1))
    have HQ6 : Hid (ArrT (w5.setCell ⟨b,k,none⟩ (.int .i64 (f 1))) q [⟨K,N,D,MN,MX⟩]):=zH (Arr.other HQ5.out (Ne.symm hne) k _)
    have HB6:=zH (HB5.out.setCell (p:=⟨b,k,none⟩) hwb (.int .i64 (f 1)))
    generalize w5.setCell ⟨b,k,none⟩ (.int .i64 (f 1)) = W6 at HA6 HQ6 HB6 ⊢
    clear HQ5 HA5 HB5 c5 f5 l5 z0 z1 z2 z3 z4 lq HA1 HB1 HQ
    obtain ⟨z0,z1,z2,z3,z4⟩:=HQ6.out.one
    simp only [Nat.zero_add] at z0 z1 z2 z3 z4
    have lq:=Arr.lt HQ6.out
    have l6:=Arr.lt HA6.out
    have HNX : Hid (∀ v,colW IL k = v→∀ M2 : List Int,M2 = M.set k v∨(∃ y,M2 = (M.set k y).set k v)→∀ j,j < k + 1→M2[j]? = some (colW IL j)):=zH fun v hv M2 hM j hj=>by
     have hM3 : M2 = M.set k v:=hM.elim id fun ⟨y,e⟩=>by rw [e,List.set_set]
     rw [hM3]
     by_cases e : k = j
     ·subst e
      rw [List.getElem?_set_self (by rw [HML.out];exact hlt),hv]
     ·rw [List.getElem?_set_ne e]
      exact HMJ.out j (by omega)
    by_cases hK : K = 1
    ·subst hK
     have HV : Hid (colW IL k = f N):=zH (by rw [HCW.out];rfl)
     go_wp2_with (go_at_call 95;((with_reducible refine (HI1.out _ _).mono ?_);rintro e1' w7 ⟨rfl,hb7⟩;have HA7 : Hid (ArrI w7 b (M.set k (f 1))):=zH (Arr.below HA6.out hb7);have HB7:=zH (HB6.out.trans (hb7.mono HB6.out.size));have c7:=HA7.out.at (List.getElem?_set_self (by rw [HML.out];exact hlt));have f7:=Arr.froz HA7.out k;have l7:=Arr.lt HA7.out;clear hb7))
     go_roundw
     case rel=>exact ⟨k + 1,_,by first | rfl | go_num,by omega,zH (by rw [List.length_set,List.length_set];exact HML.out),zH (HNX.out _ HV.out _ (.inr ⟨f 1,rfl⟩)),zH (.inr (HA7.out.put k (f N))),zH (HB7.out.setCell (p:=⟨b,k,none⟩) hwb _)⟩
     case measure=>simp [intOf] <;> omega
    ·have hKb : (K == 1) = false:=by simpa using hK
     have HV : Hid (colW IL k = f 1):=zH (by rw [HCW.out,if_neg hK])
     go_wp2
     go_roundw
     case rel=>exact ⟨k + 1,_,by first | rfl | go_num,by omega,zH (by rw [List.length_set];exact HML.out),zH (HNX.out _ HV.out _ (.inl rfl)),zH (.inr HA6.out),HB6⟩
     case measure=>simp [intOf] <;> omega
   ·have hltI : decide ((k : Int) < (n : Int)) = false:=decide_eq_false (by omega)
    obtain rfl : k = n:=by omega
    have hMM : M = (List.range k).map (colW IL):=List.ext_getElem? fun j=>by
     by_cases hj : j < k
     ·rw [HMJ.out j hj,List.getElem?_map,List.getElem?_range hj];rfl
     ·rw [List.getElem?_eq_none (by rw [HML.out];omega),List.getElem?_eq_none (by simp;omega)]
    have HMM:=zH hMM
    have HSL : Hid (SlI wr (.slice pv k k) M):=zH (by
     rcases HP.out with h0 | ⟨e,hwb,_⟩
     ·subst h0
      exact ⟨pv,0,by rw [HML.out],by rw [HML.out];omega,fun i x hi=>absurd (List.getElem?_eq_some_iff.1 hi).1 (by rw [HML.out];omega)⟩
     ·rcases HA0.out with h0 | hA
      ·subst h0
       exact ⟨pv,0,by rw [HML.out],by rw [HML.out];omega,fun i x hi=>absurd (List.getElem?_eq_some_iff.1 hi).1 (by rw [HML.out];omega)⟩
      ·have:=ArrI.sl hA (by rw [HML.out];omega) k
       rw [HML.out] at this
       rw [e];exact this)
    clear hMM
    go_wp2
    go_ret
    exact ⟨_,rfl,HB.out,by rw [hcT.out,← HMM.out];exact HSL.out⟩
end Go.Proofs.YthhomflonpjbmaaGreatDoor
/-
 What a measure says of a row of two texts, plainly.
-/
namespace Go.Proofs.YthhomflonpjbmaaGreatDoor
open Go.RowKit Go.Maps
abbrev rowN : ND:=⟨2,⟨#[]⟩,⟨#[]⟩,[1,2],itm0,itm0,1,0,0,0,0,0,0,0,⟨#[]⟩,0,0,0,0,0,[],0,0,0,0,0⟩
abbrev txtN (t : ByteArray) : ND:=⟨1,⟨#[]⟩,⟨#[]⟩,[],itm0,itm0,0,0,0,0,0,0,0,0,t,0,0,0,0,0,[],0,0,0,0,0⟩
abbrev ns3 : List ND:=[rowN,txtN abT,txtN xT]
theorem nodeC_good {N n : Nat} {x : ND} {s : CS} {tk : List Bool} {dp : List Int} (h1 : ¬ (x.kd < 1∨11 < x.kd)) (h2 : x.id.size = 0) (h3 : x.cl.size = 0) (h4 : kidsC N n x.kids s.tk s.dp = some (tk,dp)) (h5 : ¬ KBad x.kd x.kids.length) (h6 : ItemsP x) (h7 : FieldsP x) (h8 : ¬ 65536 < x.tx.size) : nodeC N n x s = .ok ⟨tk,dp,s.ids⟩:=by
 unfold nodeC
 rw [if_neg h1,if_neg (fun h=>h.1 h2),if_neg (fun h=>h.1 h3),h4]
 simp only
 rw [if_neg h5,if_neg (fun h=>h h6),if_neg (fun h=>h h7),if_neg h8,if_pos h2]
theorem check3 : checkS ns3 = (0,0):=by
 have e0 : nodeC 3 0 rowN (cs0 3) = .ok ⟨[false,true,true],[0,1,1],[]⟩:=nodeC_good (by decide) rfl rfl rfl (by decide) (by decide) (by decide) (by decide)
 have e1 : nodeC 3 1 (txtN abT) ⟨[false,true,true],[0,1,1],[]⟩ = .ok ⟨[false,true,true],[0,1,1],[]⟩:=nodeC_good (by decide) rfl rfl rfl (by decide) (by decide) (by decide) (by decide)
 have e2 : nodeC 3 2 (txtN xT) ⟨[false,true,true],[0,1,1],[]⟩ = .ok ⟨[false,true,true],[0,1,1],[]⟩:=nodeC_good (by decide) rfl rfl rfl (by decide) (by decide) (by decide) (by decide)
 rw [checkS_end (ns:=ns3) (by decide) (s:=⟨[false,true,true],[0,1,1],[]⟩) (by
  show nodesC 3 0 ns3 (cs0 3) = _
  simp only [nodesC,e0,e1,e2])]
 rfl
theorem norm_ok {i : Itm} (h : i.ok) : normI i = i:=if_pos h
theorem sizes8 : sizesS [⟨1,6,0,3,0⟩,⟨1,1,0,1,0⟩] 8 1 = [6,1]:=by
 have n1 : normI ⟨1,6,0,3,0⟩ = ⟨1,6,0,3,0⟩:=norm_ok (by decide)
 have n2 : normI ⟨1,1,0,1,0⟩ = ⟨1,1,0,1,0⟩:=norm_ok (by decide)
 unfold sizesS
 rw [if_neg (by decide)]
 simp only [List.map_cons,List.map_nil,n1,n2]
 decide
theorem sizes5 : sizesS [⟨1,6,0,3,0⟩,⟨1,1,0,1,0⟩] 5 1 = [3,1]:=by
 have n1 : normI ⟨1,6,0,3,0⟩ = ⟨1,6,0,3,0⟩:=norm_ok (by decide)
 have n2 : normI ⟨1,1,0,1,0⟩ = ⟨1,1,0,1,0⟩:=norm_ok (by decide)
 unfold sizesS
 rw [if_neg (by decide)]
 simp only [List.map_cons,List.map_nil,n1,n2]
 decide
theorem n3_wish {p : MP} (hp : p.ns = ns3) (k : Nat) (t : ByteArray) (hk : ns3[k]? = some (txtN t)) (v : Int) (hv : 0≤v) : wishS (ndF p.ns k).wd v = v∧wishS (ndF p.ns k).ht v = v:=by
 rw [hp,ndF_eq hk]
 unfold wishS intoS
 simp
 omega
section
variable {T : TabF} {p : MP} (L : Law T p) (hp : p.ns = ns3)
include L hp
theorem n3_text (i : Nat) (t : ByteArray) (hi : ns3[i]? = some (txtN t)) : p.f i 0 0 = sideS (leastS 0 (flowS t.data.toList) + 0)∧p.f i 1 0 = sideS (leastS 2 (flowS t.data.toList) + 0)∧∀ w,p.f i 2 w = sideS (tallS 0 (max 0 (w - 0)).toNat t + 0):=by
 have hn : p.ns[i]? = some (txtN t):=by rw [hp];exact hi
 refine ⟨?_,?_,fun w=>?_⟩
 ·rw [L.eq hn];unfold workS;rw [ndF_eq hn,if_pos rfl];rfl
 ·rw [L.eq hn];unfold workS;rw [ndF_eq hn,if_neg (by decide),if_pos rfl];rfl
 ·rw [L.eq hn];unfold workS;rw [ndF_eq hn,if_neg (by decide),if_neg (by decide)];rfl
theorem n3_low (k : Nat) (t : ByteArray) (hk : ns3[k]? = some (txtN t)) : lwS p.ns p.f k = p.f k 0 0∧mwS p.ns p.f k = p.f k 1 0∧∀ w,highS p.ns p.f k w = p.f k 2 (sideS w):=by
 have w:=fun v hv=>n3_wish hp k t hk v hv
 exact ⟨(w _ (L.range _ _ _).1).1,(w _ (L.range _ _ _).1).1,fun z=>(w _ (L.range _ _ _).1).2⟩
theorem n3_nums : p.f 1 0 0 = 3∧p.f 2 0 0 = 1∧p.f 1 1 0 = 6∧p.f 2 1 0 = 1∧p.f 1 2 6 = 1∧p.f 1 2 3 = 2∧p.f 2 2 1 = 1:=by
 obtain ⟨a1,b1,c1⟩:=n3_text L hp 1 abT rfl
 obtain ⟨a2,b2,c2⟩:=n3_text L hp 2 xT rfl
 rw [ab_least] at a1
 rw [x_least] at a2
 rw [ab_most] at b1
 rw [x_most] at b2
 have d1:=c1 6
 have d2:=c1 3
 have d3:=c2 1
 rw [show (max (0 : Int) (6 - 0)).toNat = 6 by decide,ab_tall6] at d1
 rw [show (max (0 : Int) (3 - 0)).toNat = 3 by decide,ab_tall3] at d2
 rw [show (max (0 : Int) (1 - 0)).toNat = 1 by decide,x_tall1] at d3
 exact ⟨a1,a2,b1,b2,d1,d2,d3⟩
theorem alive_least : p.f 0 0 0 = 5:=by
 have hn : p.ns[0]? = some rowN:=by rw [hp];rfl
 obtain ⟨a1,a2,_⟩:=n3_nums L hp
 have b1 : lwS p.ns p.f 1 = 3:=((n3_low L hp 1 abT rfl).1).trans a1
 have b2 : lwS p.ns p.f 2 = 1:=((n3_low L hp 2 xT rfl).1).trans a2
 have h : p.f 0 0 0 = workS T p.ns p.f ((0 : Nat) : Int) 0 0:=L.eq hn 0 0
 rw [h]
 unfold workS
 rw [if_pos rfl,ndF_eq hn]
 show sideS (sumS ([1,2].map (lwS p.ns p.f)) 1 + 0) = 5
 simp only [List.map_cons,List.map_nil,b1,b2]
 decide
theorem alive_most : p.f 0 1 0 = 8:=by
 have hn : p.ns[0]? = some rowN:=by rw [hp];rfl
 obtain ⟨_,_,a1,a2,_⟩:=n3_nums L hp
 have b1 : mwS p.ns p.f 1 = 6:=((n3_low L hp 1 abT rfl).2.1).trans a1
 have b2 : mwS p.ns p.f 2 = 1:=((n3_low L hp 2 xT rfl).2.1).trans a2
 have h : p.f 0 1 0 = workS T p.ns p.f ((0 : Nat) : Int) 1 0:=L.eq hn 1 0
 rw [h]
 unfold workS
 rw [if_neg (by decide),if_pos rfl,ndF_eq hn]
 show sideS (sumS ([1,2].map (mwS p.ns p.f)) 1 + 0) = 8
 simp only [List.map_cons,List.map_nil,b1,b2]
 decide
theorem along3 : [1,2].map (alongI p.ns p.f) = [⟨1,6,0,3,0⟩,⟨1,1,0,1,0⟩]:=by
 obtain ⟨a1,a2,a3,a4,_⟩:=n3_nums L hp
 have b1 : lwS p.ns p.f 1 = 3:=((n3_low L hp 1 abT rfl).1).trans a1
 have b2 : lwS p.ns p.f 2 = 1:=((n3_low L hp 2 xT rfl).1).trans a2
 have b3 : mwS p.ns p.f 1 = 6:=((n3_low L hp 1 abT rfl).2.1).trans a3
 have b4 : mwS p.ns p.f 2 = 1:=((n3_low L hp 2 xT rfl).2.1).trans a4
 have h1 : ndF p.ns 1 = txtN abT:=by rw [hp];rfl
 have h2 : ndF p.ns 2 = txtN xT:=by rw [hp];rfl
 simp only [List.map_cons,List.map_nil,alongI,b1,b2,b3,b4,h1,h2]
 rfl
theorem alive_tall (z : Int) (s : List Int) (t : Int) (hz : max 0 (z - 0) = z) (hs : sizesS [⟨1,6,0,3,0⟩,⟨1,1,0,1,0⟩] z 1 = s) (ht : tallRow (highS p.ns p.f) s [1,2] 0 = t) : p.f 0 2 z = sideS (t + 0):=by
 have hn : p.ns[0]? = some rowN:=by rw [hp];rfl
 have h : p.f 0 2 z = workS T p.ns p.f ((0 : Nat) : Int) 2 z:=L.eq hn 2 z
 rw [h]
 unfold workS
 rw [if_neg (by decide),if_neg (by decide),ndF_eq hn]
 show sideS (tallRow (highS p.ns p.f) (sizesS ([1,2].map (alongI p.ns p.f)) (max 0 (z - 0)) 1) [1,2] 0 + 0) = sideS (t + 0)
 rw [along3 L hp,hz,hs,ht]
theorem alive_tall8 : p.f 0 2 8 = 1:=by
 obtain ⟨_,_,_,_,a1,_,a3⟩:=n3_nums L hp
 refine alive_tall L hp 8 _ 1 (by decide) sizes8 ?_
 simp only [tallRow]
 rw [show highS p.ns p.f 1 6 = 1 from ((n3_low L hp 1 abT rfl).2.2 6).trans a1,show highS p.ns p.f 2 1 = 1 from ((n3_low L hp 2 xT rfl).2.2 1).trans a3]
 decide
theorem alive_tall5 : p.f 0 2 5 = 2:=by
 obtain ⟨_,_,_,_,_,a2,a3⟩:=n3_nums L hp
 refine alive_tall L hp 5 _ 2 (by decide) sizes5 ?_
 simp only [tallRow]
 rw [show highS p.ns p.f 1 3 = 2 from ((n3_low L hp 1 abT rfl).2.2 3).trans a2,show highS p.ns p.f 2 1 = 1 from ((n3_low L hp 2 xT rfl).2.2 1).trans a3]
 decide
end
end Go.Proofs.YthhomflonpjbmaaGreatDoor
