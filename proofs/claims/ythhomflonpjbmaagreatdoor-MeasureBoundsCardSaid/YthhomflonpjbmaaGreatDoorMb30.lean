/-
 The walk of grid.spread: what a need lacks is shared among the auto tracks.
-/
import Derived.Test.YthhomflonpjbmaaGreatDoorMb23
import Derived.Deep.RegionWith
import Derived.Deep.DeepCutAuto
import Derived.Test.YthhomflonpjbmaaGreatDoorMb22
import Derived.OwnWalk
import Derived.Deep.QuietTactic
import Derived.BigQuiet
import Derived.IntWalk
import Derived.Test.YthhomflonpjbmaaGreatDoorMb18
import Derived.Test.YthhomflonpjbmaaGreatDoorMb14
import Derived.Test.YthhomflonpjbmaaGreatDoorMb17
import Derived.Test.YthhomflonpjbmaaGreatDoorMb15
set_option linter.unusedVariables false
set_option linter.unusedSimpArgs false
namespace Go.Proofs.YthhomflonpjbmaaGreatDoor
open Go.RowKit
theorem seg_self (L : List Int) (a s : Nat) (h : a + s≤L.length) : segS L a ((L.drop a).take s) = L:=by
 unfold segS
 rw [List.length_take,List.length_drop,Nat.min_eq_left (by omega),List.append_assoc,← List.drop_drop,List.take_append_drop,List.take_append_drop]
theorem seg_get {L h : List Int} {a i : Nat} {x : Int} (hl : a + h.length≤L.length) (hx : h[i]? = some x) : (segS L a h)[a + i]? = some x:=by
 have hi:=(List.getElem?_eq_some_iff.1 hx).1
 unfold segS
 rw [List.append_assoc,List.getElem?_append_right (by rw [List.length_take];omega),List.length_take,Nat.min_eq_left (by omega),show a + i - a = i by omega,List.getElem?_append_left hi]
 exact hx
theorem seg_set {L h : List Int} {a i : Nat} (x : Int) (hl : a + h.length≤L.length) (hi : i < h.length) : (segS L a h).set (a + i) x = segS L a (h.set i x):=by
 unfold segS
 have h1 : (L.take a).length = a:=by rw [List.length_take];omega
 rw [List.append_assoc,List.set_append_right _ _ (by omega),h1,show a + i - a = i by omega,List.set_append_left _ _ hi,List.length_set,List.append_assoc]
theorem autos_succ {l : List Itm} {k : Nat} {x : Itm} (h : l[k]? = some x) : autosF 0 (l.take (k + 1)) = if x.k = 0 then autosF 0 (l.take k) ++ [k] else autosF 0 (l.take k):=by
 obtain ⟨h1,rfl⟩:=List.getElem?_eq_some_iff.1 h
 have e : autosF k [l[k]] = if l[k].k = 0 then [k] else []:=by simp [autosF]
 rw [List.take_succ_eq_append_getElem h1,autosF_app,List.length_take,Nat.min_eq_left (by omega),Nat.zero_add,e]
 split <;> simp
theorem brought_succ {l : List Itm} {h : List Int} {k : Nat} {x : Itm} {y : Int} (hx : l[k]? = some x) (hy : h[k]? = some y) : broughtL (l.take (k + 1)) (h.take (k + 1)) = broughtL (l.take k) (h.take k) + intoS y x:=by
 obtain ⟨h1,rfl⟩:=List.getElem?_eq_some_iff.1 hx
 obtain ⟨h2,rfl⟩:=List.getElem?_eq_some_iff.1 hy
 rw [List.take_succ_eq_append_getElem h1,List.take_succ_eq_append_getElem h2,broughtL_app _ _ _ _ (by rw [List.length_take,List.length_take];omega)]
 simp [broughtL]
theorem intoS_hi {n B : Int} {it : Itm} (h : FItm it) (hn : 0≤n∧n≤B) (hB : 4096≤B) : 0≤intoS n it∧intoS n it≤B:=by
 obtain ⟨h1,h2,h3,h4,h5,_⟩:=h
 unfold intoS
 split
 ·have:=h5 (by assumption);omega
 ·omega
theorem broughtL_le {B : Int} (hB : 4096≤B) : ∀ (l : List Itm) (h : List Int),(∀ it ∈ l,FItm it)→(∀ x ∈ h,0≤x∧x≤B)→0≤broughtL l h∧broughtL l h≤B * l.length
 | [],_,_,_=>by simp [broughtL]
 |it :: l,[],_,_=>by simp only [broughtL,List.length_cons];exact ⟨Int.le_refl _,Int.mul_nonneg (by omega) (by omega)⟩
 |it :: l,x :: h,hf,hb=>by
  have h1:=intoS_hi (hf it (by simp)) (hb x (by simp)) hB
  have h2:=broughtL_le hB l h (fun y hy=>hf y (by simp [hy])) (fun y hy=>hb y (by simp [hy]))
  have : B * ((l.length + 1 : Nat) : Int) = B * l.length + B:=by push_cast;rw [Int.mul_add,Int.mul_one]
  simp only [broughtL,List.length_cons]
  omega
theorem give_drop {A : List Nat} {k i : Nat} {lack : Int} {h : List Int} (hk : A[k]? = some i) (h0 : ¬ lack≤0) : giveS lack (A.drop k) h = giveS (lack - partS lack (A.length - k)) (A.drop (k + 1)) (h.set i (gd h i + partS lack (A.length - k))):=by
 obtain ⟨h1,rfl⟩:=List.getElem?_eq_some_iff.1 hk
 rw [List.drop_eq_getElem_cons h1,giveS,if_neg h0,List.length_drop,show A.length - (k + 1) + 1 = A.length - k by omega]
theorem give_done {lack : Int} {A : List Nat} {h : List Int} (h0 : lack≤0) : giveS lack A h = h:=by
 cases A with
 |nil=>rfl
 |cons i l=>rw [giveS,if_pos h0]
abbrev ncast (l : List Nat) : List Int:=l.map fun (i : Nat)=>(i : Int)
def SpreadP (sb : Nat) (L : List Int) (w : World) (e : Ending) (w' : World) : Prop:=e = .returned (.tuple #[])∧ArrI w' sb L∧w.grownBy w' (some sb)
set_option maxRecDepth 100000 in
set_option maxHeartbeats 8000000 in
theorem spread_any {W : World} {lb sb : Nat} {l : List Itm} {L : List Int} (hit : ∀ (i : Nat) x,l[i]? = some x→ItmAt W lb (i * 5) x) (hsz : ArrI W sb L) (h1 : lb < W.heap.size) (h2 : lb ≠ sb) (hf : ∀ x ∈ l,FItm x) (a s c1 c2 : Nat) (hl : L.length = l.length) (has : a + s≤l.length) (hs1 : 1≤s) (hs2 : s≤4096) (ha4 : a≤4096)
  (hb : ∀ x ∈ L,0≤x∧x≤67108864) (size gap : Int) (hz : 0≤size∧size≤4096) (hg : 0≤gap∧gap≤4096) :
  Calls Tryz.prog 136 #[.slice (some ⟨lb,a * 5,none⟩) s c1,.slice (some ⟨sb,a,none⟩) s c2,.int .i64 size,.int .i64 gap] W (SpreadP sb (segS L a (spreadS ((l.drop a).take s) ((L.drop a).take s) size gap)) W):=by
 have HM0:=zH (FM.start (c:=undef) hit hsz h1 h2)
 obtain ⟨I,hI⟩ : ∃ I,(l.drop a).take s = I:=⟨_,rfl⟩
 obtain ⟨H,hH⟩ : ∃ H,(L.drop a).take s = H:=⟨_,rfl⟩
 have hIl : I.length = s:=by rw [← hI,List.length_take,List.length_drop];omega
 have hHl : H.length = s:=by rw [← hH,List.length_take,List.length_drop];omega
 have hself:=seg_self L a s (by omega)
 rw [hI,hH]
 rw [hH] at hself
 have HIx : Hid (∀ (k : Nat) x,I[k]? = some x→l[a + k]? = some x∧FItm x):=zH fun k x hx=>by
  have hk:=(List.getElem?_eq_some_iff.1 hx).1
  have e : I[k]? = l[a + k]?:=by rw [← hI,List.getElem?_take_of_lt (by omega),List.getElem?_drop]
  rw [hx] at e
  exact ⟨e.symm,hf x (List.mem_of_getElem? e.symm)⟩
 have HHx : Hid (∀ (k : Nat) x,H[k]? = some x→L[a + k]? = some x∧0≤x∧x≤67108864):=zH fun k x hx=>by
  have hk:=(List.getElem?_eq_some_iff.1 hx).1
  have e : H[k]? = L[a + k]?:=by rw [← hH,List.getElem?_take_of_lt (by omega),List.getElem?_drop]
  rw [hx] at e
  exact ⟨e.symm,hb x (List.mem_of_getElem? e.symm)⟩
 have HFI : Hid (∀ x ∈ I,FItm x):=zH fun x hx=>by obtain ⟨k,hk⟩:=List.mem_iff_getElem?.1 hx;exact (HIx.out k x hk).2
 have HHB : Hid (∀ x ∈ H,0≤x∧x≤67108864):=zH fun x hx=>by obtain ⟨k,hk⟩:=List.mem_iff_getElem?.1 hx;exact (HHx.out k x hk).2
 obtain ⟨G,hG⟩ : ∃ G,gap * ((s : Int) - 1) = G:=⟨_,rfl⟩
 have hGr : 0≤G∧G≤16777216:=by
  rw [← hG]
  refine ⟨Int.mul_nonneg hg.1 (by omega),?_⟩
  have h1 : gap * ((s : Int) - 1)≤4096 * ((s : Int) - 1):=Int.mul_le_mul_of_nonneg_right hg.2 (by omega)
  omega
 obtain ⟨R,hR⟩ : ∃ R,spreadS I H size gap = R:=⟨_,rfl⟩
 rw [hR]
 have HR : Hid ((if I.any (fun it=>it.k == 3) = true then H else giveS (size - G - broughtL I H) (autosF 0 I) H) = R):=zH (by rw [← hR,← hG];unfold spreadS;rw [hIl])
 have HLL : Hid (I.length = s∧H.length = s∧L.length = l.length):=zH ⟨hIl,hHl,hl⟩
 have HSELF:=zH hself
 have HBR : Hid (∀ k,k≤s→0≤broughtL (I.take k) (H.take k)∧broughtL (I.take k) (H.take k)≤67108864 * 4096):=zH fun k hk=>by
  have:=broughtL_le (B:=67108864) (by omega) (I.take k) (H.take k) (fun x hx=>HFI.out x (List.mem_of_mem_take hx)) (fun x hx=>HHB.out x (List.mem_of_mem_take hx))
  refine ⟨this.1,Int.le_trans this.2 (Int.mul_le_mul_of_nonneg_left ?_ (by omega))⟩
  rw [List.length_take];omega
 clear hit hsz h2 hf hb hI hH hIl hHl hself hR hl
 go_enter Tryz.func136,Tryz.ntmps136
 go_wp2
 go_loopw [8,9,24] (fun v8 v9 i wr=>∃ (k : Nat) (vo : Value),i = .int .i64 k∧k≤s∧v8 = .int .i64 (size - G - broughtL (I.take k) (H.take k))∧vo = v9∧FM W lb sb l L vo (ncast (autosF 0 (I.take k))) wr∧(I.take k).any (fun it=>it.k == 3) = false) (fun _ _ i _=>s - (intOf i).toNat)
 case atStart=>exact ⟨0,_,rfl,by omega,by simp [broughtL],rfl,by simpa [autosF] using HM0.out,by simp⟩
 case round=>
  obtain ⟨k,vo,rfl,hk,rfl,rfl,hM,hany⟩:=hrel
  have HM:=zH hM
  have HANY:=zH hany
  clear hM hany HM0
  have hbr:=HBR.out k hk
  by_cases hlt : k < s
  ·have hltI : (k : Int) < (s : Int):=by omega
   obtain ⟨x,hx⟩ : ∃ x,I[k]? = some x:=⟨_,List.getElem?_eq_getElem (by rw [HLL.out.1];exact hlt)⟩
   obtain ⟨y,hy⟩ : ∃ y,H[k]? = some y:=⟨_,List.getElem?_eq_getElem (by rw [HLL.out.2.1];exact hlt)⟩
   obtain ⟨hx1,hF⟩:=HIx.out k x hx
   obtain ⟨hy1,hyr⟩:=HHx.out k y hy
   have hir:=intoS_hi hF hyr (by omega)
   obtain ⟨c1,c2,c3,c4,c5⟩:=HM.out.it _ x hx1
   rw [Nat.add_mul] at c1 c2 c3 c4 c5
   have c6:=HM.out.sz.at hy1
   have hlb : lb < wr.heap.size:=Nat.lt_of_lt_of_le HM.out.nl HM.out.g.size
   have hsb : sb < wr.heap.size:=Nat.lt_of_lt_of_le HM.out.nb HM.out.g.size
   have HAS:=zH (autos_succ hx)
   have HBS:=zH (brought_succ hx hy)
   have HAN : Hid ((I.take (k + 1)).any (fun it=>it.k == 3) = (x.k == 3)):=zH (by
    obtain ⟨h1,rfl⟩:=List.getElem?_eq_some_iff.1 hx
    rw [List.take_succ_eq_append_getElem h1,List.any_append,HANY.out];simp)
   have HIN:=zH (fun W=>brought_any y x W)
   have hanyI : x.k = 3→I.any (fun it=>it.k == 3) = true:=fun h=>List.any_eq_true.2 ⟨x,List.mem_of_getElem? hx,by simp [h]⟩
   have HANI:=zH hanyI
   have HY:=zH hy1
   have HLEN : Hid ((autosF 0 (I.take k)).length≤k):=zH (Nat.le_trans (autosF_len _ _) (by rw [List.length_take];omega))
   clear hx hy hx1 hy1 hanyI hF
   obtain ⟨S,hS⟩ : ∃ S,intoS y x = S:=⟨_,rfl⟩
   rw [hS] at hir HBS HIN
   clear hS
   generalize broughtL (I.take k) (H.take k) = Bk at *
   generalize autosF 0 (I.take k) = Ak at *
   obtain ⟨xk,xn,xd,xmn,xmx⟩:=x
   dsimp only at c1 c2 c3 c4 c5 HAS HAN HANI
   unfold Itm.val at HIN
   have HMB : Hid (FM W lb sb l L vo (ncast Ak) (wr.alloc (.cells #[.int .i8 xk,.int .i64 xn,.int .i64 xd,.int .i64 xmn,.int .i64 xmx] 40))):=zH (HM.out.below (by (repeat (first | exact Below.refl _ _ | assumption | refine below_drewN ?_ _ | refine Below.drew ?_ | (refine Below.alloc ?_ ?bs _;(case bs=>first | omega | (simp;done) | (simp;omega))) | (refine Below.setCell ?_ ?bs _;(case bs=>first | omega | (simp;done) | (simp;omega)))))))
   by_cases h3 : xk = 3
   ·as_aux_lemma=>
     subst h3
     have HE : Hid (segS L a R = L):=zH (by rw [← HR.out,if_pos (HANI.out rfl)];exact HSELF.out)
     clear HR
     go_wp2
     refine bodyPost_ret (results_none rfl _ _ _) rfl ?_
     rw [HE.out]
     exact ⟨rfl,HMB.out.sz,HMB.out.g⟩
   ·have h3b : (xk == 3) = false:=by rw [beq_eq_false_iff_ne];exact h3
    have HANF : Hid ((I.take (k + 1)).any (fun it=>it.k == 3) = false):=zH (by rw [HAN.out];exact h3b)
    clear HAN HANI HR
    by_cases h0 : xk = 0
    ·as_aux_lemma=>
      subst h0
      rw [if_pos rfl] at HAS
      have hnopn : (ncast Ak).length < 1000000000000:=by have:=HLEN.out;simp;omega
      have HNO:=zH hnopn
      have HNE : Hid (some wr.heap.size ≠ vo.ownBlock):=zH fun e=>by have:=(HM.out.op.lt _ e.symm).2;omega
      have hB9 : W.heap.size≤wr.heap.size:=HM.out.g.size
      clear hnopn
      go_upto_region 8 with ((with_reducible apply wpList_append_new elI (B:=W.heap.size) (n:=(ncast Ak).length) (xs:=ivl (ncast Ak)) (nw:=#[.int .i64 (k : Int)]));exact rfl;exact rfl;(first | exact rfl | simp);exact HMB.out.op;(first | omega | (simp;omega));exact HNO.out;exact rfl;(intro u hu;simp at hu;subst hu;rfl);intro v' w9 hrow9 hgr9 hpl9 K hK;have HM9:=zH ((HMB.out.below (Below.alloc (Below.refl _ _) (Nat.le_refl _) _)).app (x:=(k : Int)) hrow9 hgr9);have d1:=hgr9.cell (a:=⟨wr.heap.size,0,none⟩) (v:=.int .i8 0) (by go_simp) HNE.out;have d2:=hgr9.cell (a:=⟨wr.heap.size,1,none⟩) (v:=.int .i64 xn) (by go_simp) HNE.out;have d3:=hgr9.cell (a:=⟨wr.heap.size,2,none⟩) (v:=.int .i64 xd) (by go_simp) HNE.out;have d4:=hgr9.cell (a:=⟨wr.heap.size,3,none⟩) (v:=.int .i64 xmn) (by go_simp) HNE.out;have d5:=hgr9.cell (a:=⟨wr.heap.size,4,none⟩) (v:=.int .i64 xmx) (by go_simp) HNE.out;have d6:=HM9.out.sz.at HY.out;have d7:=hgr9.size;clear hrow9 hgr9 hpl9)
      have hsb9 : sb < w9.heap.size:=Nat.lt_of_lt_of_le HM9.out.nb HM9.out.g.size
      have hwr9 : wr.heap.size < w9.heap.size:=by simp at d7;omega
      go_region_with (go_at_call 133;((with_reducible refine (HIN.out _).mono ?_);rintro e1' w2 ⟨rfl,hb2⟩;have HMX:=zH (HM9.out.below (W':=w2) (by first | exact hb2 | exact Below.trans (Below.drew (Below.refl _ _)) hb2));clear hb2))
      all_goals
       go_wp2
       go_roundw
       case rel=>exact ⟨k + 1,v',by first | rfl | go_num,by omega,by rw [HBS.out];congr 1;omega,rfl,by rw [HAS.out];simpa [ncast] using HMX.out,HANF.out⟩
       case measure=>simp [intOf] <;> omega
    ·as_aux_lemma=>
      rw [if_neg h0] at HAS
      have h0b : (xk == 0) = false:=by rw [beq_eq_false_iff_ne];exact h0
      go_upto_region 8 with (fail)
      go_region_with (go_at_call 133;((with_reducible refine (HIN.out _).mono ?_);rintro e1' w2 ⟨rfl,hb2⟩;have HMX:=zH (HMB.out.below (W':=w2) (by first | exact hb2 | exact Below.trans (Below.drew (Below.refl _ _)) hb2));clear hb2))
      all_goals
       go_wp2
       go_roundw
       case rel=>exact ⟨k + 1,vo,by first | rfl | go_num,by omega,by rw [HBS.out];congr 1;omega,rfl,by rw [HAS.out];exact HMX.out,HANF.out⟩
       case measure=>simp [intOf] <;> omega
  ·as_aux_lemma=>
    have hltI : decide ((k : Int) < (s : Int)) = false:=decide_eq_false (by omega)
    obtain rfl : k = s:=by omega
    have HI9 : Hid (I.take k = I∧H.take k = H):=zH ⟨List.take_of_length_le (by rw [HLL.out.1];exact Nat.le_refl _),List.take_of_length_le (by rw [HLL.out.2.1];exact Nat.le_refl _)⟩
    obtain ⟨A,hA⟩ : ∃ A,autosF 0 I = A:=⟨_,rfl⟩
    have hAm : ∀ i ∈ A,i < k:=fun i hi=>by rw [← hA] at hi;have:=autosF_mem I 0 i hi;rw [HLL.out.1] at this;omega
    have hAl : A.length≤k:=by rw [← hA,← HLL.out.1];exact autosF_len I 0
    have HAM:=zH hAm
    obtain ⟨b0,hb0⟩ : ∃ b0,size - G - broughtL I H = b0:=⟨_,rfl⟩
    have HR1 : Hid (giveS b0 A H = R):=zH (by rw [← HR.out,if_neg (by have:=HANY.out;rw [HI9.out.1] at this;rw [this];simp),hb0,hA])
    rw [HI9.out.1,HI9.out.2] at hbr ⊢
    rw [hb0]
    have hM:=HM.out
    rw [HI9.out.1,hA] at hM
    have hb0r : b0≤4096∧-300000000000≤b0:=by omega
    clear hA hb0 hAm HR HANY HM HBR hbr HI9
    obtain ⟨p9,c9,hvo⟩:=hM.form
    rw [List.length_map] at hvo
    subst hvo
    have HM:=zH hM
    clear hM
    go_wp2
    go_loopw [8,50] (fun v8 i wr=>∃ (q : Nat) (b : Int) (h : List Int),i = .int .i64 q∧q≤A.length∧v8 = .int .i64 b∧b≤4096∧-300000000000≤b∧h.length = k∧(∀ x ∈ h,0≤x∧x≤67108864 + 4096 * (q : Int))∧FM W lb sb l (segS L a h) (.slice p9 A.length c9) (ncast A) wr∧giveS b (A.drop q) h = R) (fun _ i _=>A.length - (intOf i).toNat)
    case atStart=>exact ⟨0,b0,H,rfl,by omega,rfl,hb0r.1,hb0r.2,HLL.out.2.1,fun x hx=>by have:=HHB.out x hx;omega,by rw [HSELF.out];exact HM.out,HR1.out⟩
    case round=>
     obtain ⟨q,b,h,rfl,hq,rfl,hb1,hb2,hhl,hhb,hM,hG⟩:=hrel
     have HM2:=zH hM
     have HG:=zH hG
     have HHB2:=zH hhb
     have HHL:=zH hhl
     clear hM hG hhb hhl HM HR1
     by_cases hlt2 : q < A.length
     ·have hlt2I : (q : Int) < (A.length : Int):=by omega
      obtain ⟨i,hi⟩ : ∃ i,A[q]? = some i:=⟨_,List.getElem?_eq_getElem hlt2⟩
      have hik:=HAM.out i (List.mem_of_getElem? hi)
      obtain ⟨g,rfl,hg9,_,c1⟩:=HM2.out.at (i:=q) (x:=(i : Int)) (by simp [hi])
      by_cases hpos : b≤0
      ·as_aux_lemma=>
        have HE : Hid (h = R):=zH (by rw [← HG.out,give_done hpos])
        clear HG
        go_wp2
        refine bodyPost_ret (results_none rfl _ _ _) rfl ?_
        rw [← HE.out]
        exact ⟨rfl,HM2.out.sz,HM2.out.g⟩
      ·have hposD : decide (b≤0) = false:=decide_eq_false hpos
       have hposb : 0 < b:=by omega
       have hgd:=give_drop (h:=h) hi hpos
       obtain ⟨Mi,hMi⟩ : ∃ Mi : Int,(A.length : Int) - (q : Int) = Mi:=⟨_,rfl⟩
       have hMi1 : 1≤Mi:=by omega
       have hps : partS b (A.length - q) = b / Mi + if 0 < b % Mi then 1 else 0:=by unfold partS;rw [show ((A.length - q : Nat) : Int) = Mi by omega]
       have hpr:=partS_range (lack:=b) (m:=A.length - q) hposb (by omega)
       obtain ⟨y,hy⟩ : ∃ y,h[i]? = some y:=⟨_,List.getElem?_eq_getElem (by rw [HHL.out];exact hik)⟩
       have hyr:=HHB2.out y (List.mem_of_getElem? hy)
       have hgy : gd h i = y:=by simp [gd,hy]
       have c2:=HM2.out.sz.at (seg_get (by rw [HHL.out];have:=HLL.out.2.2;omega) hy)
       have f2:=HM2.out.sz.froz (a + i)
       have hsb : sb < wr.heap.size:=Nat.lt_of_lt_of_le HM2.out.nb HM2.out.g.size
       obtain ⟨P,hP⟩ : ∃ P,partS b (A.length - q) = P:=⟨_,rfl⟩
       rw [hP] at hps hpr
       rw [hgy,hP,HG.out] at hgd
       have HP2 : Hid (FM W lb sb l (segS L a (h.set i (y + P))) (.slice (some ⟨g,0,none⟩) A.length c9) (ncast A) (wr.setCell ⟨sb,a + i,none⟩ (.int .i64 (y + P)))):=zH (by
        have:=HM2.out.put (a + i) (y + P)
        rwa [seg_set _ (by rw [HHL.out];have:=HLL.out.2.2;omega) (by rw [HHL.out];exact hik)] at this)
       have HGD:=zH hgd.symm
       have HB3 : Hid (∀ x ∈ h.set i (y + P),0≤x∧x≤67108864 + 4096 * ((q + 1 : Nat) : Int)):=zH fun x hx=>by
        rcases List.mem_or_eq_of_mem_set hx with hx | rfl
        ·have:=HHB2.out x hx;push_cast;omega
        ·push_cast;omega
       have HL3 : Hid ((h.set i (y + P)).length = k):=zH (by rw [List.length_set,HHL.out])
       have hd1 : b.tdiv Mi = b / Mi:=Int.tdiv_eq_ediv_of_nonneg (by omega)
       have hd2 : b.tmod Mi = b % Mi:=Int.tmod_eq_emod_of_nonneg (by omega)
       have hd3 : (Mi == 0) = false:=by rw [beq_eq_false_iff_ne];omega
       have hd4 : 0≤b / Mi:=Int.ediv_nonneg (by omega) (by omega)
       have hd5 : b / Mi≤b:=Int.ediv_le_self _ (by omega)
       obtain ⟨D,hD⟩ : ∃ D,b / Mi = D:=⟨_,rfl⟩
       obtain ⟨Mo,hMo⟩ : ∃ Mo,b % Mi = Mo:=⟨_,rfl⟩
       rw [hD] at hd1 hd4 hd5 hps
       rw [hMo] at hd2 hps
       clear hD hMo hgd hgy hP hi hy
       have hqq : (q : Int)≤4096:=by omega
       by_cases hr : 0 < Mo
       ·as_aux_lemma=>
         rw [if_pos hr] at hps
         subst hps
         go_wp2
         go_roundw
         case rel=>exact ⟨q + 1,b - (D + 1),h.set i (y + (D + 1)),by first | rfl | go_num,by omega,by first | rfl | go_num,by omega,by omega,HL3.out,HB3.out,by first | exact HP2.out | simpa using HP2.out,HGD.out⟩
         case measure=>simp [intOf] <;> omega
       ·as_aux_lemma=>
         rw [if_neg hr,Int.add_zero] at hps
         subst hps
         have hrD : decide (0 < Mo) = false:=decide_eq_false hr
         go_wp2
         go_roundw
         case rel=>exact ⟨q + 1,b - P,h.set i (y + P),by first | rfl | go_num,by omega,by first | rfl | go_num,by omega,by omega,HL3.out,HB3.out,by first | exact HP2.out | simpa using HP2.out,HGD.out⟩
         case measure=>simp [intOf] <;> omega
     ·as_aux_lemma=>
       have hlt2I : decide ((q : Int) < (A.length : Int)) = false:=decide_eq_false (by omega)
       obtain rfl : q = A.length:=by omega
       have HE : Hid (h = R):=zH (by rw [← HG.out,List.drop_length];rfl)
       clear HG
       go_wp2
       go_end0
       rw [← HE.out]
       exact ⟨rfl,HM2.out.sz,HM2.out.g⟩
end Go.Proofs.YthhomflonpjbmaaGreatDoor
/-
 The walks of grid's begins and stretch.
-/
namespace Go.Proofs.YthhomflonpjbmaaGreatDoor
open Go.RowKit
theorem begins_next {gap : Int} : ∀ (l : List Int) (a : Int) (k : Nat) (x n : Int),(beginsF gap a l)[k]? = some x→l[k]? = some n→(beginsF gap a l)[k + 1]? = some (x + within3S n 0 4096 + gap)
 | [],_,k,_,_,_,h=>by simp at h
 |m :: l,a,0,x,n,h1,h2=>by
  simp [beginsF] at h1 h2
  subst h1 h2
  cases l <;> simp [beginsF]
 |m :: l,a,k + 1,x,n,h1,h2=>by
  simp only [beginsF,List.getElem?_cons_succ] at h1 ⊢
  exact begins_next l _ k x n h1 (by simpa using h2)
theorem begins_first (gap a : Int) (l : List Int) : (beginsF gap a l)[0]? = some a:=by cases l <;> simp [beginsF]
theorem begins_range {gap : Int} (hg : 0≤gap∧gap≤4096) : ∀ (l : List Int) (a : Int),∀ x ∈ beginsF gap a l,a≤x∧x≤a + 8192 * l.length
 | [],a,x,h=>by simp [beginsF] at h;subst h;simp
 |n :: l,a,x,h=>by
  simp only [beginsF,List.mem_cons] at h
  rw [List.length_cons]
  rcases h with rfl | h
  ·push_cast;omega
  ·have:=begins_range hg l _ x h
   have h2 : 0≤within3S n 0 4096∧within3S n 0 4096≤4096:=by unfold within3S;omega
   push_cast;omega
set_option maxRecDepth 100000 in
set_option maxHeartbeats 4000000 in
theorem begins_any {W : World} {v : Value} {l : List Int} (hv : SlI W v l) (gap : Int) (hg : 0≤gap∧gap≤4096) (hn : l.length≤4096) :
  Calls Tryz.prog 137 #[v,.int .i64 gap] W (NewI (beginsF gap 0 l) W):=by
 obtain ⟨p,c,rfl,_,hx⟩:=hv
 have HX:=zH hx
 obtain ⟨n,hnn⟩ : ∃ n,l.length = n:=⟨_,rfl⟩
 have HN:=zH hnn
 obtain ⟨R,hR⟩ : ∃ R,beginsF gap 0 l = R:=⟨_,rfl⟩
 have hRl : R.length = n + 1:=by rw [← hR,beginsF_len,hnn]
 have HRN : Hid (∀ (k : Nat) (x y : Int),R[k]? = some x→l[k]? = some y→R[k + 1]? = some (x + within3S y 0 4096 + gap)):=zH (by rw [← hR];exact begins_next l 0)
 have HR0 : Hid (R[0]? = some 0):=zH (by rw [← hR];exact begins_first gap 0 l)
 have HRR : Hid (∀ x ∈ R,0≤x∧x≤33554432):=zH fun x hx=>by
  rw [← hR] at hx
  have:=begins_range hg l 0 x hx
  omega
 rw [hR]
 rw [hnn] at hn ⊢
 have HRL:=zH hRl
 have hmk:=mk_ints (n + 1) (by omega)
 have HP1 : Hid (part R 1 = List.replicate (n + 1) 0):=zH (by
  have h:=HR0.out
  cases hRc : R with
  |nil=>rw [hRc] at h;simp at h
  |cons a t=>rw [hRc] at h;simp at h;subst h;unfold part;have:=HRL.out;rw [hRc] at this;simp at this ⊢;rw [this,← List.replicate_succ])
 push_cast at hmk
 clear hx hnn hR hRl
 have HMK:=zH (ArrI.made W (n + 1))
 go_enter Tryz.func137,Tryz.ntmps137
 go_wp2
 go_loopw [14] (fun i wr=>∃ k : Nat,i = .int .i64 k∧k≤n∧ArrI wr W.heap.size (part R (k + 1))∧Below W.heap.size W wr) (fun i _=>n - (intOf i).toNat)
 case atStart=>exact ⟨0,rfl,by omega,by rw [HP1.out];exact HMK.out,by (repeat (first | exact Below.refl _ _ | assumption | refine below_drewN ?_ _ | refine Below.drew ?_ | (refine Below.alloc ?_ ?bs _;(case bs=>first | omega | (simp;done) | (simp;omega))) | (refine Below.setCell ?_ ?bs _;(case bs=>first | omega | (simp;done) | (simp;omega)))))⟩
 case round=>
  obtain ⟨k,rfl,hk,hA,hB⟩:=hrel
  have HA:=zH hA
  have HB:=zH hB
  have l1:=hA.lt
  have l2:=hB.size
  clear hA hB hmk HMK
  by_cases hlt : k < n
  ·have hltI : (k : Int) < (n : Int):=by omega
   obtain ⟨y,hy⟩ : ∃ y,l[k]? = some y:=⟨_,List.getElem?_eq_getElem (by rw [HN.out];exact hlt)⟩
   obtain ⟨g,o,rfl,hg9,c1⟩:=HX.out k y hy
   have c1' : wr.cell? ⟨g,o + k,none⟩ = some (.int .i64 y):=by rw [HB.out.cell (p:=⟨g,o + k,none⟩) hg9];exact c1
   have hgr : g < wr.heap.size:=Nat.lt_of_lt_of_le hg9 l2
   obtain ⟨x,hx⟩ : ∃ x,R[k]? = some x:=⟨_,List.getElem?_eq_getElem (by rw [HRL.out];omega)⟩
   have hxr:=HRR.out x (List.mem_of_getElem? hx)
   have hnx:=HRN.out k x y hx hy
   have c2 : wr.cell? ⟨W.heap.size,k,none⟩ = some (.int .i64 x):=HA.out.at (by
    unfold part
    rw [List.getElem?_append_left (by rw [List.length_take,HRL.out];omega),List.getElem?_take_of_lt (by omega)];exact hx)
   have c3 : wr.cell? ⟨W.heap.size,k + 1,none⟩ = some (.int .i64 0):=HA.out.at (part_get (by rw [HRL.out];omega))
   have f3:=HA.out.froz (k + 1)
   obtain ⟨z,hz⟩ : ∃ z,within3S y 0 4096 = z:=⟨_,rfl⟩
   have hzr : 0≤z∧z≤4096:=by rw [← hz];unfold within3S;omega
   rw [hz] at hnx
   have HW:=zH (fun W=>within3_any y 0 4096 W)
   rw [hz] at HW
   have HP : Hid (ArrI _ W.heap.size (part R (k + 1 + 1))):=zH ((HA.out.put (k + 1) (x + z + gap)).to (part_set hnx))
   have hkI : (k : Int) + 1 < (n : Int) + 1:=by omega
   have hkI0 : (k : Int) < (n : Int) + 1:=by omega
   have hw1 : IntKind.i64.wrap ((k : Int) + 1) = (k : Int) + 1:=IntWalk.i64_in _ (by omega)
   have hw2 : IntKind.i64.wrap (x + z) = x + z:=IntWalk.i64_in _ (by omega)
   have hw3 : IntKind.i64.wrap (x + z + gap) = x + z + gap:=IntWalk.i64_in _ (by omega)
   clear hx hy hz hnx c1
   go_wp2
   go_region_with (go_at_call 132;((with_reducible refine (HW.out _).mono ?_);rintro e1' w2 ⟨rfl,hw2⟩;obtain rfl:=hw2.symm))
   all_goals
    go_wp2
    go_roundw
    case rel=>exact ⟨k + 1,by first | rfl | go_num,by omega,by first | exact HP.out | exact HP.out.drew _,by have hb2:=HB.out;(repeat (first | exact Below.refl _ _ | assumption | refine below_drewN ?_ _ | refine Below.drew ?_ | (refine Below.alloc ?_ ?bs _;(case bs=>first | omega | (simp;done) | (simp;omega))) | (refine Below.setCell ?_ ?bs _;(case bs=>first | omega | (simp;done) | (simp;omega)))))⟩
    case measure=>simp [intOf] <;> omega
  ·have hltI : decide ((k : Int) < (n : Int)) = false:=decide_eq_false (by omega)
   obtain rfl : k = n:=by omega
   go_wp2
   go_ret
   exact ⟨W.heap.size,by rw [HRL.out];rfl,Nat.le_refl _,HA.out.to (part_full2 HRL.out.symm),HB.out⟩
theorem gd_some {l : List Int} {i : Nat} (h : i < l.length) : l[i]? = some (gd l i):=by simp [gd,List.getElem?_eq_getElem h]
def strV : Option (Int × Int)→Value
 |none=>.tuple #[.int .i64 0,.int .i64 0,.bool false]
 |some a=>.tuple #[.int .i64 a.1,.int .i64 a.2,.bool true]
set_option maxRecDepth 100000 in
set_option maxHeartbeats 4000000 in
theorem stretch_any {W : World} {v : Value} {l : List Int} (hv : SlI W v l) (n : Nat) (hn : l.length = n + 1) (hn4 : n≤4096) (gap fr many : Int) (hg : 0≤gap∧gap≤4096) (hf : 0≤fr∧fr≤70000000) (hm : 1≤many∧many≤4096) (hb : ∀ x ∈ l,0≤x∧x≤33554432) :
  Calls Tryz.prog 138 #[v,.int .i64 gap,.int .i64 fr,.int .i64 many] W (fun e W'=>e = .returned (strV (stretchS l gap fr many))∧∃ m,W' = W.drewN m):=by
 obtain ⟨p,c,rfl,_,hx⟩:=hv
 have HX:=zH hx
 clear hx
 have hmx : max many 1 = many:=by omega
 have hst : stretchS l gap fr many = if (n : Int)≤fr then none else some (gd l fr.toNat,gd l (fr + min many ((n : Int) - fr)).toNat - gap - gd l fr.toNat):=by
  unfold stretchS
  simp only [hn,hmx]
  rw [if_neg (by omega : ¬ fr < 0),if_neg (by omega : ¬ fr < 0)]
  push_cast
  rw [Int.add_sub_cancel]
  by_cases h : (n : Int)≤fr
  ·rw [if_pos (.inl h),if_pos h]
  ·rw [if_neg (by omega),if_neg h]
 rw [hst]
 have e1 : decide (fr < 0) = false:=decide_eq_false (by omega)
 have HN:=zH hn
 rw [hn]
 clear hst hn
 by_cases h : (n : Int)≤fr
 ·rw [if_pos h]
  go_enter Tryz.func138,Tryz.ntmps138
  go_wp2
  go_ret3
  exact ⟨rfl,0,rfl⟩
 ·rw [if_neg h]
  have hD : decide ((n : Int)≤fr) = false:=decide_eq_false h
  have e2 : decide (many < 1) = false:=decide_eq_false (by omega)
  obtain ⟨a,rfl⟩ : ∃ a : Nat,fr = a:=⟨fr.toNat,by omega⟩
  obtain ⟨m,hmm⟩ : ∃ m : Nat,min many ((n : Int) - (a : Int)) = m:=⟨(min many ((n : Int) - (a : Int))).toNat,by omega⟩
  have hmn : 1≤m∧a + m≤n:=by omega
  rw [hmm]
  rw [show ((a : Int) + (m : Int)).toNat = a + m by omega,Int.toNat_natCast]
  obtain ⟨x,hx⟩ : ∃ x,gd l a = x:=⟨_,rfl⟩
  obtain ⟨y,hy⟩ : ∃ y,gd l (a + m) = y:=⟨_,rfl⟩
  have gx:=gd_some (l:=l) (i:=a) (by rw [HN.out];omega)
  have gy:=gd_some (l:=l) (i:=a + m) (by rw [HN.out];omega)
  rw [hx] at gx ⊢
  rw [hy] at gy ⊢
  have hxr:=hb x (List.mem_of_getElem? gx)
  have hyr:=hb y (List.mem_of_getElem? gy)
  obtain ⟨g,o,rfl,hg9,c1⟩:=HX.out a x gx
  obtain ⟨g',o',e9,hg9',c2⟩:=HX.out (a + m) y gy
  obtain ⟨rfl,rfl⟩ : g = g'∧o = o':=by simpa using e9
  have i1 : (a : Int) < (n : Int) + 1:=by omega
  have i2 : (a : Int) + (m : Int) < (n : Int) + 1:=by omega
  clear gx gy hx hy hb e9
  go_enter Tryz.func138,Tryz.ntmps138
  go_upto_region 9 with (fail)
  go_quiet (fail)
  go_wp2
  go_ret3
  exact ⟨rfl,_,rfl⟩
end Go.Proofs.YthhomflonpjbmaaGreatDoor
/-
 What a tree has that tree.Check lets in.
-/
namespace Go.Proofs.YthhomflonpjbmaaGreatDoor
theorem kidsC_ok {N n : Nat} : ∀ (l : List Int) (tk : List Bool) (dp : List Int) tk' dp',kidsC N n l tk dp = some (tk',dp')→tk.length = N→(∀ k ∈ l,(n : Int) < k∧k < N)∧tk'.count true = tk.count true + l.length∧tk'.length = N
 | [],tk,dp,tk',dp',h,ht=>by
  simp [kidsC] at h
  obtain ⟨rfl,_⟩:=h
  exact ⟨by simp,by simp,ht⟩
 |k :: r,tk,dp,tk',dp',h,ht=>by
  simp only [kidsC] at h
  split at h
  ·cases h
  ·rename_i hc
   have h1 : ¬ k≤(n : Int):=fun e=>hc (.inl e)
   have h2 : ¬ (N : Int)≤k:=fun e=>hc (.inr (.inl e))
   have h3 : ¬ tk[k.toNat]? = some true:=fun e=>hc (.inr (.inr e))
   have hkt : k.toNat < tk.length:=by omega
   obtain ⟨a1,a2,a3⟩:=kidsC_ok r _ _ tk' dp' h (by simpa using ht)
   have h4 : tk[k.toNat] = false:=by
    cases hb : tk[k.toNat] with
    |false=>rfl
    |true=>exact absurd (by rw [List.getElem?_eq_getElem hkt,hb]) h3
   refine ⟨fun z hz=>?_,?_,a3⟩
   ·rcases List.mem_cons.1 hz with rfl | hz
    ·exact ⟨by omega,by omega⟩
    ·exact a1 z hz
   ·rw [a2,List.count_set hkt,h4,List.length_cons]
    simp
    omega
structure NodeOk (N n : Nat) (x : ND) : Prop where
 k1 : 1≤x.kd
 k11 : x.kd≤11
 kids : ∀ k ∈ x.kids,(n : Int) < k∧k < N
 kl : x.kids.length≤N
 kb : ¬ KBad x.kd x.kids.length
 items : ItemsP x
 fields : FieldsP x
 tx : x.tx.size≤65536
theorem nodeC_ok {N n : Nat} {x : ND} {s s' : CS} (h : nodeC N n x s = .ok s') (ht : s.tk.length = N) : NodeOk N n x∧s'.tk.length = N:=by
 unfold nodeC at h
 by_cases h1 : x.kd < 1∨11 < x.kd
 ·rw [if_pos h1] at h;cases h
 rw [if_neg h1] at h
 by_cases h2 : IdBad x s.ids
 ·rw [if_pos h2] at h;cases h
 rw [if_neg h2] at h
 by_cases h3 : ClBad x
 ·rw [if_pos h3] at h;cases h
 rw [if_neg h3] at h
 cases hk : kidsC N n x.kids s.tk s.dp with
 |none=>simp [hk] at h
 |some p=>
  obtain ⟨tk,dp⟩:=p
  obtain ⟨a1,a2,a3⟩:=kidsC_ok _ _ _ _ _ hk ht
  simp only [hk] at h
  by_cases h4 : KBad x.kd x.kids.length
  ·rw [if_pos h4] at h;cases h
  rw [if_neg h4] at h
  by_cases h5 : ItemsP x
  ·rw [if_neg (fun e=>e h5)] at h
   by_cases h6 : FieldsP x
   ·rw [if_neg (fun e=>e h6)] at h
    by_cases h7 : 65536 < x.tx.size
    ·rw [if_pos h7] at h;cases h
    ·rw [if_neg h7] at h
     injection h with h
     subst h
     have : tk.count true≤tk.length:=List.count_le_length
     exact ⟨⟨by omega,by omega,a1,by omega,h4,h5,h6,by omega⟩,a3⟩
   ·rw [if_pos h6] at h;cases h
  ·rw [if_pos h5] at h;cases h
theorem nodeC_err {N n : Nat} {x : ND} {s : CS} {e : Int} (h : nodeC N n x s = .error e) : e ≠ 0:=by
 unfold nodeC at h
 repeat' split at h
 all_goals first | (injection h with h;subst h;decide) | cases h
theorem nodesC_err {N : Nat} : ∀ (l : List ND) (n : Nat) (s : CS) (p : Int × Nat),nodesC N n l s = .error p→p.1 ≠ 0
 | [],_,_,_,h=>by simp [nodesC] at h
 |x :: r,n,s,p,h=>by
  simp only [nodesC] at h
  split at h
  ·rename_i e he
   injection h with h
   subst h
   exact nodeC_err he
  ·exact nodesC_err r _ _ p h
theorem nodesC_ok {N : Nat} : ∀ (l : List ND) (n : Nat) (s s' : CS),nodesC N n l s = .ok s'→s.tk.length = N→∀ (i : Nat) x,l[i]? = some x→NodeOk N (n + i) x
 | [],_,_,_,_,_,i,x,hx=>by simp at hx
 |y :: r,n,s,s',h,ht,i,x,hx=>by
  simp only [nodesC] at h
  split at h
  ·cases h
  ·rename_i s1 he
   obtain ⟨a1,a2⟩:=nodeC_ok he ht
   cases i with
   |zero=>simp at hx;subst hx;exact a1
   |succ i=>
    have:=nodesC_ok r (n + 1) s1 s' h a2 i x (by simpa using hx)
    rwa [show n + 1 + i = n + (i + 1) by omega] at this
structure TreeOk (ns : List ND) : Prop where
 len : 1≤ns.length∧ns.length≤4096
 node : ∀ (i : Nat) x,ns[i]? = some x→NodeOk ns.length i x
theorem tree_ok {ns : List ND} (h : (checkS ns).1 = 0) : TreeOk ns:=by
 unfold checkS at h
 by_cases h1 : ns.length = 0∨4096 < ns.length
 ·rw [if_pos h1] at h;cases h
 ·rw [if_neg h1] at h
  cases hs : nodesC ns.length 0 ns (cs0 ns.length) with
  |error p=>
   rw [hs] at h
   exact absurd h (nodesC_err _ _ _ _ hs)
  |ok s=>
   refine ⟨by omega,fun i x hx=>?_⟩
   have:=nodesC_ok ns 0 _ s hs (by simp [cs0]) i x hx
   rwa [Nat.zero_add] at this
end Go.Proofs.YthhomflonpjbmaaGreatDoor
/-
 The walks of wrap.line and of wrap.blanks.
-/
namespace Go.Proofs.YthhomflonpjbmaaGreatDoor
open Go.RowKit
def lnC (c : Cl) : Cl:=if c.1 = [10] then ([32],1) else c
def lnS (s : List UInt8) : List Cl:=(flowS s).map lnC
def lnM (cs : List Cl) (k : Nat) : List Cl:=(cs.take k).map lnC ++ cs.drop k
theorem lnM_zero (cs : List Cl) : lnM cs 0 = cs:=by simp [lnM]
theorem lnM_full {cs : List Cl} {k : Nat} (h : cs.length = k) : lnM cs k = cs.map lnC:=by
 unfold lnM
 rw [List.take_of_length_le (by omega),List.drop_eq_nil_of_le (by omega),List.append_nil]
theorem lnM_len (cs : List Cl) (k : Nat) : (lnM cs k).length = cs.length:=by simp [lnM];omega
theorem lnM_get {cs : List Cl} {k : Nat} {y : Cl} (h : cs[k]? = some y) : (lnM cs k)[k]? = some y:=by
 obtain ⟨h1,h2⟩:=List.getElem?_eq_some_iff.1 h
 unfold lnM
 rw [List.getElem?_append_right (by simp;omega),List.length_map,List.length_take,Nat.min_eq_left (by omega),Nat.sub_self,List.getElem?_drop,Nat.add_zero]
 exact h
theorem lnM_set {cs : List Cl} {k : Nat} {y : Cl} (h : cs[k]? = some y) : (lnM cs k).set k (lnC y) = lnM cs (k + 1):=by
 obtain ⟨h1,h2⟩:=List.getElem?_eq_some_iff.1 h
 have hl : ((cs.take k).map lnC).length = k:=by simp;omega
 unfold lnM
 rw [List.set_append_right _ _ (by rw [hl];exact Nat.le_refl _),hl,Nat.sub_self,List.drop_eq_getElem_cons h1,List.take_succ_eq_append_getElem h1,h2]
 simp
theorem lnM_keep {cs : List Cl} {k : Nat} {y : Cl} (h : cs[k]? = some y) (hy : ¬ y.1 = [10]) : lnM cs (k + 1) = lnM cs k:=by
 rw [← lnM_set h]
 have e : lnC y = y:=by unfold lnC;rw [if_neg hy]
 rw [e]
 obtain ⟨h1,h2⟩:=List.getElem?_eq_some_iff.1 (lnM_get h)
 rw [← h2];exact List.set_getElem_self h1
def clC (c : Cl) : List Value:=[.string (mkS c.1),.int .i64 c.2]
theorem clC_len (c : Cl) : (clC c).length = 2:=rfl
theorem cv_flat (l : List Cl) : cv l = flatC clC l:=by
 induction l with
 |nil=>rfl
 |cons c l ih=>rw [flatC,← ih];rfl
theorem cvl_set {l : List Cl} {k : Nat} (h : k < l.length) (y : Cl) : cv (l.set k y) = ((cv l).set (k * 2) (.string (mkS y.1))).set (k * 2 + 1) (.int .i64 y.2):=by
 rw [cv_flat,cv_flat,flatC_set clC_len y l k h]
 rfl
theorem lnS_len (s : List UInt8) : (lnS s).length≤4 * s.length:=by unfold lnS;rw [List.length_map];exact flowS_len s
theorem lnS_ok (s : List UInt8) : ∀ c ∈ lnS s,okC c∧c.1.length≤64∧1≤c.2:=by
 intro c hc
 obtain ⟨y,hy,rfl⟩:=List.mem_map.1 hc
 have h:=flowS_ok s y hy
 have hk:=(List.mem_filter.1 hy).2
 unfold lnC
 split
 ·exact ⟨⟨by decide,by simp⟩,by simp,by simp⟩
 ·rename_i hn
  refine ⟨h.1,h.2,?_⟩
  unfold keptS at hk
  rcases Nat.eq_zero_or_pos y.2 with h0 | h0
  ·simp [h0,hn] at hk
  ·exact h0
set_option maxRecDepth 100000 in
set_option maxHeartbeats 2000000 in
theorem line_any (s : ByteArray) (hs : s.size≤2000000) (w : World) : Calls Tryz.prog 143 #[.string s] w (VRow 78 2 (lnS s.data.toList).length (cv (lnS s.data.toList)) w):=by
 have HFL:=zH (flow_any s (by omega) w)
 have hok : ∀ c ∈ flowS s.data.toList,∀ x ∈ c.1,x < 256:=fun c hc=>(flowS_ok _ c hc).1.2
 have hln:=flowS_len s.data.toList
 rw [blen] at hln
 have HR : Hid (lnS s.data.toList = (flowS s.data.toList).map lnC):=zH rfl
 obtain ⟨cs,hcs⟩ : ∃ cs,flowS s.data.toList = cs:=⟨_,rfl⟩
 rw [hcs] at HFL HR hok hln
 rw [HR.out,List.length_map]
 obtain ⟨n,hn⟩ : ∃ n,cs.length = n:=⟨_,rfl⟩
 have HN:=zH hn
 rw [hn] at hln HFL ⊢
 have HOK:=zH hok
 have hn4 : n≤8000000:=by omega
 clear hcs hok hn hln HR
 go_enter Tryz.func143,Tryz.ntmps143
 go_wp2_with (go_at_call 28;((with_reducible refine HFL.out.mono ?_);rintro e w1 ⟨v,rfl,hb1,hrow⟩;obtain ⟨A,c,rfl,hc1,hc2,hA⟩:=slice_form2 hrow;have HA:=zH hA;have HB1:=zH hb1;have HR1:=zH hrow;clear hA hrow hb1))
 go_loopw [9] (fun i wr=>∃ k : Nat,i = .int .i64 k∧k≤n∧Hid (wr.ownsRow w.heap.size 78 2 (.slice A n c) n (cv (lnM cs k)))∧Hid (Below w.heap.size w wr)) (fun i _=>n - (intOf i).toNat)
 case atStart=>exact ⟨0,rfl,by omega,by rw [lnM_zero];exact HR1,HB1⟩
 case round=>
  obtain ⟨k,rfl,hk,HR,HBE⟩:=hrel
  by_cases hlt : k < n
  ·have hltI : (k : Int) < (n : Int):=by omega
   obtain ⟨g,rfl,hgB,_,_⟩:=HA.out (by omega)
   obtain ⟨y,hy⟩ : ∃ y,cs[k]? = some y:=⟨_,List.getElem?_eq_getElem (by have:=HN.out;omega)⟩
   have hgt:=cv_get _ k y (lnM_get hy)
   have c0 : wr.cell? ⟨g,k * 2,none⟩ = some (.string (mkS y.1)):=(HR.out.cellAt (k * 2) (by omega)).trans hgt.1
   have c1 : wr.cell? ⟨g,k * 2 + 1,none⟩ = some (.int .i64 y.2):=(HR.out.cellAt (k * 2 + 1) (by omega)).trans hgt.2
   have f0:=HR.out.frozenAt (k * 2)
   have f1:=HR.out.frozenAt (k * 2 + 1)
   have hlg:=(World.ownsRow.lt HR.out g rfl).2
   have hln:=line_mk (HOK.out y (List.mem_of_getElem? hy))
   have hkl : k < (lnM cs k).length:=by rw [lnM_len,HN.out];exact hlt
   have HKL:=zH hkl
   have HSET:=zH (lnM_set hy)
   have HKEEP:=zH (fun h=>lnM_keep hy h)
   have HY : Hid (y.1 = [10]→lnC y = ([32],1)):=zH fun h=>if_pos h
   obtain ⟨t,ht⟩ : ∃ t,mkS y.1 = t:=⟨_,rfl⟩
   rw [ht] at c0 hln
   obtain ⟨z,hz⟩ : ∃ z,y.2 = z:=⟨_,rfl⟩
   rw [hz] at c1
   by_cases hlf : y.1 = [10]
   ·have e:=hln.2 hlf
    have HC : Hid (cv (lnM cs (k + 1)) = ((cv (lnM cs k)).set (k * 2) (.string ⟨#[32]⟩)).set (k * 2 + 1) (.int .i64 1)):=zH (by
     rw [← HSET.out,HY.out hlf,cvl_set HKL.out];rfl)
    subst e
    clear hgt hln ht hlf hy hz hkl
    go_wp2
    go_roundw
    case rel=>exact ⟨k + 1,by first | rfl | go_num,by omega,by rw [HC.out];exact zH ((HR.out.stored (k * 2) (.string ⟨#[32]⟩)).1.stored (k * 2 + 1) (.int .i64 1)).1,zH ((HBE.out.setCell (p:=⟨g,k * 2,none⟩) hgB _).setCell (p:=⟨g,k * 2 + 1,none⟩) hgB _)⟩
    case measure=>simp [intOf] <;> omega
   ·have e1 : ¬ t = ⟨#[10]⟩:=fun h=>hlf (hln.1 h)
    have e2 : (t.toList == [10]) = false:=by simp;exact fun h=>e1 (ba_toList h)
    have HM : Hid (lnM cs (k + 1) = lnM cs k):=zH (HKEEP.out hlf)
    clear hgt hln ht hlf hy hz hkl
    go_wp2
    go_roundw
    case rel=>exact ⟨k + 1,by first | rfl | go_num,by omega,by rw [HM.out];exact HR,HBE⟩
    case measure=>simp [intOf] <;> omega
  ·have hltI : decide ((k : Int) < (n : Int)) = false:=decide_eq_false (by omega)
   obtain rfl : k = n:=by omega
   have HF:=zH (lnM_full HN.out)
   go_wp2
   go_ret
   exact ⟨_,rfl,HBE.out,by rw [← HF.out];exact HR.out⟩
def Txt (m : Nat) (w : World) (e : Ending) (w' : World) : Prop:=∃ t : ByteArray,e = .returned (.string t)∧t.size≤m∧Below w.heap.size w w'
set_option maxRecDepth 100000 in
theorem blanks_any (n : Nat) (h : n≤1000000) (w : World) : Calls Tryz.prog 144 #[.int .i64 n] w (Txt n w):=by
 have HC : Hid (Calls Tryz.prog 80 #[.string ⟨#[32]⟩,.int .i64 n] w (Txt n w)):=zH (by
  rcases Nat.lt_or_ge n 2 with h2 | h2
  ·rcases (show n = 0∨n = 1 by omega) with rfl | rfl
   ·exact (Tryz.strings_Repeat_zero _ w).mono fun e w' ⟨h1,h2⟩=>⟨_,h1,Nat.le_refl 0,by rw [h2];exact Below.refl _ _⟩
   ·exact (Tryz.strings_Repeat_one _ w).mono fun e w' ⟨h1,h2⟩=>⟨_,h1,by decide,by rw [h2];exact Below.refl _ _⟩
  ·refine (Tryz.strings_Repeat_main ⟨#[32]⟩ n w h2 (by omega) ?_ (by decide)).mono fun e w' ⟨h1,h2⟩=>⟨_,h1,?_,h2⟩
   ·have : (⟨#[32]⟩ : ByteArray).size = 1:=rfl
    rw [this];omega
   ·have : (Lib.repeatL [32] n).length = n * 1:=Lib.repeatL_length _ _
    simp [ByteArray.size,this])
 go_enter Tryz.func144,Tryz.ntmps144
 go_wp2_with (go_at_call 80;((with_reducible refine HC.out.mono ?_);rintro e1' w4 ⟨s,rfl,hs,hb⟩))
 go_ret
 exact ⟨s,rfl,hs,hb⟩
end Go.Proofs.YthhomflonpjbmaaGreatDoor
/-
 The walks of wrap.Trim at its end and of wrap.Align at its start: what they answer is no great text.
-/
namespace Go.Proofs.YthhomflonpjbmaaGreatDoor
open Go.RowKit
theorem seeOf {w : World} {B : Nat} {v : Value} {cs : List Cl} (h : w.ownsRow B 78 2 v cs.length (cv cs)) : ∃ A c,v = .slice A cs.length c∧cs.length≤c∧c≤maxLen∧SeeC w A cs.length cs:=by
 obtain ⟨A,c,rfl,h1,h2,hA⟩:=slice_form2 h
 refine ⟨A,c,rfl,h1,h2,rfl,fun hn=>?_⟩
 obtain ⟨g,rfl,_,hg,hc⟩:=hA hn
 refine ⟨g,0,rfl,hg,fun i y hi=>?_⟩
 have:=cv_get cs i y hi
 rw [Nat.zero_add]
 exact ⟨hc _ _ this.1,hc _ _ this.2⟩
def Seen (cs : List Cl) : Prop:=∀ c ∈ cs,okC c∧c.1.length≤64∧1≤c.2
theorem Seen.take {cs : List Cl} (h : Seen cs) (k : Nat) : Seen (cs.take k):=fun c hc=>h c (List.mem_of_mem_take hc)
theorem Seen.len {cs : List Cl} (h : Seen cs) : cs.length≤wideS cs:=by
 unfold wideS
 induction cs with
 |nil=>simp
 |cons c cs ih=>
  have h1:=(h c (by simp)).2.2
  have h2:=ih fun x hx=>h x (by simp [hx])
  simp only [List.length_cons,List.map_cons,List.sum_cons]
  omega
theorem Seen.join {cs : List Cl} (h : Seen cs) {W : Nat} (hw : wideS cs≤W) : (mkS (joinB cs)).size≤64 * W:=by
 rw [mkS_size]
 have h1:=joinB_len cs fun c hc=>(h c hc).2.1
 have h2:=h.len
 omega
theorem fit_wide (cs : List Cl) (w : Nat) : wideS (cs.take (fitS cs w))≤w:=(fitS_iff cs w (fitS cs w) (fitS_le cs w)).1 (Nat.le_refl _)
theorem join_txt {A : Option Addr} {c n m : Nat} {cs : List Cl} {w : World} (hS : SeeC w A n cs) (h : Seen cs) (hn : n≤10000000) (hw : wideS cs≤m) : Calls Tryz.prog 78 #[.slice A n c] w (Txt (64 * m) w) :=
 (join_any A c n cs w hS (by omega) fun x hx=>(h x hx).2.1).mono fun e w' ⟨h1,h2⟩=>⟨_,h1,h.join hw,h2⟩
theorem wide_seen {A : Option Addr} {n : Nat} {cs : List Cl} {w : World} (hS : SeeC w A n cs) (h : Seen cs) (hn : n≤10000000) (c : Nat) : Calls Tryz.prog 77 #[.slice A n c] w (VBel (.int .i64 (wideS cs)) w) :=
 wide_any A c n cs w hS (by omega) fun x hx=>(h x hx).1.1
theorem fit_seen {A : Option Addr} {n : Nat} {cs : List Cl} {w : World} (hS : SeeC w A n cs) (h : Seen cs) (hn : n≤10000000) (w0 : Nat) (hw : w0≤4096) (c : Nat) : Calls Tryz.prog 79 #[.slice A n c,.int .i64 w0] w (VBel (.int .i64 (fitS cs w0)) w) :=
 fit_any A c n w0 cs w hS (by omega) (by omega) fun x hx=>(h x hx).1.1
set_option maxRecDepth 100000 in
set_option maxHeartbeats 2000000 in
theorem trim_any (s : ByteArray) (hs : s.size≤1000000) (wd : Nat) (hw : wd≤4096) (w : World) : Calls Tryz.prog 109 #[.string s,.int .i64 wd,.string ⟨#[226,128,166]⟩,.int .i8 1] w (Txt 600000 w):=by
 have HL:=zH (fun W=>line_any s (by omega) W)
 have HM:=zH (fun W=>line_any ⟨#[226,128,166]⟩ (by decide) W)
 have hsl : Seen (lnS s.data.toList):=lnS_ok _
 have hsm : Seen (lnS (⟨#[226,128,166]⟩ : ByteArray).data.toList):=lnS_ok _
 have hll:=lnS_len s.data.toList
 have hlm:=lnS_len (⟨#[226,128,166]⟩ : ByteArray).data.toList
 rw [blen] at hll hlm
 have hm3 : (⟨#[226,128,166]⟩ : ByteArray).size = 3:=rfl
 rw [hm3] at hlm
 generalize lnS s.data.toList = L at HL hsl hll
 generalize lnS (⟨#[226,128,166]⟩ : ByteArray).data.toList = M at HM hsm hlm
 obtain ⟨n,hn⟩ : ∃ n,L.length = n:=⟨_,rfl⟩
 obtain ⟨m,hm⟩ : ∃ m,M.length = m:=⟨_,rfl⟩
 have HSL:=zH hsl
 have HSM:=zH hsm
 have HN:=zH hn
 have HMN:=zH hm
 rw [hn] at hll
 rw [hm] at hlm
 have hn4 : n≤4000000:=by omega
 have e1 : min (max (wd : Int) 0) 4096 = (wd : Int):=by omega
 have e2 : min (wd : Int) 4096 = (wd : Int):=by omega
 have e3 : max (wd : Int) 0 = (wd : Int):=by omega
 obtain ⟨wl,hwl⟩ : ∃ wl,wideS L = wl:=⟨_,rfl⟩
 have HWL:=zH hwl
 clear hsl hsm hn hm hll hwl hm3 hs
 by_cases hle : wl≤wd
 ·have hleI : (wl : Int)≤(wd : Int):=by omega
  go_enter Tryz.func109,Tryz.ntmps109
  go_wp2_with (first | (go_at_call 143;((with_reducible refine (HL.out _).mono ?_);rintro e1' w1 ⟨v,rfl,hb,hrow⟩;obtain ⟨A1,c1,rfl,hc11,hc21,hA1⟩:=seeOf hrow;have HS1:=zH hA1;have HB1:=zH hb;have hz1:=hb.size;clear hrow hA1 hb)) | (go_at_call 77;((with_reducible refine (wide_seen HS1.out HSL.out (by rw [HN.out];omega) c1).mono ?_);rintro e1' w2 ⟨rfl,hb2⟩;rw [HWL.out];have HS2:=zH (HS1.out.below hb2))) | (go_at_call 78;((with_reducible refine (join_txt (c:=c1) HS2.out HSL.out (by rw [HN.out];omega) (m:=wd) (by rw [HWL.out];exact hle)).mono ?_);rintro e1' w3 ⟨t,rfl,ht,hb3⟩)))
  go_ret
  exact ⟨t,rfl,by omega,HB1.out.trans ((hb2.trans (hb3.mono hb2.size)).mono hz1)⟩
 ·have hleI : decide ((wl : Int)≤(wd : Int)) = false:=decide_eq_false (by omega)
  go_enter Tryz.func109,Tryz.ntmps109
  go_upto_region 5 with (first | (go_at_call 143;((with_reducible refine (HL.out _).mono ?_);rintro e1' w1 ⟨v,rfl,hb,hrow⟩;obtain ⟨A1,c1,rfl,hc11,hc21,hA1⟩:=seeOf hrow;have HS1:=zH hA1;have HB1:=zH hb;have hz1:=hb.size;clear hrow hA1 hb)) | (go_at_call 77;((with_reducible refine (wide_seen HS1.out HSL.out (by rw [HN.out];omega) c1).mono ?_);rintro e1' w2 ⟨rfl,hb2⟩;rw [HWL.out];have HS2:=zH (HS1.out.below hb2);have HB2:=zH hb2)))
  go_upto_region 6 with (first | (go_at_call 143;((with_reducible refine (HM.out _).mono ?_);rintro e1' w3 ⟨v,rfl,hb,hrow⟩;obtain ⟨A3,c3,rfl,hc13,hc23,hA3⟩:=seeOf hrow;have HS3:=zH hA3;have HB3:=zH hb;have hz3:=hb.size;clear hrow hA3 hb)))
  have hft:=fitS_le M wd
  have hfw:=fit_wide M wd
  obtain ⟨f,hf⟩ : ∃ f,fitS M wd = f:=⟨_,rfl⟩
  rw [hf] at hft hfw
  have HFT:=zH (fun W hS=>hf ▸ fit_seen (w:=W) (A:=A3) (n:=M.length) (cs:=M) hS HSM.out (by rw [HMN.out];omega) wd hw c3)
  have hfI : (f : Int)≤(c3 : Int):=by omega
  clear hf
  obtain ⟨wm,hwm⟩ : ∃ wm,wideS (M.take f) = wm:=⟨_,rfl⟩
  have HWM:=zH hwm
  rw [hwm] at hfw
  obtain ⟨nn,hnn⟩ : ∃ nn : Nat,(wd : Int) - (wm : Int) = (nn : Int):=⟨wd - wm,by omega⟩
  have hnw : nn≤4096:=by omega
  have hgt:=fitS_le L nn
  have hgw:=fit_wide L nn
  obtain ⟨g,hg⟩ : ∃ g,fitS L nn = g:=⟨_,rfl⟩
  rw [hg] at hgt hgw
  have HGT:=zH (fun W hS=>hg ▸ fit_seen (w:=W) (A:=A1) (n:=L.length) (cs:=L) hS HSL.out (by rw [HN.out];omega) nn hnw c1)
  have hgI : (g : Int)≤(c1 : Int):=by omega
  have HGW:=zH hgw
  have HFW : Hid (wideS (M.take f)≤wd):=zH (by rw [hwm];exact hfw)
  have HFL:=zH hft
  have HGL:=zH hgt
  have HF3 : Hid (f≤10000000):=zH (by have:=HMN.out;omega)
  have HG3 : Hid (g≤10000000):=zH (by have:=HN.out;omega)
  have HZ2:=zH (HB1.out.trans (HB2.out.mono hz1))
  have HZ3:=zH (HZ2.out.trans (HB3.out.mono HZ2.out.size))
  have HS23:=zH (HS2.out.below HB3.out)
  clear hg hwm hgw hfw hft hgt
  go_wp2_with (first | (go_at_call 79;((with_reducible refine (HFT.out _ HS3.out).mono ?_);rintro e1' w4 ⟨rfl,hb4⟩;have HZ4:=zH (HZ3.out.trans (hb4.mono HZ3.out.size));have HM4:=zH ((HS3.out.below hb4).take HFL.out);have HL4:=zH (HS23.out.below hb4);clear hb4)) | (go_at_call 77;((with_reducible refine (wide_seen HM4.out (HSM.out.take f) HF3.out c3).mono ?_);rintro e1' w5 ⟨rfl,hb5⟩;rw [HWM.out];have HZ5:=zH (HZ4.out.trans (hb5.mono HZ4.out.size));have HM5:=zH (HM4.out.below hb5);have HL5:=zH (HL4.out.below hb5);clear hb5)) | (go_at_call 79;((with_reducible refine (HGT.out _ HL5.out).mono ?_);rintro e1' w6 ⟨rfl,hb6⟩;have HZ6:=zH (HZ5.out.trans (hb6.mono HZ5.out.size));have HM6:=zH (HM5.out.below hb6);have HL6:=zH ((HL5.out.below hb6).take HGL.out);clear hb6)) | (go_at_call 78;((with_reducible refine (join_txt (c:=c1) HL6.out (HSL.out.take g) HG3.out HGW.out).mono ?_);rintro e1' w7 ⟨t7,rfl,ht7,hb7⟩;have HZ7:=zH (HZ6.out.trans (hb7.mono HZ6.out.size));have HM7:=zH (HM6.out.below hb7);clear hb7)) | (go_at_call 78;((with_reducible refine (join_txt (c:=c3) HM7.out (HSM.out.take f) HF3.out HFW.out).mono ?_);rintro e1' w8 ⟨t8,rfl,ht8,hb8⟩;have HZ8:=zH (HZ7.out.trans (hb8.mono HZ7.out.size));clear hb8)))
  go_ret
  exact ⟨_,rfl,by simp;omega,HZ8.out⟩
set_option maxRecDepth 100000 in
set_option maxHeartbeats 2000000 in
theorem align_any (s : ByteArray) (hs : s.size≤1000000) (wd : Nat) (hw : wd≤4096) (w : World) : Calls Tryz.prog 108 #[.string s,.int .i64 wd,.int .i8 0] w (Txt 300000 w):=by
 have HL:=zH (fun W=>line_any s (by omega) W)
 have hsl : Seen (lnS s.data.toList):=lnS_ok _
 have hll:=lnS_len s.data.toList
 rw [blen] at hll
 generalize lnS s.data.toList = L at HL hsl hll
 obtain ⟨n,hn⟩ : ∃ n,L.length = n:=⟨_,rfl⟩
 have HSL:=zH hsl
 have HN:=zH hn
 rw [hn] at hll
 have hn4 : n≤4000000:=by omega
 have e1 : min (max (wd : Int) 0) 4096 = (wd : Int):=by omega
 have e2 : min (wd : Int) 4096 = (wd : Int):=by omega
 have e3 : max (wd : Int) 0 = (wd : Int):=by omega
 have hgt:=fitS_le L wd
 have hgw:=fit_wide L wd
 obtain ⟨g,hg⟩ : ∃ g,fitS L wd = g:=⟨_,rfl⟩
 rw [hg] at hgt hgw
 obtain ⟨wm,hwm⟩ : ∃ wm,wideS (L.take g) = wm:=⟨_,rfl⟩
 have HGT:=zH (fun (W : World) A c hS=>hg ▸ fit_seen (w:=W) (A:=A) (n:=L.length) (cs:=L) hS HSL.out (by rw [HN.out];omega) wd hw c)
 have HGW:=zH hgw
 have HWM:=zH hwm
 rw [hwm] at hgw
 obtain ⟨nn,hnn⟩ : ∃ nn : Nat,(wd : Int) - (wm : Int) = (nn : Int):=⟨wd - wm,by omega⟩
 have hnw : nn≤4096:=by omega
 have HBL:=zH (fun W=>blanks_any nn (by omega) W)
 have HG3 : Hid (g≤10000000):=zH (by omega)
 have HGL:=zH hgt
 clear hsl hn hll hs hg hwm hgw hgt
 go_enter Tryz.func108,Tryz.ntmps108
 go_upto_region 3 with (go_at_call 143;((with_reducible refine (HL.out _).mono ?_);rintro e1' w1 ⟨v,rfl,hb,hrow⟩;obtain ⟨A1,c1,rfl,hc11,hc21,hA1⟩:=seeOf hrow;have HS1:=zH hA1;have HB1:=zH hb;have hz1:=hb.size;clear hrow hA1 hb))
 have hgI : (g : Int)≤(c1 : Int):=by have:=HGL.out;omega
 go_wp2_with (first | (go_at_call 79;((with_reducible refine (HGT.out _ _ c1 HS1.out).mono ?_);rintro e1' w4 ⟨rfl,hb4⟩;have HZ4:=zH (HB1.out.trans (hb4.mono HB1.out.size));have HM4:=zH ((HS1.out.below hb4).take HGL.out);clear hb4)) | (go_at_call 77;((with_reducible refine (wide_seen HM4.out (HSL.out.take g) HG3.out c1).mono ?_);rintro e1' w5 ⟨rfl,hb5⟩;rw [HWM.out];have HZ5:=zH (HZ4.out.trans (hb5.mono HZ4.out.size));have HM5:=zH (HM4.out.below hb5);clear hb5)) | (go_at_call 78;((with_reducible refine (join_txt (c:=c1) HM5.out (HSL.out.take g) HG3.out HGW.out).mono ?_);rintro e1' w7 ⟨t7,rfl,ht7,hb7⟩;have HZ7:=zH (HZ5.out.trans (hb7.mono HZ5.out.size));clear hb7)) | (go_at_call 144;((with_reducible refine (HBL.out _).mono ?_);rintro e1' w8 ⟨t8,rfl,ht8,hb8⟩;have HZ8:=zH (HZ7.out.trans (hb8.mono HZ7.out.size));clear hb8)))
 go_ret
 exact ⟨_,rfl,by simp;omega,HZ8.out⟩
end Go.Proofs.YthhomflonpjbmaaGreatDoor
/-
 Plain: a text is not higher with more width.
-/
namespace Go.Proofs.YthhomflonpjbmaaGreatDoor
end Go.Proofs.YthhomflonpjbmaaGreatDoor
/-
 Plain: the numbers of two little texts.
-/
namespace Go.Proofs.YthhomflonpjbmaaGreatDoor
def abT : ByteArray:=⟨#[97,98,32,99,100,101]⟩
def xT : ByteArray:=⟨#[120]⟩
theorem ab_flow : flowS abT.data.toList = [([97],1),([98],1),([32],1),([99],1),([100],1),([101],1)]:=by kernel_rfl
theorem x_flow : flowS xT.data.toList = [([120],1)]:=by kernel_rfl
theorem ab_least : leastS 0 (flowS abT.data.toList) = 3:=by rw [ab_flow];decide
theorem ab_most : leastS 2 (flowS abT.data.toList) = 6:=by rw [ab_flow];decide
theorem x_least : leastS 0 (flowS xT.data.toList) = 1:=by rw [x_flow];decide
theorem x_most : leastS 2 (flowS xT.data.toList) = 1:=by rw [x_flow];decide
theorem ab_tall6 : tallS 0 6 abT = 1:=by unfold tallS;rw [ab_flow];simp [rowsS,linesN,lineR,cntR,wideS]
theorem ab_tall3 : tallS 0 3 abT = 2:=by unfold tallS;rw [ab_flow];simp [rowsS,linesN,lineR,cntR,wideS,fitS,advS,lastB,blankC]
theorem x_tall1 : tallS 0 1 xT = 1:=by unfold tallS;rw [x_flow];simp [rowsS,linesN,lineR,cntR,wideS]
end Go.Proofs.YthhomflonpjbmaaGreatDoor
