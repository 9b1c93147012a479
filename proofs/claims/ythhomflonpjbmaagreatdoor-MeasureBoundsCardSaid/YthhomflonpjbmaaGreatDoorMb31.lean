/-
 The walk of a measure's along at any node of any tree.
-/
import Derived.Test.YthhomflonpjbmaaGreatDoorMb26
import Derived.Deep.DeepCutAuto
import Derived.Test.YthhomflonpjbmaaGreatDoorMb29
import Derived.Test.YthhomflonpjbmaaGreatDoorMb30
set_option linter.unusedVariables false
set_option linter.unusedSimpArgs false
namespace Go.Proofs.YthhomflonpjbmaaGreatDoor
open Go.RowKit Go.Maps
def alongJ (it : Itm) (m l : Int) : Itm:=if it.k = 0 then ⟨1,m,0,min l m,it.mx⟩ else it
theorem alongI_eq (ns : List ND) (f : FN) (k : Int) : alongI ns f k = alongJ (ndF ns k).wd (mwS ns f k) (lwS ns f k):=by unfold alongI alongJ;rfl
def OutM (l : List Int) (p : MP) (w : World) (e : Ending) (w' : World) : Prop:=∃ v,e = .returned v∧w.grownBy w' (some p.bm)∧MG p w'∧SlI w' v l
def KidsIn (p : MP) (kids : List Int) : Prop:=∀ k ∈ kids,∃ (j : Nat) (y : ND),k = (j : Int)∧p.ns[j]? = some y∧y.wd.ok∧y.ht.ok∧FieldsP y
theorem set_setL {α : Type} (l : List α) (i : Nat) (a b : α) : (l.set i a).set i b = l.set i b:=by
 apply List.ext_getElem?
 intro j
 by_cases e : i = j
 ·subst e
  by_cases h : i < l.length
  ·rw [List.getElem?_set_self (by simpa using h),List.getElem?_set_self h]
  ·rw [List.getElem?_eq_none (by simp;omega),List.getElem?_eq_none (by simp;omega)]
 ·rw [List.getElem?_set_ne e,List.getElem?_set_ne e,List.getElem?_set_ne e]
structure AlI (w : World) (p : MP) (b : Nat) (l : List Itm) (W : World) : Prop where
 ms : MS p w W
 ar : ArrT W b l
theorem AlI.put {w : World} {p : MP} {b : Nat} {l : List Itm} {W : World} (h : AlI w p b l W) (hb : w.heap.size≤b) {i : Nat} (hi : i < l.length) (x : Itm) :
  AlI w p b (l.set i x) (((((W.setCell ⟨b,i * 5,none⟩ (.int .i8 x.k)).setCell ⟨b,i * 5 + 1,none⟩ (.int .i64 x.n)).setCell ⟨b,i * 5 + 2,none⟩ (.int .i64 x.d)).setCell ⟨b,i * 5 + 3,none⟩ (.int .i64 x.mn)).setCell ⟨b,i * 5 + 4,none⟩ (.int .i64 x.mx)) :=
 ⟨((((h.ms.set hb _ _).set hb _ _).set hb _ _).set hb _ _).set hb _ _,h.ar.put hi x⟩
theorem AlI.drew {w : World} {p : MP} {b : Nat} {l : List Itm} {W : World} (h : AlI w p b l W) : AlI w p b l W.drew:=⟨h.ms.drew,h.ar⟩
theorem AlI.drewN {w : World} {p : MP} {b : Nat} {l : List Itm} {W : World} (h : AlI w p b l W) (n : Nat) : AlI w p b l (W.drewN n):=⟨h.ms.drewN n,h.ar⟩
theorem AlI.calls {w : World} {p : MP} {b : Nat} {l : List Itm} {W W' : World} (h : AlI w p b l W) (hb : b ≠ p.bm) (hg : W.grownBy W' (some p.bm)) (hM : MG p W') : AlI w p b l W':=⟨h.ms.calls hg hM,h.ar.grown hg (by simpa using hb)⟩
set_option maxRecDepth 100000 in
set_option maxHeartbeats 8000000 in
theorem along_gen (p : MP) (w : World) (M : MG p w) (n : Nat) (x : ND) (hn : p.ns[n]? = some x) (hl : x.kids.length≤4096) (hk : KidsIn p x.kids) (iw : Int) (m l : Int→Int)
  (HMW : ∀ k ∈ x.kids,∀ W,MS p w W→Calls Tryz.prog 41 #[.pointer (some ⟨p.pm,0,none⟩),.int .i64 k] W (GPost (m k) p W))
  (HLW : ∀ k ∈ x.kids,∀ W,MS p w W→Calls Tryz.prog 40 #[.pointer (some ⟨p.pm,0,none⟩),.int .i64 k] W (GPost (l k) p W)) :
  Calls Tryz.prog 54 #[.pointer (some ⟨p.pm,0,none⟩),.pointer (some ⟨p.g,n * 34,none⟩),.int .i64 iw] w (OutM (sizesS (x.kids.map fun k=>alongJ (ndF p.ns k).wd (m k) (l k)) iw x.gap) p w):=by
 obtain ⟨L,hL⟩ : ∃ L,(x.kids.map fun k=>alongJ (ndF p.ns k).wd (m k) (l k)) = L:=⟨_,rfl⟩
 rw [hL]
 have hLl : L.length = x.kids.length:=by rw [← hL,List.length_map]
 have HLX : Hid (∀ (i : Nat) k,x.kids[i]? = some k→L[i]? = some (alongJ (ndF p.ns k).wd (m k) (l k))):=zH fun i k hi=>by rw [← hL,List.getElem?_map,hi];rfl
 obtain ⟨kv,cv,hnd,hkv,_⟩:=M.node hn
 have HGP : Hid (w.cell? ⟨p.g,n * 34 + 14,none⟩ = some (.int .i64 x.gap)):=zH hnd.gap
 have HKV : Hid (w.cell? ⟨p.g,n * 34 + 3,none⟩ = some kv):=zH hnd.kids
 obtain ⟨q,c,rfl,_,hx⟩:=hkv
 obtain ⟨gap,hgap⟩ : ∃ gap,x.gap = gap:=⟨_,rfl⟩
 rw [hgap] at HGP ⊢
 have HX:=zH hx
 have HK:=zH hk
 have HM:=zH HMW
 have HLL:=zH HLW
 obtain ⟨kn,hkn⟩ : ∃ kn,x.kids.length = kn:=⟨_,rfl⟩
 have HKN:=zH hkn
 rw [hkn] at hl HKV hLl
 have HLN:=zH hLl
 have lg:=M.lg hn
 have lp:=M.lp
 have hbm : w.heap.size ≠ p.bm:=Nat.ne_of_gt M.lm
 have HS0:=zH (MS.start M)
 have hmk:=mk_items kn hl
 have HA0:=zH (ArrT.made w kn)
 have k0:=HKV.out
 clear hnd hx hk HMW HLW M hn hkn hLl hL hgap
 go_enter Tryz.func54,Tryz.ntmps54
 go_wp2
 clear k0
 go_loopw [22] (fun i wr=>∃ a : Nat,i = .int .i64 a∧a≤kn∧AlI w p w.heap.size (partZ itm0 L a) wr) (fun i _=>kn - (intOf i).toNat)
 case atStart=>exact ⟨0,rfl,by omega,⟨HS0.out.below (by (repeat (first | exact Below.refl _ _ | assumption | refine below_drewN ?_ _ | refine Below.drew ?_ | (refine Below.alloc ?_ ?bs _;(case bs=>first | omega | (simp;done) | (simp;omega))) | (refine Below.setCell ?_ ?bs _;(case bs=>first | omega | (simp;done) | (simp;omega)))))),by rw [partZ_zero,HLN.out];exact HA0.out⟩⟩
 case round=>
  obtain ⟨a,rfl,ha,hA⟩:=hrel
  have HA:=zH hA
  have lw:=hA.ar.lt
  have lgr : p.g < wr.heap.size:=Nat.lt_of_lt_of_le lg hA.ms.size
  have lpr : p.pm < wr.heap.size:=Nat.lt_of_lt_of_le lp hA.ms.size
  clear hA hmk HA0
  by_cases hlt : a < kn
  ·have hltI : (a : Int) < (kn : Int):=by omega
   obtain ⟨k,hka⟩ : ∃ k,x.kids[a]? = some k:=⟨_,List.getElem?_eq_getElem (by rw [HKN.out];exact hlt)⟩
   have hkm:=List.mem_of_getElem? hka
   obtain ⟨j,y,rfl,hy,hok,_⟩:=HK.out k hkm
   obtain ⟨g,o,rfl,hg,hck⟩:=HX.out a _ hka
   have hLa:=HLX.out a _ hka
   rw [ndF_eq hy] at hLa
   have HLA:=zH hLa
   have HMC:=zH (HM.out _ hkm)
   have HLC:=zH (HLL.out _ hkm)
   have c1:=HA.out.ms.cell hck
   have c2:=HA.out.ms.cell HKV.out
   have c3:=HA.out.ms.mg.c0
   obtain ⟨kv2,cv2,hnd,_,_⟩:=HA.out.ms.mg.node hy
   have y0:=hnd.w0
   have y1:=hnd.w1
   have y2:=hnd.w2
   have y3:=hnd.w3
   have y4:=hnd.w4
   have hjl : j < p.ns.length:=(List.getElem?_eq_some_iff.1 hy).1
   have lgk : g < wr.heap.size:=Nat.lt_of_lt_of_le hg HA.out.ms.size
   obtain ⟨it,hit⟩ : ∃ it,y.wd = it:=⟨_,rfl⟩
   rw [hit] at y0 y1 y2 y3 y4 HLA
   have hpl : a < (partZ itm0 L a).length:=by rw [partZ_len (by rw [HLN.out];omega),HLN.out];exact hlt
   have HPL:=zH hpl
   obtain ⟨z0,z1,z2,z3,z4⟩:=HA.out.ar.at (partZ_get (z:=itm0) (l:=L) (by rw [HLN.out];exact hlt))
   have f0:=HA.out.ar.froz (a * 5)
   have f1:=HA.out.ar.froz (a * 5 + 1)
   have f2:=HA.out.ar.froz (a * 5 + 2)
   have f3:=HA.out.ar.froz (a * 5 + 3)
   have f4:=HA.out.ar.froz (a * 5 + 4)
   have HB:=zH (HA.out.put (Nat.le_refl _) hpl it)
   clear hka hkm hck hLa hnd hy hok hit hpl
   obtain ⟨mj,hmj⟩ : ∃ mj,m (j : Int) = mj:=⟨_,rfl⟩
   obtain ⟨lj,hlj⟩ : ∃ lj,l (j : Int) = lj:=⟨_,rfl⟩
   rw [hmj] at HMC HLA
   rw [hlj] at HLC HLA
   clear hmj hlj
   by_cases h0 : it.k = 0
   ·have h0b : (it.k == 0) = true:=by rw [beq_iff_eq];exact h0
    have HM1:=zH (HMC.out _ HB.out.ms)
    have HE : Hid ((partZ itm0 L a).set a (⟨1,mj,0,min lj mj,it.mx⟩ : Itm) = partZ itm0 L (a + 1)):=zH (partZ_set (by rw [HLA.out];unfold alongJ;rw [if_pos h0]))
    have HSG : Hid (((partZ itm0 L a).set a it)[a]? = some it):=zH (List.getElem?_set_self HPL.out)
    have HP2 : Hid (a < ((partZ itm0 L a).set a it).length):=zH (by rw [List.length_set];exact HPL.out)
    clear h0
    go_upto_region 8 with (go_at_call 41;((with_reducible refine HM1.out.mono ?_);rintro e1' w2 ⟨rfl,hg2,hM2⟩))
    have HC2:=zH (HB.out.calls hbm hg2 hM2)
    have HCD:=zH HC2.out.drew
    have HL1:=zH (HLC.out w2.drew HCD.out.ms)
    have l2:=HC2.out.ar.lt
    obtain ⟨s0,s1,s2,s3,s4⟩:=HC2.out.ar.at HSG.out
    clear c1 c2 c3 y0 y1 y2 y3 y4 z0 z1 z2 z3 z4 f0 f1 f2 f3 f4 hg2 hM2 HM1 HB HA s0 s1 s2 s3 HLC HMC
    go_region_with (go_at_call 40;((with_reducible refine HL1.out.mono ?_);rintro e1' w3 ⟨rfl,hg3,hM3⟩;have HC3:=zH (HCD.out.calls hbm hg3 hM3);obtain ⟨t0,t1,t2,t3,t4⟩:=HC3.out.ar.at HSG.out;have f0:=HC3.out.ar.froz (a * 5);have f1:=HC3.out.ar.froz (a * 5 + 1);have f2:=HC3.out.ar.froz (a * 5 + 2);have f3:=HC3.out.ar.froz (a * 5 + 3);have f4:=HC3.out.ar.froz (a * 5 + 4);have l3:=HC3.out.ar.lt))
    all_goals
     have hX:=HC3.out.put (Nat.le_refl _) HP2.out ⟨1,mj,0,min lj mj,it.mx⟩
     rw [set_setL,HE.out] at hX
     have HX2:=zH hX
     clear hX t0 t1 t2 t3 t4 f0 f1 f2 f3 f4 HC3
     go_wp2
     go_roundw
     case rel=>exact ⟨a + 1,by first | rfl | go_num,by omega,by first | exact HX2.out | exact HX2.out.drew⟩
     case measure=>simp [intOf] <;> omega
   ·as_aux_lemma=>
    have h0b : (it.k == 0) = false:=by rw [beq_eq_false_iff_ne];exact h0
    have HE : Hid ((partZ itm0 L a).set a it = partZ itm0 L (a + 1)):=zH (partZ_set (by rw [HLA.out];unfold alongJ;rw [if_neg h0]))
    clear h0
    go_wp2
    go_roundw
    case rel=>exact ⟨a + 1,by first | rfl | go_num,by omega,by rw [← HE.out];exact HB.out⟩
    case measure=>simp [intOf] <;> omega
  ·as_aux_lemma=>
   have hltI : decide ((a : Int) < (kn : Int)) = false:=decide_eq_false (by omega)
   obtain rfl : a = kn:=by omega
   have c4:=HA.out.ms.cell HGP.out
   have hfull : partZ itm0 L a = L:=partZ_full HLN.out.symm
   have hAA:=HA.out
   rw [hfull] at hAA
   have HAA:=zH hAA
   have HSZ:=zH (fun ext=>sizes_all (p:=some ⟨w.heap.size,0,none⟩) (n:=a) (c:=a) (its:=L) (W:=wr) (.inr ⟨_,rfl,hAA.ar.lt,fun i x hx=>hAA.ar.at hx⟩) HLN.out hl ext gap)
   clear hfull hAA
   go_wp2_with (go_at_call 96;((with_reducible refine (HSZ.out _).mono ?_);rintro e1' w2 ⟨v,rfl,hb2,hs2⟩))
   go_ret
   exact ⟨v,rfl,grownBy_then HAA.out.ms.gr hb2,HAA.out.ms.mg.below hb2,hs2⟩
end Go.Proofs.YthhomflonpjbmaaGreatDoor
/-
 The walk of measure.auto.
-/
namespace Go.Proofs.YthhomflonpjbmaaGreatDoor
open Go.RowKit Go.Maps
def mixM (f : Itm→Itm) (l : List Itm) (a : Nat) : List Itm:=(l.take a).map f ++ l.drop a
theorem mixM_len {f : Itm→Itm} {l : List Itm} {a : Nat} : (mixM f l a).length = l.length:=by unfold mixM;rw [List.length_append,List.length_map,List.length_take,List.length_drop];omega
theorem mixM_get {f : Itm→Itm} {l : List Itm} {a : Nat} {x : Itm} (h : l[a]? = some x) : (mixM f l a)[a]? = some x:=by
 have h1:=(List.getElem?_eq_some_iff.1 h).1
 unfold mixM
 rw [List.getElem?_append_right (by rw [List.length_map,List.length_take];omega),List.length_map,List.length_take,Nat.min_eq_left (by omega),Nat.sub_self,List.getElem?_drop,Nat.add_zero]
 exact h
theorem mixM_set {f : Itm→Itm} {l : List Itm} {a : Nat} {x : Itm} (h : l[a]? = some x) : (mixM f l a).set a (f x) = mixM f l (a + 1):=by
 obtain ⟨h1,rfl⟩:=List.getElem?_eq_some_iff.1 h
 unfold mixM
 have hk : ((l.take a).map f).length = a:=by rw [List.length_map,List.length_take];omega
 rw [List.set_append_right _ _ (by omega),hk,Nat.sub_self,List.drop_eq_getElem_cons h1,List.set_cons_zero,List.take_succ_eq_append_getElem h1,List.map_append,List.append_assoc]
 rfl
theorem mixM_full {f : Itm→Itm} {l : List Itm} {a : Nat} (h : a = l.length) : mixM f l a = l.map f:=by
 subst h;unfold mixM;rw [List.take_length,List.drop_length,List.append_nil]
theorem mixM_zero (f : Itm→Itm) (l : List Itm) : mixM f l 0 = l:=by simp [mixM]
theorem set_sameA {α : Type} {l : List α} {a : Nat} {x : α} (h : l[a]? = some x) : l.set a x = l:=by
 apply List.ext_getElem?
 intro j
 by_cases e : a = j
 ·subst e
  rw [List.getElem?_set_self (List.getElem?_eq_some_iff.1 h).1,h]
 ·rw [List.getElem?_set_ne e]
def OutT (l : List Itm) (w : World) (e : Ending) (w' : World) : Prop:=∃ v,e = .returned v∧Below w.heap.size w w'∧SlT w' v l
set_option maxRecDepth 100000 in
set_option maxHeartbeats 8000000 in
theorem auto_any {w : World} {vi : Value} {items : List Itm} (hi : SlT w vi items) (h4 : items.length≤4096) :
  Calls Tryz.prog 57 #[vi] w (OutT (items.map autoI) w):=by
 obtain ⟨N,hN⟩ : ∃ N,items.length = N:=⟨_,rfl⟩
 obtain ⟨p,c,rfl,_,hnw⟩:=slt_news hi
 have HNL:=zH hN
 have HNF : Hid ((flatC Itm.cells items).length = N * 5):=zH (by rw [flatC_len Itm.cells_len,hN])
 rw [hN] at hnw h4 ⊢
 have HNW : Hid (0 < N→∃ gx ox,p = some ⟨gx,ox,none⟩∧∀ j u,(flatC Itm.cells items)[j]? = some u→(w.alloc (.cells #[] 40)).cell? ⟨gx,ox + j,none⟩ = some u):=zH fun h0=>by
  obtain ⟨gx,ox,e,hg,hc⟩:=hnw h0
  exact ⟨gx,ox,e,fun j u hj=>by rw [World.cell?_alloc_lt _ _ ⟨gx,ox + j,none⟩ hg];exact hc j u hj⟩
 clear hi hnw hN
 go_enter Tryz.func57,Tryz.ntmps57
 go_wp2_with ((with_reducible apply wpList_append_all elT (news:=flatC Itm.cells items));exact rfl;exact rfl;exact rfl;exact HNW.out;exact HNF.out;exact one_items _;omega;intro v9 w9 hrow9 hnn9 hb9 K9 hK9;obtain ⟨ib,cap,rfl,hcap9,hro9⟩:=RowT.of_owns hrow9 HNL.out hnn9;have HRO:=zH hro9;have HB9:=zH hb9;clear hrow9 hnn9 hb9 hro9)
 clear HNW HNF
 go_loopw [11] (fun i wr=>∃ a : Nat,i = .int .i64 a∧a≤N∧Below w.heap.size w wr∧RowT wr w.heap.size ib cap (mixM autoI items a)) (fun i _=>N - (intOf i).toNat)
 case atStart=>exact ⟨0,rfl,by omega,HB9.out,by rw [mixM_zero];exact HRO.out⟩
 case round=>
  obtain ⟨a,rfl,ha,hG,hR⟩:=hrel
  have HGW:=zH hG
  have HRW:=zH hR
  have l1:=hR.lt
  clear hG hR HRO HB9
  by_cases hlt : a < N
  ·have hltI : (a : Int) < (N : Int):=by omega
   obtain ⟨x,hx⟩ : ∃ x,items[a]? = some x:=⟨_,List.getElem?_eq_getElem (by rw [HNL.out];exact hlt)⟩
   have hgt:=mixM_get (f:=autoI) hx
   have hst:=mixM_set (f:=autoI) hx
   obtain ⟨c0,c1,c2,c3,c4⟩:=HRW.out.at' a x hgt
   have f0:=HRW.out.froz (a * 5)
   have f1:=HRW.out.froz (a * 5 + 1)
   have f2:=HRW.out.froz (a * 5 + 2)
   have f3:=HRW.out.froz (a * 5 + 3)
   have f4:=HRW.out.froz (a * 5 + 4)
   have hlow:=HRW.out.low
   have hal : a < (mixM autoI items a).length:=by rw [mixM_len,HNL.out];exact hlt
   by_cases h2 : x.k = 2
   ·as_aux_lemma=>
    have h2b : (x.k == 2) = true:=by rw [beq_iff_eq];exact h2
    have hau : autoI x = ⟨0,0,0,x.mn,x.mx⟩:=by unfold autoI;rw [if_pos (.inl h2)]
    rw [hau] at hst
    have HST:=zH hst
    have HPB:=zH (show Below w.heap.size w _∧RowT _ w.heap.size ib cap _ from ⟨((((((HGW.out.setCell (p:=⟨ib,a * 5,none⟩) hlow (.int .i8 0)).setCell (p:=⟨ib,a * 5 + 1,none⟩) hlow (.int .i64 0)).setCell (p:=⟨ib,a * 5 + 2,none⟩) hlow (.int .i64 0)).setCell (p:=⟨ib,a * 5 + 3,none⟩) hlow (.int .i64 x.mn)).setCell (p:=⟨ib,a * 5 + 4,none⟩) hlow (.int .i64 x.mx)).alloc (by have:=HGW.out.size;simp [World.setCell];omega) (.cells #[.int .i8 x.k,.int .i64 x.n,.int .i64 x.d,.int .i64 x.mn,.int .i64 x.mx] 40)),(HRW.out.put hal ⟨0,0,0,x.mn,x.mx⟩).below (Below.alloc (Below.refl _ _) (Nat.le_refl _) (.cells #[.int .i8 x.k,.int .i64 x.n,.int .i64 x.d,.int .i64 x.mn,.int .i64 x.mx] 40))⟩)
    clear h2 hx hgt hst hau
    go_wp2
    go_roundw
    case rel=>exact ⟨a + 1,by first | rfl | go_num,by omega,HPB.out.1,HPB.out.2.to HST.out⟩
    case measure=>simp [intOf] <;> omega
   ·have h2b : (x.k == 2) = false:=by rw [beq_eq_false_iff_ne];exact h2
    by_cases h3 : x.k = 3
    ·as_aux_lemma=>
     have h3b : (x.k == 3) = true:=by rw [beq_iff_eq];exact h3
     have hau : autoI x = ⟨0,0,0,x.mn,x.mx⟩:=by unfold autoI;rw [if_pos (.inr h3)]
     rw [hau] at hst
     have HST:=zH hst
     have HPB:=zH (show Below w.heap.size w _∧RowT _ w.heap.size ib cap _ from ⟨((((((HGW.out.setCell (p:=⟨ib,a * 5,none⟩) hlow (.int .i8 0)).setCell (p:=⟨ib,a * 5 + 1,none⟩) hlow (.int .i64 0)).setCell (p:=⟨ib,a * 5 + 2,none⟩) hlow (.int .i64 0)).setCell (p:=⟨ib,a * 5 + 3,none⟩) hlow (.int .i64 x.mn)).setCell (p:=⟨ib,a * 5 + 4,none⟩) hlow (.int .i64 x.mx)).alloc (by have:=HGW.out.size;simp [World.setCell];omega) (.cells #[.int .i8 x.k,.int .i64 x.n,.int .i64 x.d,.int .i64 x.mn,.int .i64 x.mx] 40)),(HRW.out.put hal ⟨0,0,0,x.mn,x.mx⟩).below (Below.alloc (Below.refl _ _) (Nat.le_refl _) (.cells #[.int .i8 x.k,.int .i64 x.n,.int .i64 x.d,.int .i64 x.mn,.int .i64 x.mx] 40))⟩)
     clear h2 h3 hx hgt hst hau
     go_wp2
     go_roundw
     case rel=>exact ⟨a + 1,by first | rfl | go_num,by omega,HPB.out.1,HPB.out.2.to HST.out⟩
     case measure=>simp [intOf] <;> omega
    ·as_aux_lemma=>
     have h3b : (x.k == 3) = false:=by rw [beq_eq_false_iff_ne];exact h3
     have hau : autoI x = x:=by unfold autoI;rw [if_neg (by omega)]
     rw [hau,set_sameA hgt] at hst
     have HST:=zH hst
     clear h2 h3 hx hgt hst hau
     go_wp2
     go_roundw
     case rel=>exact ⟨a + 1,by first | rfl | go_num,by omega,HGW.out.trans (by (repeat (first | exact Below.refl _ _ | assumption | refine below_drewN ?_ _ | refine Below.drew ?_ | (refine Below.alloc ?_ ?bs _;(case bs=>first | omega | (simp;done) | (simp;omega))) | (refine Below.setCell ?_ ?bs _;(case bs=>first | omega | (simp;done) | (simp;omega)))))),(HRW.out.below (Below.alloc (Below.refl _ _) (Nat.le_refl _) _)).to HST.out⟩
     case measure=>simp [intOf] <;> omega
  ·as_aux_lemma=>
   have hltI : decide ((a : Int) < (N : Int)) = false:=decide_eq_false (by omega)
   obtain rfl : a = N:=by omega
   have HSL:=zH (HRW.out.to (mixM_full HNL.out.symm))
   go_wp2
   go_ret
   refine ⟨_,rfl,HGW.out,?_⟩
   have:=HSL.out.sl (by rw [List.length_map,HNL.out];omega) cap
   rw [List.length_map,HNL.out] at this
   exact this
end Go.Proofs.YthhomflonpjbmaaGreatDoor
/-
 What grid's Tracks holds in memory; the stable sort at no needs.
-/
namespace Go.Proofs.YthhomflonpjbmaaGreatDoor
open Go.RowKit
set_option maxRecDepth 100000 in
theorem insN_nil (v : Option Addr) (c : Nat) (W : World) : Calls Tryz.prog 178 #[.slice v 0 c,.int .i64 0,.int .i64 0,cmpN] W (fun e W'=>e = .returned (.tuple #[])∧W' = W):=by
 go_enter Tryz.func178,Tryz.ntmps178
 go_wp2
 refine wp_loop_rounds 1 ?_
 rw [rounds_succ]
 go_wp2
 go_end0
 exact ⟨rfl,rfl⟩
set_option maxRecDepth 100000 in
theorem stableN_nil (v : Option Addr) (c : Nat) (W : World) : Calls Tryz.prog 162 #[.slice v 0 c,.int .i64 0,cmpN] W (fun e W'=>e = .returned (.tuple #[])∧W' = W):=by
 go_enter Tryz.func162,Tryz.ntmps162
 go_wp2
 refine wp_loop_rounds 1 ?_
 rw [rounds_succ]
 go_wp2_with (go_at_call 178;(with_reducible refine (insN_nil v c _).mono ?_);rintro e1' w1 ⟨rfl,rfl⟩)
 refine wp_loop_rounds 1 ?_
 rw [rounds_succ]
 go_wp2
 go_end0
 exact ⟨rfl,rfl⟩
set_option maxRecDepth 100000 in
theorem sortN_nil (v : Option Addr) (c : Nat) (W : World) : Calls Tryz.prog 134 #[.slice v 0 c,cmpN] W (fun e W'=>e = .returned (.tuple #[])∧W' = W):=by
 go_enter Tryz.func134,Tryz.ntmps134
 go_wp2_with (go_at_call 162;(with_reducible refine (stableN_nil v c _).mono ?_);rintro e1' w1 ⟨rfl,rfl⟩)
 go_end0
 exact ⟨rfl,rfl⟩
theorem elN : ElOK 131 137 3 24 (.agg #[.int .i64 0,.int .i64 0,.int .i64 0]):=⟨Tryz.underlying131,by kernel_rfl,rfl,by decide,by decide⟩
def SlN (w : World) (v : Value) (l : List Ned) : Prop :=
 ∃ p c,v = .slice p l.length c∧l.length≤4398046511104∧∀ i x,l[i]? = some x→∃ g o,p = some ⟨g,o,none⟩∧g < w.heap.size∧NedAt w g (o + i * 3) x
theorem SlN.below {w w' : World} {v : Value} {l : List Ned} (h : SlN w v l) (hb : Below w.heap.size w w') : SlN w' v l:=by
 obtain ⟨p,c,rfl,hl,hx⟩:=h
 refine ⟨p,c,rfl,hl,fun i x hi=>?_⟩
 obtain ⟨g,o,e,hg,hc⟩:=hx i x hi
 exact ⟨g,o,e,Nat.lt_of_lt_of_le hg hb.size,hc.below hb hg⟩
theorem ItmAt.cells {w w' : World} {g o : Nat} {i : Itm} (h : ItmAt w g o i) (k : ∀ q,w'.cell? ⟨g,q,none⟩ = w.cell? ⟨g,q,none⟩) : ItmAt w' g o i:=h.of_eq k
theorem RowT.grown {W W' : World} {B b cap : Nat} {l : List Itm} {row : Option Nat} (h : RowT W B b cap l) (hg : W.grownBy W' row) (hne : some b ≠ row) : RowT W' B b cap l:=by
 have e:=hg.block b h.lt hne
 refine ⟨fun i x hx=>(h.at' i x hx).of_eq fun q=>World.cell?_of_block e,fun j=>(World.frozen?_of_block (a:=⟨b,j,none⟩) e).trans (h.froz j),Nat.lt_of_lt_of_le h.lt hg.size,h.low⟩
structure TrI (w : World) (ib cap hb : Nat) (its : List Itm) (h : List Int) (W : World) : Prop where
 g : Below w.heap.size w W
 it : RowT W w.heap.size ib cap its
 ha : ArrI W hb h
 nh : w.heap.size≤hb
 ne : ib ≠ hb
section
variable {w W W' : World} {ib cap hb : Nat} {its : List Itm} {h : List Int}
theorem TrI.below (t : TrI w ib cap hb its h W) (hB : Below W.heap.size W W') : TrI w ib cap hb its h W' :=
 ⟨Below.trans t.g (hB.mono t.g.size),t.it.below hB,t.ha.below hB,t.nh,t.ne⟩
theorem TrI.drew (t : TrI w ib cap hb its h W) : TrI w ib cap hb its h W.drew:=t.below (Below.drew (Below.refl _ _))
theorem TrI.drewN (t : TrI w ib cap hb its h W) (n : Nat) : TrI w ib cap hb its h (W.drewN n):=t.below (below_drewN (Below.refl _ _) n)
theorem TrI.alloc (t : TrI w ib cap hb its h W) (o : Obj) : TrI w ib cap hb its h (W.alloc o):=t.below (Below.alloc (Below.refl _ _) (Nat.le_refl _) o)
theorem TrI.put (t : TrI w ib cap hb its h W) (i : Nat) (x : Int) : TrI w ib cap hb its (h.set i x) (W.setCell ⟨hb,i,none⟩ (.int .i64 x)) :=
 ⟨t.g.setCell (p:=⟨hb,i,none⟩) t.nh _,t.it.grown (grown_set W hb i _) (by have:=t.ne;simpa using this),t.ha.put i x,t.nh,t.ne⟩
theorem TrI.item (t : TrI w ib cap hb its h W) {i : Nat} (hi : i < its.length) (y : Itm) :
  TrI w ib cap hb (its.set i y) h (((((W.setCell ⟨ib,i * 5,none⟩ (.int .i8 y.k)).setCell ⟨ib,i * 5 + 1,none⟩ (.int .i64 y.n)).setCell ⟨ib,i * 5 + 2,none⟩ (.int .i64 y.d)).setCell ⟨ib,i * 5 + 3,none⟩ (.int .i64 y.mn)).setCell ⟨ib,i * 5 + 4,none⟩ (.int .i64 y.mx)) :=
 ⟨((((t.g.setCell (p:=⟨ib,_,none⟩) t.it.low _).setCell (p:=⟨ib,_,none⟩) t.it.low _).setCell (p:=⟨ib,_,none⟩) t.it.low _).setCell (p:=⟨ib,_,none⟩) t.it.low _).setCell (p:=⟨ib,_,none⟩) t.it.low _,t.it.put hi y,
  ((((Arr.other t.ha (Ne.symm t.ne) _ _).other (Ne.symm t.ne) _ _).other (Ne.symm t.ne) _ _).other (Ne.symm t.ne) _ _).other (Ne.symm t.ne) _ _,t.nh,t.ne⟩
theorem TrI.grown {row : Option Nat} (t : TrI w ib cap hb its h W) (hg : W.grownBy W' row) (h1 : some ib ≠ row) (h2 : some hb ≠ row) (h3 : ∀ b,row = some b→w.heap.size≤b) : TrI w ib cap hb its h W' :=
 ⟨t.g.grown hg t.g.size (fun b e=>h3 b e),t.it.grown hg h1,t.ha.grown hg h2,t.nh,t.ne⟩
theorem TrI.toI (t : TrI w ib cap hb its h W) {l : List Itm} (e : its = l) : TrI w ib cap hb l h W:=e ▸ t
theorem TrI.toH (t : TrI w ib cap hb its h W) {l : List Int} (e : h = l) : TrI w ib cap hb its l W:=e ▸ t
end
end Go.Proofs.YthhomflonpjbmaaGreatDoor
