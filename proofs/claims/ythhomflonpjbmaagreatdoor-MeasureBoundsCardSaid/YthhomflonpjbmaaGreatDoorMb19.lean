/-
 The walk of a measure's of: what is known is told; what is not is worked out, and known.
-/
import Derived.Test.YthhomflonpjbmaaGreatDoorMb18
import Derived.Test.YthhomflonpjbmaaGreatDoorMb04
import Derived.Deep.DeepCutAuto
import Derived.Deep.RegionHeld3
import Derived.Deep.QuietTactic
import Derived.StillTailTactics
import Derived.WalkArith
import Derived.SizedLaws
import Derived.Deep.Slices
import Derived.ChangeArms
import Derived.Laws.IdiomArrays
import Derived.OpenShut
import Derived.Lib.SmallJoins
set_option linter.unusedVariables false
set_option linter.unusedSimpArgs false
namespace Go.Proofs.YthhomflonpjbmaaGreatDoor
open Go.RowKit Go.Maps
theorem zeroI (w : World) : (zeroValue 3).run Tryz.prog w = .ok (.int .i64 0) w:=by kernel_rfl
abbrev OSt (wA : World) (kb : Nat) (n y x : Int) (pm g bk bm nn cc K1 : Nat) (f : Int→Int→Int→Int) (W : World) : Prop :=
 W.cell? ⟨pm,0,none⟩ = some (.slice (some ⟨g,0,none⟩) nn cc)∧W.cell? ⟨kb,0,none⟩ = some (.int .i64 n)∧W.cell? ⟨kb,1,none⟩ = some (.int .i64 y)∧W.cell? ⟨kb,2,none⟩ = some (.int .i64 x)∧
  W.cell? ⟨pm,2,none⟩ = some (.map (some bm))∧wA.grownBy W (some bm)∧MInv W pm g bk bm nn cc K1 f
theorem OSt.start {wA : World} {kb : Nat} {n y x : Int} {pm g bk bm nn cc K K1 : Nat} {f : Int→Int→Int→Int} (M : MInv wA pm g bk bm nn cc K f) (hK : K≤K1) (b0 : wA.cell? ⟨kb,0,none⟩ = some (.int .i64 n)) (b1 : wA.cell? ⟨kb,1,none⟩ = some (.int .i64 y)) (b2 : wA.cell? ⟨kb,2,none⟩ = some (.int .i64 x)) : OSt wA kb n y x pm g bk bm nn cc K1 f wA :=
 ⟨M.c0,b0,b1,b2,M.c2,World.grownBy.refl _ _,M.mono hK⟩
theorem OSt.drew {wA : World} {kb : Nat} {n y x : Int} {pm g bk bm nn cc K1 : Nat} {f : Int→Int→Int→Int} {W : World} (h : OSt wA kb n y x pm g bk bm nn cc K1 f W) : OSt wA kb n y x pm g bk bm nn cc K1 f W.drew :=
 ⟨h.1,h.2.1,h.2.2.1,h.2.2.2.1,h.2.2.2.2.1,World.grownBy.trans h.2.2.2.2.2.1 (grownBy_drew _ _),h.2.2.2.2.2.2.kept (grownBy_drew _ none) (by simp) (by simp) (by simp)⟩
theorem OSt.call {wA : World} {kb : Nat} {n y x : Int} {pm g bk bm nn cc K1 : Nat} {f : Int→Int→Int→Int} {W W' : World} (h : OSt wA kb n y x pm g bk bm nn cc K1 f W) (hk : kb ≠ bm) (hg : W.grownBy W' (some bm)) (hM : MInv W' pm g bk bm nn cc K1 f) : OSt wA kb n y x pm g bk bm nn cc K1 f W' :=
 ⟨hM.c0,hg.cell h.2.1 (by simpa using hk),hg.cell h.2.2.1 (by simpa using hk),hg.cell h.2.2.2.1 (by simpa using hk),hM.c2,World.grownBy.trans h.2.2.2.2.2.1 hg,hM⟩
end Go.Proofs.YthhomflonpjbmaaGreatDoor
/-
 The walk of tree.Check at any tree.
-/
namespace Go.Proofs.YthhomflonpjbmaaGreatDoor
open Go.RowKit Go.Maps
def TreeAt (w : World) (p : Option Addr) (ns : List ND) : Prop :=
 ∀ (i : Nat) x,ns[i]? = some x→∃ g o,p = some ⟨g,o,none⟩∧g < w.heap.size∧∃ kv cv,NodeV w g (o + i * 34) x kv cv∧SlI w kv x.kids∧SlT w cv x.cols
theorem mk_bools (N : Nat) (hN : N≤4096) (w : World) : (Instr.makeSlice 81 (.int .i64 N) (.int .i64 N)).run Tryz.prog w = .ok (.slice (some ⟨w.heap.size,0,none⟩) N N) (w.alloc (.cells (madeCells #[.bool false] N) 4)):=by
 obtain ⟨i0,hi,hz0,hz1,hz2⟩:=info_parts (P:=Tryz.prog) (show (Tryz.prog.info? 4).map (fun i=>(i.zero,i.size,i.bytes)) = some (some (.bool false),1,1) by kernel_rfl)
 have:=run_makeSlice (P:=Tryz.prog) (w:=w) 81 4 i0 (.bool false) Tryz.underlying81 hi hz0 .i64 .i64 N N (by omega) (Int.le_refl _) (by rw [hz1];simp;omega) (by rw [hz2];omega) (by omega)
 rw [hz1] at this
 simpa [Value.cells] using this
theorem mk_ints6 (N : Nat) (hN : N≤4398046511104) (w : World) : (Instr.makeSlice 38 (.int .i64 N) (.int .i64 N)).run Tryz.prog w = .ok (.slice (some ⟨w.heap.size,0,none⟩) N N) (w.alloc (.cells (madeCells #[.int .i64 0] N) 3)):=by
 obtain ⟨i0,hi,hz0,hz1,hz2⟩:=info_parts (P:=Tryz.prog) (show (Tryz.prog.info? 3).map (fun i=>(i.zero,i.size,i.bytes)) = some (some (.int .i64 0),1,8) by kernel_rfl)
 have:=run_make (P:=Tryz.prog) w 38 3 i0 (.int .i64 0) Tryz.underlying38 hi hz0 .i64 .i64 N N (by omega) (Int.le_refl _) (by rw [hz2];omega) (by omega)
 rw [hz1] at this
 simpa [Value.cells] using this
theorem cs0_made (w : World) (N : Nat) (hN : N≤4096) (nv : Value) :
  CkM w N w.heap.size (w.heap.size + 1) (w.heap.size + 1 + 1) (w.heap.size + 1 + 1 + 1) nv 0 (cs0 N) ((((w.alloc (.cells #[nv] 24)).alloc (.cells (madeCells #[.bool false] N) 4)).alloc (.cells (madeCells #[.int .i64 0] N) 3)).alloc (.map #[] 0)):=by
 refine ⟨by go_simp,by omega,by omega,by omega,by omega,by omega,by omega,by omega,by omega,by omega,by omega,by simp [cs0],by simp [cs0],?_,?_,?_,⟨.map [],?_,seen_empty⟩,by (repeat (first | exact Below.refl _ _ | assumption | refine below_drewN ?_ _ | refine Below.drew ?_ | (refine Below.alloc ?_ ?bs _;(case bs=>first | omega | (simp;done) | (simp;omega))) | (refine Below.setCell ?_ ?bs _;(case bs=>first | omega | (simp;done) | (simp;omega)))))⟩
 ·intro i d hd
  simp [cs0,List.getElem?_replicate] at hd
  omega
 ·have:=World.ownsRow_lit (base:=w.heap.size) (e:=4) (size:=1) (w.alloc (.cells #[nv] 24)) (madeCells #[.bool false] N) N (by simp) (by unfold maxLen;omega) (by simp [size_madeCells])
  rw [toList_madeCells_one] at this
  simpa [bvs,cs0,List.map_replicate] using (this.alloc _).alloc _
 ·have:=World.ownsRow_lit (base:=w.heap.size) (e:=3) (size:=1) ((w.alloc (.cells #[nv] 24)).alloc (.cells (madeCells #[.bool false] N) 4)) (madeCells #[.int .i64 0] N) N (by simp;omega) (by unfold maxLen;omega) (by simp [size_madeCells])
  rw [toList_madeCells_one] at this
  simpa [ivs,cs0,List.map_replicate] using this.alloc _
 ·have:=World.ownsMap_made (H:=Unit) ((((w.alloc (.cells #[nv] 24)).alloc (.cells (madeCells #[.bool false] N) 4)).alloc (.cells (madeCells #[.int .i64 0] N) 3))) Tryz.prog 9 (plainElem Tryz.prog 3)
  simpa [Value.cells] using this
theorem lt_maxLen {n : Nat} (h : n≤4096) : n < maxLen:=Nat.lt_of_le_of_lt h (by decide)
def ChkC (w : World) (N : Nat) (nv : Value) (s1 s4 s5 s6 : Value) (W : World) : Prop :=
 ∃ b1 b4 b5 bm : Nat,s1 = .pointer (some ⟨b1,0,none⟩)∧s4 = .slice (some ⟨b4,0,none⟩) N N∧s5 = .slice (some ⟨b5,0,none⟩) N N∧s6 = .map (some bm)∧CkM w N b1 b4 b5 bm nv 0 (cs0 N) W
open Classical in
theorem nodeC_kids {N n : Nat} {x : ND} {s : CS} (h1 : ¬ (x.kd < 1∨11 < x.kd)) (h2 : ¬ IdBad x s.ids) (h3 : ¬ ClBad x) : nodeC N n x s = match kidsC N n x.kids s.tk s.dp with
  |none=>.error 102
  |some (tk,dp)=>
   if KBad x.kd x.kids.length then .error 102 else if ¬ ItemsP x then .error 104 else if ¬ FieldsP x then .error 106 else if 65536 < x.tx.size then .error 3
   else .ok ⟨tk,dp,if x.id.size = 0 then s.ids else x.id.data.toList :: s.ids⟩:=by
 unfold nodeC
 rw [if_neg h1,if_neg h2,if_neg h3]
 cases kidsC N n x.kids s.tk s.dp with
 |none=>rfl
 |some p=>by_cases a : KBad x.kd x.kids.length <;> by_cases b : ItemsP x <;> by_cases c : FieldsP x <;> by_cases d : 65536 < x.tx.size <;> simp [a,b,c,d]
theorem kidsC_drop {N n m : Nat} {l : List Int} {k : Int} {tk : List Bool} {dp : List Int} (h : l[m]? = some k) : kidsC N n (l.drop m) tk dp = if k≤(n : Int)∨(N : Int)≤k∨tk[k.toNat]? = some true then none else kidsC N n (l.drop (m + 1)) (tk.set k.toNat true) (dp.set k.toNat ((dp[n]?).getD 0 + 1)):=by
 obtain ⟨h1,rfl⟩:=List.getElem?_eq_some_iff.1 h
 rw [List.drop_eq_getElem_cons h1]
 rfl
set_option maxRecDepth 100000 in
set_option maxHeartbeats 4000000 in
theorem check_gen (w : World) (p : Option Addr) (c : Nat) (ns : List ND) (hT : TreeAt w p ns) (hl : ns.length≤4398046511104) (hid : ∀ x ∈ ns,x.id.size≤maxLen) (h8 : ∀ x ∈ ns,X8 x) :
  Calls Tryz.prog 19 #[.agg #[.slice p ns.length c]] w (VBel (.tuple #[.int .i64 (checkS ns).1,.int .i64 (checkS ns).2]) w):=by
 by_cases h0 : ns.length = 0
 ·have HR : Hid (checkS ns = (100,0)):=zH (by unfold checkS;rw [if_pos (.inl h0)])
  rw [h0]
  go_enter Tryz.func19,Tryz.ntmps19
  go_wp2
  go_ret2
  exact ⟨by rw [HR.out];rfl,by (repeat (first | exact Below.refl _ _ | assumption | refine below_drewN ?_ _ | refine Below.drew ?_ | (refine Below.alloc ?_ ?bs _;(case bs=>first | omega | (simp;done) | (simp;omega))) | (refine Below.setCell ?_ ?bs _;(case bs=>first | omega | (simp;done) | (simp;omega)))))⟩
 by_cases h1 : 4096 < ns.length
 ·have HR : Hid (checkS ns = (100,0)):=zH (by unfold checkS;rw [if_pos (.inr h1)])
  have e0 : ((ns.length : Int) == 0) = false:=by rw [beq_eq_false_iff_ne];omega
  have e1 : (4096 : Int) < (ns.length : Int):=by omega
  clear h0 h1 hT h8
  go_enter Tryz.func19,Tryz.ntmps19
  go_wp2
  go_ret2
  exact ⟨by rw [HR.out];rfl,by (repeat (first | exact Below.refl _ _ | assumption | refine below_drewN ?_ _ | refine Below.drew ?_ | (refine Below.alloc ?_ ?bs _;(case bs=>first | omega | (simp;done) | (simp;omega))) | (refine Below.setCell ?_ ?bs _;(case bs=>first | omega | (simp;done) | (simp;omega)))))⟩
 have HB : Hid (¬ (ns.length = 0∨4096 < ns.length)):=zH (by omega)
 have HT:=zH hT
 have HI:=zH hid
 have HX8:=zH h8
 obtain ⟨N,hN⟩ : ∃ N,ns.length = N:=⟨_,rfl⟩
 have HN:=zH hN
 rw [hN] at h0 h1 ⊢
 clear hT hid hN hl h8
 have e0 : ((N : Int) == 0) = false:=by simp;omega
 have e1 : ¬ (4096 : Int) < (N : Int):=by omega
 have hmk:=mk_bools N (by omega)
 have hmk2:=mk_ints6 N (by omega)
 have hmm:=@run_makeMap Tryz.prog
 go_enter Tryz.func19,Tryz.ntmps19
 go_upto_region 5 with (fail)
 go_cut [1,4,5,6] (ChkC w N (.slice p N c))
 case first=>
  go_wp2_with fail
  go_meet
  refine ⟨_,_,_,_,rfl,rfl,rfl,rfl,?_⟩
  exact cs0_made w N (by omega) _
 case rest=>
 obtain ⟨b1,b4,b5,bm,rfl,rfl,rfl,rfl,hM⟩:=hcut
 have HM0:=zH hM
 have c1:=hM.c1
 clear hM hmk hmk2 hmm
 go_wp2
 go_loopw [35] (fun i wr=>∃ (n : Nat) (s : CS),i = .int .i64 n∧n≤N∧CkM w N b1 b4 b5 bm (.slice p N c) n s wr∧nodesC N 0 ns (cs0 N) = nodesC N n (ns.drop n) s) (fun i _=>N - (intOf i).toNat)
 case atStart=>exact ⟨0,cs0 N,rfl,by omega,HM0.out,rfl⟩
 case round=>
  obtain ⟨n,s,rfl,hn,hM,hS⟩:=hrel
  have HM:=zH hM
  have HS:=zH hS
  clear hM hS c1
  have c1:=HM.out.c1
  by_cases hlt : n < N
  ·have hltI : (n : Int) < (N : Int):=by omega
   obtain ⟨x,hx⟩ : ∃ x,ns[n]? = some x:=⟨_,List.getElem?_eq_getElem (by have:=HN.out;omega)⟩
   have HX:=zH hx
   obtain ⟨g,o,rfl,hg,kv,cv,hV,hK,hC⟩:=HT.out n x hx
   have HE : Hid (∀ e,nodeC N n x s = .error e→checkS ns = (e,n)):=zH fun e he=>checkS_err HB.out (by rw [HN.out];exact HS.out) HX.out (by rw [HN.out];exact he)
   have HV:=zH (hV.below HM.out.bel hg)
   have HV0:=zH hV
   have hgr0:=zH hg
   have HK0:=zH hK
   have HC0:=zH hC
   have hgr : g < wr.heap.size:=Nat.lt_of_lt_of_le hg HM.out.bel.size
   have HK:=zH (hK.below HM.out.bel)
   have HC:=zH (hC.below HM.out.bel)
   have HID:=zH (HI.out x (List.mem_of_getElem? hx))
   have H8:=zH (HX8.out x (List.mem_of_getElem? hx))
   have HST:=zH fun s' (h : nodeC N n x s = .ok s')=>HS.out.trans (nodesC_step HX.out h)
   clear hx hV hK hC hg
   have a1:=HV.out.kd
   by_cases hk1 : x.kd < 1
   ·have hr:=HE.out 101 (by unfold nodeC;rw [if_pos (.inl hk1)])
    have HR:=zH hr
    clear hr
    go_wp2
    go_ret2
    exact ⟨by rw [HR.out];rfl,HM.out.bel⟩
   by_cases hk2 : 11 < x.kd
   ·have hr:=HE.out 101 (by unfold nodeC;rw [if_pos (.inr hk2)])
    have HR:=zH hr
    clear hr
    go_wp2
    go_ret2
    exact ⟨by rw [HR.out];rfl,HM.out.bel⟩
   have HKD : Hid (¬ (x.kd < 1∨11 < x.kd)):=zH (by omega)
   have a2:=HV.out.id
   go_upto_if 59 with (fail)
   go_cut [] (fun W=>¬ IdBad x s.ids∧CkM w N b1 b4 b5 bm (.slice (some ⟨g,o,none⟩) N c) (n + 1) ⟨s.tk,s.dp,if x.id.size = 0 then s.ids else x.id.data.toList :: s.ids⟩ W)
   case first=>
    by_cases hz : x.id.size = 0
    ·have e2 : x.id.toList.isEmpty = true:=by rw [empty_of_size hz,ByteArray.toList_eq];rfl
     simp only [e2,Bool.not_true]
     go_wp2_with fail
     go_meet
     exact ⟨fun h=>h.1 hz,by rw [if_pos hz];exact HM.out.mono (by omega)⟩
    ·have e2 : x.id.toList.isEmpty = false:=by
      rw [List.isEmpty_eq_false_iff]
      intro h
      exact hz (by rw [ba_toList h];rfl)
     simp only [e2,Bool.not_false]
     obtain ⟨D,hown,hseen⟩:=HM.out.mp
     have hkl : keyOf Tryz.prog 9 (.string x.id) = some (.string x.id.data.toList):=WideMaps.keyOf_string_mk Tryz.underlying9 HID.out
     obtain ⟨k,hrun,hat,hwk⟩:=hown.lookup_int (t:=82) str_keyed Tryz.underlying82 Tryz.underlying3 (zeroI wr) hkl
     have HS1:=zH hseen
     have HO:=zH hown
     have HKL:=zH hkl
     have hks : 0 < k↔x.id.data.toList ∈ s.ids:=by
      obtain ⟨k',h1',h2'⟩:=hseen x.id.data.toList (by rw [blen];exact HID.out)
      rw [hat] at h1'
      obtain rfl : k = k':=by simpa using h1'
      exact h2'
     clear hseen hown hkl hat hwk
     by_cases hsn : 0 < k
     ·have hr:=HE.out 105 (by unfold nodeC;rw [if_neg HKD.out,if_pos (show IdBad x s.ids from ⟨hz,.inl (hks.1 hsn)⟩)])
      have HR:=zH hr
      clear hr hks
      go_wp2_with fail
      go_ret2
      exact ⟨by rw [HR.out];rfl,HM.out.bel⟩
     ·have hni : x.id.data.toList ∉ s.ids:=fun h=>hsn (hks.2 h)
      have HNI:=zH hni
      clear hks hni
      by_cases hnm : NameP x.id
      ·have hNM : ∀ W,Calls Tryz.prog 31 #[.string x.id] W (VRet (.bool true) W):=fun W=>by have:=name_any x.id W;rwa [show decide (NameP x.id) = true from decide_eq_true hnm] at this
       have HNM:=zH hNM
       have HNP:=zH hnm
       have HNL:=zH (lt_maxLen (n:=n) (by omega))
       clear hNM hnm
       have hwf : (Lit.int .i64 ((n : Int) + 1)).wf = true:=WalkArith.wf_i64 (by omega)
       go_wp2_with (first | (go_at_call 31;((with_reducible refine (HNM.out _).mono ?_);rintro e1' w1 ⟨rfl,rfl⟩)) | (at_mapUpdate;refine wpList_mapUpdate_own _ rfl _ _ _ 82 rfl 9 3 str_keyed Tryz.underlying82 _ bm n D rfl HO.out HNL.out (.string x.id) _ _ rfl rfl HKL.out _ [] (plainElem_int Tryz.underlying3 hwf) ?_;intro w5 hown5 hgr5))
       go_meet
       refine ⟨fun h=>h.2.elim (fun h=>HNI.out h) (fun h=>h HNP.out),?_⟩
       rw [if_neg hz]
       exact HM.out.seen hgr5 hown5 (seen_put HS1.out HO.out.isMap _ _ (by omega) (by rw [blen];exact HID.out) ⟨_,HKL.out⟩)
      ·have hNM : ∀ W,Calls Tryz.prog 31 #[.string x.id] W (VRet (.bool false) W):=fun W=>by have:=name_any x.id W;rwa [show decide (NameP x.id) = false from decide_eq_false hnm] at this
       have hr:=HE.out 105 (by unfold nodeC;rw [if_neg HKD.out,if_pos (show IdBad x s.ids from ⟨hz,.inr hnm⟩)])
       have HNM:=zH hNM
       have HR:=zH hr
       clear hNM hnm hr
       go_wp2_with (go_at_call 31;((with_reducible refine (HNM.out _).mono ?_);rintro e1' w1 ⟨rfl,rfl⟩))
       go_ret2
       exact ⟨by rw [HR.out];rfl,HM.out.bel⟩
   case rest=>
   obtain ⟨hib,hM2⟩:=hcut
   have HIB:=zH hib
   have HM2:=zH hM2
   clear hib hM2 a1 a2 c1
   generalize hids : (if x.id.size = 0 then s.ids else x.id.data.toList :: s.ids) = ids2 at *
   have HIDS:=zH hids
   clear hids
   have hgr : g < wc.heap.size:=Nat.lt_of_lt_of_le hgr0.out HM2.out.bel.size
   have HVc:=zH (HV0.out.below HM2.out.bel hgr0.out)
   have a3:=HVc.out.cl
   go_upto_region 16 with (fail)
   go_cut [95] (fun v W=>∃ t : Bool,v = .bool t∧(t = true↔ClBad x)∧W = wc)
   case first=>as_aux_lemma=>
    by_cases hz : x.cl.size = 0
    ·have e2 : x.cl.toList.isEmpty = true:=by rw [empty_of_size hz,ByteArray.toList_eq];rfl
     have e3 : (x.cl.toList == []) = true:=by rw [empty_of_size hz,ByteArray.toList_eq];rfl
     go_wp2_with fail
     go_meet
     exact ⟨false,rfl,by simp [ClBad,hz],rfl⟩
    ·have e2 : x.cl.toList.isEmpty = false:=by
      rw [List.isEmpty_eq_false_iff]
      intro h
      exact hz (by rw [ba_toList h];rfl)
     have e3 : (x.cl.toList == []) = false:=by
      rw [beq_eq_false_iff_ne]
      intro h
      exact hz (by rw [ba_toList h];rfl)
     by_cases hnm : NameP x.cl
     ·have hNM : ∀ W,Calls Tryz.prog 31 #[.string x.cl] W (VRet (.bool true) W):=fun W=>by have:=name_any x.cl W;rwa [show decide (NameP x.cl) = true from decide_eq_true hnm] at this
      have HNM:=zH hNM
      have HNP : Hid (¬ ClBad x):=zH fun h=>h.2 hnm
      clear hNM hnm
      go_wp2_with (go_at_call 31;((with_reducible refine (HNM.out _).mono ?_);rintro e1' w1 ⟨rfl,rfl⟩))
      go_meet
      exact ⟨false,rfl,by simp [HNP.out],rfl⟩
     ·have hNM : ∀ W,Calls Tryz.prog 31 #[.string x.cl] W (VRet (.bool false) W):=fun W=>by have:=name_any x.cl W;rwa [show decide (NameP x.cl) = false from decide_eq_false hnm] at this
      have HNM:=zH hNM
      have HNP : Hid (ClBad x):=zH ⟨hz,hnm⟩
      clear hNM hnm
      go_wp2_with (go_at_call 31;((with_reducible refine (HNM.out _).mono ?_);rintro e1' w1 ⟨rfl,rfl⟩))
      go_meet
      exact ⟨true,rfl,by simp [HNP.out],rfl⟩
   case rest=>
   obtain ⟨t,rfl,ht,hwc⟩:=hcut
   obtain rfl:=hwc.symm
   cases t with
   |true=>as_aux_lemma=>
     have hr:=HE.out 105 (by unfold nodeC;rw [if_neg HKD.out,if_neg HIB.out,if_pos (ht.1 rfl)])
     have HR:=zH hr
     clear hr ht
     go_wp2
     go_ret2
     exact ⟨by rw [HR.out];rfl,HM2.out.bel⟩
   |false=>
   have HCB : Hid (¬ ClBad x):=zH fun h=>absurd (ht.2 h) (by simp)
   clear ht
   have HNC:=zH (nodeC_kids (N:=N) (n:=n) HKD.out HIB.out HCB.out)
   obtain ⟨pk,ck,rfl,hkl,-⟩:=HK0.out
   have a4:=HVc.out.kids
   have c1:=HM2.out.c1
   go_wp2
   go_loopw [102] (fun i w2=>∃ (m : Nat) (tk : List Bool) (dp : List Int),i = .int .i64 m∧m≤x.kids.length∧CkM w N b1 b4 b5 bm (.slice (some ⟨g,o,none⟩) N c) (n + 1) ⟨tk,dp,ids2⟩ w2∧kidsC N n (x.kids.drop m) tk dp = kidsC N n x.kids s.tk s.dp) (fun i _=>x.kids.length - (intOf i).toNat)
   case atStart=>exact ⟨0,s.tk,s.dp,rfl,by omega,HM2.out,rfl⟩
   case round=>
    obtain ⟨m,tk,dp,rfl,hm,hM3,hKD⟩:=hrel
    have HM3:=zH hM3
    have HKD3:=zH hKD
    clear hM3 hKD c1 a3 a4 hgr
    have c1:=HM3.out.c1
    by_cases hml : m < x.kids.length
    ·as_aux_lemma=>
      have hmlI : (m : Int) < (x.kids.length : Int):=by omega
      obtain ⟨k,hk⟩ : ∃ k,x.kids[m]? = some k:=⟨_,List.getElem?_eq_getElem hml⟩
      obtain ⟨p2,c2,e2,-,hel⟩:=(HK0.out.below HM3.out.bel)
      obtain ⟨rfl,-,rfl⟩ : pk = p2∧True∧ck = c2:=by simpa using e2
      obtain ⟨gk,ok,rfl,hgk,hck⟩:=hel m k hk
      have hdr:=kidsC_drop (N:=N) (n:=n) (tk:=tk) (dp:=dp) hk
      rw [HKD3.out] at hdr
      have HN0 : Hid ((k≤(n : Int)∨(N : Int)≤k∨tk[k.toNat]? = some true)→checkS ns = (102,n)):=zH fun h=>HE.out 102 (by rw [HNC.out,hdr,if_pos h])
      have HN1 : Hid (¬ (k≤(n : Int)∨(N : Int)≤k∨tk[k.toNat]? = some true)→kidsC N n (x.kids.drop (m + 1)) (tk.set k.toNat true) (dp.set k.toNat ((dp[n]?).getD 0 + 1)) = kidsC N n x.kids s.tk s.dp):=zH fun h=>by rw [hdr,if_neg h]
      have htl:=HM3.out.tl
      have hdl:=HM3.out.dl
      dsimp only at htl hdl
      clear hk hdr e2 hel
      by_cases hk1 : k≤(n : Int)
      ·have HR:=zH (HN0.out (.inl hk1))
       go_wp2
       go_ret2
       exact ⟨by rw [HR.out];rfl,HM3.out.bel⟩
      have hk1d : decide (k≤(n : Int)) = false:=decide_eq_false hk1
      by_cases hk2 : (N : Int)≤k
      ·have HR:=zH (HN0.out (.inr (.inl hk2)))
       go_wp2
       go_ret2
       exact ⟨by rw [HR.out];rfl,HM3.out.bel⟩
      have hk2d : decide ((N : Int)≤k) = false:=decide_eq_false hk2
      obtain ⟨q,rfl⟩ : ∃ q : Nat,k = q:=⟨k.toNat,by omega⟩
      have hqN : (q : Int) < (N : Int):=by omega
      obtain ⟨t,ht⟩ : ∃ t,tk[q]? = some t:=⟨_,List.getElem?_eq_getElem (by omega)⟩
      have ct : wr.cell? ⟨b4,q,none⟩ = some (.bool t):=by rw [World.ownsRow.cellAt HM3.out.tk q (by omega)];simp [bvs,ht]
      cases t with
      |true=>
       have HR:=zH (HN0.out (.inr (.inr (by simpa using ht))))
       clear ht
       go_wp2
       go_ret2
       exact ⟨by rw [HR.out];rfl,HM3.out.bel⟩
      |false=>
       have HKK:=zH (HN1.out (by rintro (h | h | h);(exact hk1 h);(exact hk2 h);(simp [ht] at h)))
       simp only [Int.toNat_natCast] at HKK
       obtain ⟨dn,hdn⟩ : ∃ dn,dp[n]? = some dn:=⟨_,List.getElem?_eq_getElem (by omega)⟩
       obtain ⟨dq,hdq⟩ : ∃ dq,dp[q]? = some dq:=⟨_,List.getElem?_eq_getElem (by omega)⟩
       have hdnr:=HM3.out.dk n dn hdn
       have cn : wr.cell? ⟨b5,n,none⟩ = some (.int .i64 dn):=by rw [World.ownsRow.cellAt HM3.out.dp n (by omega)];simp [ivs,hdn]
       have cq : wr.cell? ⟨b5,q,none⟩ = some (.int .i64 dq):=by rw [World.ownsRow.cellAt HM3.out.dp q (by omega)];simp [ivs,hdq]
       have f4:=World.ownsRow.frozenAt HM3.out.tk q
       have f5:=World.ownsRow.frozenAt HM3.out.dp q
       have n45:=HM3.out.n45
       have n54:=HM3.out.n45.symm
       have hnN : (n : Int) < (N : Int):=by omega
       have HTK:=zH (HM3.out.take (k:=q) (n:=n) (by omega))
       rw [hdn] at HTK HKK
       simp only [Option.getD_some] at HTK HKK
       clear ht hdn hdq
       go_wp2
       go_roundw
       case rel=>exact ⟨m + 1,_,_,by first | rfl | go_num,by omega,HTK.out,HKK.out⟩
       case measure=>simp [intOf] <;> omega
    ·have hmlI : decide ((m : Int) < (x.kids.length : Int)) = false:=decide_eq_false (by omega)
     obtain rfl : m = x.kids.length:=by omega
     have HKS : Hid (kidsC N n x.kids s.tk s.dp = some (tk,dp)):=zH (by rw [← HKD3.out,List.drop_length];rfl)
     have hNC:=HNC.out
     rw [HKS.out] at hNC
     dsimp only at hNC
     have HNC2:=zH hNC
     clear hNC hmlI hml hm
     have HVd:=zH (HV0.out.below HM3.out.bel hgr0.out)
     have hgrd : g < wr.heap.size:=Nat.lt_of_lt_of_le hgr0.out HM3.out.bel.size
     have a1:=HVd.out.kd
     have a4:=HVd.out.kids
     go_upto_region 26 with (fail)
     go_cut [162] (fun v W=>∃ t : Bool,v = .bool t∧(t = true↔KBad x.kd x.kids.length)∧W = wr)
     case first=>as_aux_lemma=>
      have HLF:=zH fun W=>leaf_any x.kd W
      by_cases hlf : LeafP x.kd
      ·have hld : decide (LeafP x.kd) = true:=decide_eq_true hlf
       rw [hld] at HLF
       have hk6 : (x.kd == 6) = false:=by rw [beq_eq_false_iff_ne];unfold LeafP at hlf;omega
       have HL2:=zH hlf
       clear hlf hld
       by_cases hl0 : 0 < x.kids.length
       ·have hl0I : (0 : Int) < (x.kids.length : Int):=by omega
        have HKB : Hid (KBad x.kd x.kids.length):=zH (.inl ⟨HL2.out,hl0⟩)
        go_wp2_with (go_at_call 32;((with_reducible refine (HLF.out _).mono ?_);rintro e1' w1 ⟨rfl,rfl⟩))
        go_meet
        exact ⟨true,rfl,by simp [HKB.out],rfl⟩
       ·have hl0I : decide ((0 : Int) < (x.kids.length : Int)) = false:=decide_eq_false (by omega)
        have HKB : Hid (¬ KBad x.kd x.kids.length):=zH (by
         have hh:=HL2.out
         unfold LeafP at hh
         rintro (h | h)
         ·exact hl0 h.2
         ·have:=h.1;omega)
        go_wp2_with (go_at_call 32;((with_reducible refine (HLF.out _).mono ?_);rintro e1' w1 ⟨rfl,rfl⟩))
        go_meet
        exact ⟨false,rfl,by simp [HKB.out],rfl⟩
      ·have hld : decide (LeafP x.kd) = false:=decide_eq_false hlf
       rw [hld] at HLF
       have HL2:=zH hlf
       clear hlf hld
       by_cases hk6 : x.kd = 6
       ·have hlf6:=HLF.out
        rw [hk6] at hlf6
        have HLF:=zH hlf6
        clear hlf6
        by_cases hl1 : x.kids.length = 1
        ·have HKB : Hid (¬ KBad x.kd x.kids.length):=zH (by
          rintro (h | h)
          ·exact HL2.out h.1
          ·exact h.2 hl1)
         have hl1b : ((x.kids.length : Int) != 1) = false:=by rw [hl1];rfl
         clear hl1
         go_wp2_with (go_at_call 32;((with_reducible refine (HLF.out _).mono ?_);rintro e1' w1 ⟨rfl,rfl⟩))
         go_meet
         exact ⟨false,rfl,by simp [HKB.out],rfl⟩
        ·have HKB : Hid (KBad x.kd x.kids.length):=zH (.inr ⟨hk6,hl1⟩)
         have hl1I : ((x.kids.length : Int) != 1) = true:=by rw [bne_iff_ne];omega
         go_wp2_with (go_at_call 32;((with_reducible refine (HLF.out _).mono ?_);rintro e1' w1 ⟨rfl,rfl⟩))
         go_meet
         exact ⟨true,rfl,by simp [HKB.out],rfl⟩
       ·have hk6d : (x.kd == 6) = false:=by rw [beq_eq_false_iff_ne];exact hk6
        have HKB : Hid (¬ KBad x.kd x.kids.length):=zH (by
         rintro (h | h)
         ·exact HL2.out h.1
         ·exact hk6 h.1)
        go_wp2_with (go_at_call 32;((with_reducible refine (HLF.out _).mono ?_);rintro e1' w1 ⟨rfl,rfl⟩))
        go_meet
        exact ⟨false,rfl,by simp [HKB.out],rfl⟩
     case rest=>
     obtain ⟨t,rfl,ht,hwc⟩:=hcut
     obtain rfl:=hwc.symm
     cases t with
     |true=>as_aux_lemma=>
       have HR:=zH (HE.out 102 (by rw [HNC2.out,if_pos (ht.1 rfl)]))
       clear ht
       go_wp2
       go_ret2
       exact ⟨by rw [HR.out];rfl,HM3.out.bel⟩
     |false=>
     have HNC3:=HNC2.out
     rw [if_neg fun h=>absurd (ht.2 h) (by simp)] at HNC3
     have HNC3:=zH HNC3
     clear ht
     have hit:=items_gen wr g (o + n * 34) x _ _ HVd.out (HC0.out.below HM3.out.bel) hgrd
     obtain ⟨ti,hti⟩ : ∃ ti,decide (ItemsP x) = ti:=⟨_,rfl⟩
     rw [hti] at hit
     have HIT:=zH hit
     clear hit
     obtain ⟨tf,htf⟩ : ∃ tf,decide (FieldsP x) = tf:=⟨_,rfl⟩
     have HFD : Hid (∀ W : World,Below wr.heap.size wr W→Calls Tryz.prog 34 #[.pointer (some ⟨g,o + n * 34,none⟩)] W (VRet (.bool tf) W)):=zH fun W hb=>by
      have h1:=fields_gen W g (o + n * 34) x _ _ (HVd.out.below hb hgrd) H8.out
      rw [htf] at h1
      exact h1
     cases ti with
     |true=>
      have hits : ItemsP x:=of_decide_eq_true hti
      have HNC4:=HNC3.out
      rw [if_neg (fun h=>h hits)] at HNC4
      have HNC4:=zH HNC4
      clear hits hti
      cases tf with
      |true=>
       have hfs : FieldsP x:=of_decide_eq_true htf
       have HNC5:=HNC4.out
       rw [if_neg (fun h=>h hfs)] at HNC5
       have HNC5:=zH HNC5
       clear hfs htf
       by_cases htx : 65536 < x.tx.size
       ·as_aux_lemma=>
         obtain ⟨L,hL⟩ : ∃ L : Int,(x.tx.size : Int) = L:=⟨_,rfl⟩
         have htxI : (65536 : Int) < L:=by omega
         have HR:=zH (HE.out 3 (by rw [HNC5.out,if_pos htx]))
         clear htx
         go_wp2_with (first | (go_at_call 33;((with_reducible refine HIT.out.mono ?_);rintro e1' w2 ⟨rfl,hb2⟩;have HB2:=zH hb2;have b22:=(HVd.out.below hb2 hgrd).tx;clear hb2)) | (go_at_call 34;((with_reducible refine (HFD.out _ HB2.out).mono ?_);rintro e1' w3 ⟨rfl,rfl⟩)))
         go_ret2
         exact ⟨by rw [HR.out];rfl,HM3.out.bel.trans (HB2.out.mono HM3.out.bel.size)⟩
       ·as_aux_lemma=>
         have HST2:=zH (HST.out ⟨tk,dp,ids2⟩ (by rw [HNC5.out,if_neg htx,HIDS.out]))
         obtain ⟨L,hL⟩ : ∃ L : Int,(x.tx.size : Int) = L:=⟨_,rfl⟩
         have htxI : decide ((65536 : Int) < L) = false:=decide_eq_false (by omega)
         clear htx
         go_wp2_with (first | (go_at_call 33;((with_reducible refine HIT.out.mono ?_);rintro e1' w2 ⟨rfl,hb2⟩;have HB2:=zH hb2;have b22:=(HVd.out.below hb2 hgrd).tx;clear hb2)) | (go_at_call 34;((with_reducible refine (HFD.out _ HB2.out).mono ?_);rintro e1' w3 ⟨rfl,rfl⟩)))
         go_roundw
         case rel=>exact ⟨n + 1,⟨tk,dp,ids2⟩,by first | rfl | go_num,by omega,HM3.out.below HB2.out,HST2.out⟩
         case measure=>simp [intOf] <;> omega
      |false=>as_aux_lemma=>
        have HR:=zH (HE.out 106 (by rw [HNC4.out,if_pos (of_decide_eq_false htf)]))
        clear htf
        go_wp2_with (first | (go_at_call 33;((with_reducible refine HIT.out.mono ?_);rintro e1' w2 ⟨rfl,hb2⟩;have HB2:=zH hb2;clear hb2)) | (go_at_call 34;((with_reducible refine (HFD.out _ HB2.out).mono ?_);rintro e1' w3 ⟨rfl,rfl⟩)))
        go_ret2
        exact ⟨by rw [HR.out];rfl,HM3.out.bel.trans (HB2.out.mono HM3.out.bel.size)⟩
     |false=>as_aux_lemma=>
       have HR:=zH (HE.out 104 (by rw [HNC3.out,if_pos (of_decide_eq_false hti)]))
       clear hti
       go_wp2_with (go_at_call 33;((with_reducible refine HIT.out.mono ?_);rintro e1' w2 ⟨rfl,hb2⟩;have HB2:=zH hb2;clear hb2))
       go_ret2
       exact ⟨by rw [HR.out];rfl,HM3.out.bel.trans (HB2.out.mono HM3.out.bel.size)⟩
  ·have hltI : decide ((n : Int) < (N : Int)) = false:=decide_eq_false (by omega)
   obtain rfl : n = N:=by omega
   have HCE : Hid (checkS ns = endC n s):=zH (by
    have:=checkS_end HB.out (s:=s) (by rw [HN.out,HS.out,← HN.out,List.drop_length];rfl)
    rwa [HN.out] at this)
   have H3 : Hid (∀ a,a < n→unTaken s a = true→(∀ j,j < a→unTaken s j = false)→checkS ns = (102,a)):=zH fun a ha h1 h2=>by rw [HCE.out];unfold endC;rw [find_first ha h1 h2]
   have H4 : Hid ((∀ j,j < n→unTaken s j = false)→∀ a,a < n→tooDeep s a = true→(∀ j,j < a→tooDeep s j = false)→checkS ns = (103,a)):=zH fun h0 a ha h1 h2=>by rw [HCE.out];unfold endC;rw [find_none h0];dsimp only;rw [find_first ha h1 h2]
   have H5 : Hid ((∀ j,j < n→unTaken s j = false)→(∀ j,j < n→tooDeep s j = false)→checkS ns = (0,0)):=zH fun h0 h1=>by rw [HCE.out];unfold endC;rw [find_none h0];dsimp only;rw [find_none h1]
   have hNn : 1≤n:=by omega
   clear hlt
   go_wp2
   go_loopw [11] (fun i w2=>∃ a : Nat,i = .int .i64 a∧1≤a∧a≤n∧w2 = wr∧(∀ j,j < a→unTaken s j = false)) (fun i _=>n - (intOf i).toNat)
   case atStart=>exact ⟨1,rfl,by omega,hNn,by first | rfl | trivial,fun j hj=>by
    cases j with
    |zero=>rfl
    |succ j=>simp at hj⟩
   case round=>
    obtain ⟨a,rfl,ha1,han,rfl,hall⟩:=hrel
    have HA:=zH hall
    clear hall
    by_cases hlt2 : a < n
    ·as_aux_lemma=>
      have hlt2I : (a : Int) < (n : Int):=by omega
      have htl:=HM.out.tl
      obtain ⟨t,ht⟩ : ∃ t,s.tk[a]? = some t:=⟨_,List.getElem?_eq_getElem (by omega)⟩
      have ct:=World.ownsRow.cellAt HM.out.tk a (by omega)
      rw [show (bvs s.tk)[a]? = some (.bool t) by simp [bvs,ht]] at ct
      have HT:=zH ht
      clear ht
      cases t with
      |true=>
       have HU : Hid (unTaken s a = false):=zH (by simp [unTaken,HT.out])
       go_wp2
       go_roundw
       case rel=>exact ⟨a + 1,by first | rfl | go_num,by omega,by omega,by first | rfl | trivial,fun j hj=>by
        rcases Nat.lt_or_ge j a with h | h
        ·exact HA.out j h
        ·obtain rfl : j = a:=by omega
         exact HU.out⟩
       case measure=>simp [intOf] <;> omega
      |false=>
       have HU : Hid (unTaken s a = true):=zH (by simp [unTaken,HT.out,ha1])
       have HR:=zH (H3.out a hlt2 HU.out HA.out)
       go_wp2
       go_ret2
       exact ⟨by rw [HR.out];rfl,HM.out.bel⟩
    ·have hlt2I : decide ((a : Int) < (n : Int)) = false:=decide_eq_false (by omega)
     obtain rfl : a = n:=by omega
     go_wp2
     go_loopw [196] (fun i w2=>∃ q : Nat,i = .int .i64 q∧q≤a∧w2 = w2∧CkM w a b1 b4 b5 bm (.slice p a c) a s w2∧(∀ j,j < q→tooDeep s j = false)) (fun i _=>a - (intOf i).toNat)
     case atStart=>exact ⟨0,rfl,by omega,by first | rfl | trivial,HM.out,fun j hj=>by omega⟩
     case round=>
      obtain ⟨q,rfl,hq,-,hM4,hall⟩:=hrel
      have HQ:=zH hall
      have HM4:=zH hM4
      clear hall hM4
      by_cases hlt3 : q < a
      ·as_aux_lemma=>
        have hlt3I : (q : Int) < (a : Int):=by omega
        have hdl:=HM4.out.dl
        obtain ⟨d,hd⟩ : ∃ d,s.dp[q]? = some d:=⟨_,List.getElem?_eq_getElem (by omega)⟩
        have ct:=World.ownsRow.cellAt HM4.out.dp q (by omega)
        rw [show (ivs s.dp)[q]? = some (.int .i64 d) by simp [ivs,hd]] at ct
        have HT:=zH hd
        clear hd
        by_cases h64 : 64≤d
        ·have HU : Hid (tooDeep s q = true):=zH (by simp [tooDeep,HT.out,h64])
         have HR:=zH (H4.out HA.out q hlt3 HU.out HQ.out)
         go_wp2
         go_ret2
         exact ⟨by rw [HR.out];rfl,HM4.out.bel⟩
        ·have h64d : decide (64≤d) = false:=decide_eq_false h64
         have HU : Hid (tooDeep s q = false):=zH (by simp [tooDeep,HT.out];omega)
         clear h64
         go_wp2
         go_roundw
         case rel=>exact ⟨q + 1,by first | rfl | go_num,by omega,by first | rfl | trivial,HM4.out,fun j hj=>by
          rcases Nat.lt_or_ge j q with h | h
          ·exact HQ.out j h
          ·obtain rfl : j = q:=by omega
           exact HU.out⟩
         case measure=>simp [intOf] <;> omega
      ·have hlt3I : decide ((q : Int) < (a : Int)) = false:=decide_eq_false (by omega)
       obtain rfl : q = a:=by omega
       have HR:=zH (H5.out HA.out HQ.out)
       go_wp2
       go_ret2
       exact ⟨by rw [HR.out];rfl,HM4.out.bel⟩
end Go.Proofs.YthhomflonpjbmaaGreatDoor
/-
 How a tree that is handed in lies in memory.
-/
namespace Go.Proofs.YthhomflonpjbmaaGreatDoor
open Go.ChangeShapes Go.WideShapes Go.ChangeAt Go.RowKit Go.Joins Go.Deep
structure NSz (x : ND) : Prop where
 id : x.id.size≤140737488355328
 cl : x.cl.size≤140737488355328
 tx : x.tx.size≤140737488355328
 kids : x.kids.length≤17592186044416
 cols : x.cols.length≤17592186044416
section
variable {H : Type}
def Sm (t : TypeId) (d : DataW H) : Prop:=∀ n ∈ d.weights Tryz.prog t,n≤140737488351232
theorem reach_eq : reachBytes = 140737488351232:=by decide
theorem sm_arg {ts : List TypeId} {ds : List (DataW H)} (h : (DataW.weightsEach Tryz.prog ts ds).all (·≤reachBytes) = true) {j : Nat} {t : TypeId} {d : DataW H} (ht : ts[j]? = some t) (hd : ds[j]? = some d) : Sm t d:=fun n hn=>by
 have:=List.all_eq_true.1 h _ (DataW.weights_mem_each ht hd n hn)
 rw [reach_eq] at this
 simpa using this
theorem sm_field {t : TypeId} {fs : Array Field} {parts : List (DataW H)} (hu : Tryz.prog.underlying t = some (.struct fs)) (h : Sm t (.agg parts)) {i : Nat} {f : Field} (hf : fs[i]? = some f) {d : DataW H} (hd : parts[i]? = some d) : Sm f.type d:=fun n hn=>
 h n (by
  simp only [DataW.weights,hu]
  exact DataW.weights_mem_each (j:=i) (by rw [List.getElem?_map];simp [hf]) hd n hn)
theorem weights_all_mem {e : TypeId} : ∀ {ds : List (DataW H)} {d : DataW H},d ∈ ds→∀ n ∈ d.weights Tryz.prog e,n ∈ DataW.weightsAll Tryz.prog e ds
 |x :: ds,d,h,n,hn=>by
  simp only [DataW.weightsAll,List.mem_append]
  rcases List.mem_cons.1 h with rfl | h
  ·exact .inl hn
  ·exact .inr (weights_all_mem h n hn)
theorem sm_elem {t e : TypeId} {es ss : List (DataW H)} (hu : Tryz.prog.underlying t = some (.slice e)) (h : Sm t (.slice es ss)) {d : DataW H} (hd : d ∈ es) : Sm e d:=fun n hn=>
 h n (by
  simp only [DataW.weights,hu]
  exact List.mem_cons_of_mem _ (List.mem_append_left _ (weights_all_mem hd n hn)))
theorem sm_len {t e : TypeId} {es ss : List (DataW H)} (hu : Tryz.prog.underlying t = some (.slice e)) (h : Sm t (.slice es ss)) : (es.length + ss.length) * Tryz.prog.bytesOf e≤140737488351232 :=
 h _ (by simp [DataW.weights,hu])
theorem sm_str {t : TypeId} {b : List UInt8} (h : Sm (H:=H) t (.lit (.string b))) : b.length≤140737488351232:=h _ (by simp [DataW.weights])
end
instance : Inhabited ND:=⟨⟨0,⟨#[]⟩,⟨#[]⟩,[],default,default,0,0,0,0,0,0,0,0,⟨#[]⟩,0,0,0,0,0,[],0,0,0,0,0⟩⟩
section
variable {H : Type} {enc : TypeId × Value→H} {W : World} {spare : Nat→Bool} {held : Bool} {base fuel : Nat}
theorem add_nA (g o i : Nat) : (⟨g,o,none⟩ : Addr).add i = ⟨g,o + i,none⟩:=by
 unfold Addr.add
 split <;> simp_all
theorem open_ints {c : Value} {x : DataW H × List MemPlace} (h : DataW.trod enc Tryz.prog W base spare held fuel 38 [c] = some x) (hs : Sm 38 x.1) : ∃ l : List Int,l.length≤17592186044416∧SlI W c l∧∀ y ∈ l,-9223372036854775808≤y∧y≤9223372036854775807:=by
 rcases open_slice1 Tryz.underlying38 (show Tryz.prog.cellsOf 3 = 1 by kernel_rfl) h with ⟨e,_⟩ | ⟨a,len,cap,m,n,V,D,Pl,e,_,hl,hm,hmm,hx,hc⟩
 ·obtain rfl : c = .slice none 0 0:=by simpa using e
  exact ⟨[],by simp,⟨none,0,rfl,by simp,fun i y hi=>by simp at hi⟩,fun y hy=>by simp at hy⟩
 ·obtain rfl : c = .slice (some a) len cap:=by simpa using e
  have hlm : len≤m:=by rw [hmm];split <;> omega
  have hF : ∀ i,i < len→∃ y : Int,V i = .int .i64 y∧-9223372036854775808≤y∧y≤9223372036854775807:=fun i hi=>by
   obtain ⟨y,e,_,hw⟩:=DataW.trod_int Tryz.underlying3 (hc i (by omega)).2
   exact ⟨y,by simpa using e,by simpa [Lit.wf,IntKind.min,IntKind.max,IntKind.signed,IntKind.bits] using hw⟩
  obtain ⟨B,hB⟩:=choose_lt hF
  have hlen : len≤17592186044416:=by
   rw [hx] at hs
   have:=sm_len Tryz.underlying38 hs
   rw [show Tryz.prog.bytesOf 3 = 8 by kernel_rfl] at this
   simp at this
   omega
  refine ⟨(List.range len).map B,by simpa using hlen,⟨some a,cap,by simp,by simpa using hlen,fun i y hi=>?_⟩,fun y hy=>?_⟩
  ·have hil : i < len:=by
    rcases Nat.lt_or_ge i len with h | h
    ·exact h
    ·rw [List.getElem?_eq_none (by simpa using h)] at hi;cases hi
   simp [hil] at hi
   subst hi
   have hci:=(hc i (by omega)).1
   have hsp:=World.cell?_spot (hc 0 (by omega)).1
   have hlt:=World.block_lt_of_cell? _ _ (hc 0 (by omega)).1
   obtain ⟨g,o,spot⟩:=a
   have : spot = none:=by simpa [Addr.add] using hsp
   subst this
   refine ⟨g,o,rfl,by simpa [Addr.add] using hlt,?_⟩
   rw [← add_nA,hci,(hB i hil).1]
  ·obtain ⟨i,hi,rfl⟩:=List.mem_map.1 hy
   exact (hB i (List.mem_range.1 hi)).2
theorem field_of {t : TypeId} {k i off n : Nat} {cs u : List Value} {xs : List (DataW H × List MemPlace)} {y : DataW H × List MemPlace} (hf : DataW.trod enc Tryz.prog W base spare held n t ((cs.drop off).take (Tryz.prog.cellsOf t)) = xs[i]?) (hk : Tryz.prog.cellsOf t = k) (hu : (cs.drop off).take k = u) (hx : xs[i]? = some y) : DataW.trod enc Tryz.prog W base spare held n t u = some y:=by
 rw [hk,hu,hx] at hf
 exact hf
set_option maxRecDepth 100000 in
theorem open_item {cs : List Value} {x : DataW H × List MemPlace} (h : DataW.trod enc Tryz.prog W base spare held fuel 40 cs = some x) : ∃ it : Itm,cs = [.int .i8 it.k,.int .i64 it.n,.int .i64 it.d,.int .i64 it.mn,.int .i64 it.mx]:=by
 obtain ⟨xs,n,_,_,hl,hxl,hf⟩:=DataW.trod_struct Tryz.underlying40 h
 have hx5 : xs.length = 5:=hxl
 rw [show Tryz.prog.cellsOf 40 = 5 by kernel_rfl] at hl
 match cs,hl with
 | [c0,c1,c2,c3,c4],_=>
  have k1 : Tryz.prog.cellsOf 3 = 1:=by kernel_rfl
  have k2 : Tryz.prog.cellsOf 36 = 1:=by kernel_rfl
  have g : ∀ i,i < 5→∃ y,xs[i]? = some y:=fun i hi=>⟨_,List.getElem?_eq_getElem (by omega)⟩
  obtain ⟨y0,e0⟩:=g 0 (by omega)
  obtain ⟨y1,e1⟩:=g 1 (by omega)
  obtain ⟨y2,e2⟩:=g 2 (by omega)
  obtain ⟨y3,e3⟩:=g 3 (by omega)
  obtain ⟨y4,e4⟩:=g 4 (by omega)
  have f0 : DataW.trod enc Tryz.prog W base spare held n 36 [c0] = some y0:=field_of (hf 0 _ rfl) k2 rfl e0
  have f1 : DataW.trod enc Tryz.prog W base spare held n 3 [c1] = some y1:=field_of (hf 1 _ rfl) k1 rfl e1
  have f2 : DataW.trod enc Tryz.prog W base spare held n 3 [c2] = some y2:=field_of (hf 2 _ rfl) k1 rfl e2
  have f3 : DataW.trod enc Tryz.prog W base spare held n 3 [c3] = some y3:=field_of (hf 3 _ rfl) k1 rfl e3
  have f4 : DataW.trod enc Tryz.prog W base spare held n 3 [c4] = some y4:=field_of (hf 4 _ rfl) k1 rfl e4
  obtain ⟨a0,q0,_⟩:=DataW.trod_int (k:=.i8) Tryz.underlying36 f0
  obtain ⟨a1,q1,_⟩:=DataW.trod_int (k:=.i64) Tryz.underlying3 f1
  obtain ⟨a2,q2,_⟩:=DataW.trod_int (k:=.i64) Tryz.underlying3 f2
  obtain ⟨a3,q3,_⟩:=DataW.trod_int (k:=.i64) Tryz.underlying3 f3
  obtain ⟨a4,q4,_⟩:=DataW.trod_int (k:=.i64) Tryz.underlying3 f4
  simp at q0 q1 q2 q3 q4
  subst q0 q1 q2 q3 q4
  exact ⟨⟨a0,a1,a2,a3,a4⟩,rfl⟩
theorem open_items {c : Value} {x : DataW H × List MemPlace} (h : DataW.trod enc Tryz.prog W base spare held fuel 44 [c] = some x) (hs : Sm 44 x.1) : ∃ l : List Itm,l.length≤4398046511104∧SlT W c l:=by
 rcases open_slice Tryz.underlying44 h with ⟨e,_⟩ | ⟨a,len,cap,m,n,D,Pl,e,_,hl,hm,hmm,hx,hc⟩
 ·obtain rfl : c = .slice none 0 0:=by simpa using e
  exact ⟨[],by simp,none,0,rfl,by simp,fun i y hi=>by simp at hi⟩
 ·obtain rfl : c = .slice (some a) len cap:=by simpa using e
  have hlm : len≤m:=by rw [hmm];split <;> omega
  have k5 : Tryz.prog.cellsOf 40 = 5:=by kernel_rfl
  rw [k5] at hc
  have hlen : len≤4398046511104:=by
   rw [hx] at hs
   have:=sm_len Tryz.underlying44 hs
   rw [show Tryz.prog.bytesOf 40 = 40 by kernel_rfl] at this
   simp at this
   omega
  have hsp : 0 < len→a.spot = none:=fun h=>by
   obtain ⟨cs',h1,_⟩:=hc 0 (by omega)
   obtain ⟨_,hlen,hcell⟩:=World.cells?_some h1
   have e0:=hcell 0 (by omega)
   rw [List.getElem?_eq_getElem (by omega)] at e0
   simpa [Addr.add] using World.cell?_spot e0
  have hF : ∀ i,i < len→∃ it : Itm,a.block < W.heap.size∧ItmAt W a.block (a.off + i * 5) it:=fun i hi=>by
   obtain ⟨cs',h1,h2⟩:=hc i (by omega)
   obtain ⟨_,hlen,hcell⟩:=World.cells?_some h1
   obtain ⟨it,rfl⟩:=open_item h2
   have e0:=hcell 0 (by omega)
   have e1:=hcell 1 (by omega)
   have e2:=hcell 2 (by omega)
   have e3:=hcell 3 (by omega)
   have e4:=hcell 4 (by omega)
   have hs:=hsp (by omega)
   have hlt:=World.block_lt_of_cell? _ _ e0
   obtain ⟨g,o,spot⟩:=a
   simp only at hs
   subst hs
   rw [add_nA,add_nA] at e0 e1 e2 e3 e4
   rw [add_nA,add_nA] at hlt
   exact ⟨it,hlt,e0,e1,e2,e3,e4⟩
  obtain ⟨B,hB⟩:=choose_lt hF
  refine ⟨(List.range len).map B,by simpa using hlen,some a,cap,by simp,by simpa using hlen,fun i y hi=>?_⟩
  have hil : i < len:=by
   rcases Nat.lt_or_ge i len with h | h
   ·exact h
   ·rw [List.getElem?_eq_none (by simpa using h)] at hi;cases hi
  simp [hil] at hi
  subst hi
  have hs:=hsp (by omega)
  obtain ⟨g,o,spot⟩:=a
  simp only at hs
  subst hs
  exact ⟨g,o,rfl,(hB i hil).1,(hB i hil).2⟩
def node34 (y : ND) (kv cv : Value) : List Value:=[.int .i8 y.kd,.string y.id,.string y.cl,kv,.int .i8 y.wd.k,.int .i64 y.wd.n,.int .i64 y.wd.d,.int .i64 y.wd.mn,.int .i64 y.wd.mx,.int .i8 y.ht.k,.int .i64 y.ht.n,.int .i64 y.ht.d,.int .i64 y.ht.mn,.int .i64 y.ht.mx,.int .i64 y.gap,.int .i64 y.p0,.int .i64 y.p1,.int .i64 y.p2,.int .i64 y.p3,.int .i8 y.bd,.int .i8 y.al,.int .i8 y.cr,.string y.tx,.int .i8 y.md,.int .i32 y.fg,.int .i32 y.bg,.int .u8 y.ad,.int .u8 y.dr,cv,.int .i64 y.x0,.int .i64 y.x1,.int .i64 y.x2,.int .i64 y.x3,.int .u8 y.fl]
theorem consOf {α : Type} {n : Nat} {l : List α} (h : l.length = n + 1) : ∃ a t,l = a :: t∧t.length = n:=by
 cases l with
 |nil=>simp at h
 |cons a t=>exact ⟨a,t,rfl,by simpa using h⟩
theorem list34 {α : Type} (l : List α) (h : l.length = 34) : ∃ c0 c1 c2 c3 c4 c5 c6 c7 c8 c9 c10 c11 c12 c13 c14 c15 c16 c17 c18 c19 c20 c21 c22 c23 c24 c25 c26 c27 c28 c29 c30 c31 c32 c33,l = [c0,c1,c2,c3,c4,c5,c6,c7,c8,c9,c10,c11,c12,c13,c14,c15,c16,c17,c18,c19,c20,c21,c22,c23,c24,c25,c26,c27,c28,c29,c30,c31,c32,c33]:=by
 obtain ⟨c0,l0,e0,h0⟩:=consOf h
 subst e0
 obtain ⟨c1,l1,e1,h1⟩:=consOf h0
 subst e1
 obtain ⟨c2,l2,e2,h2⟩:=consOf h1
 subst e2
 obtain ⟨c3,l3,e3,h3⟩:=consOf h2
 subst e3
 obtain ⟨c4,l4,e4,h4⟩:=consOf h3
 subst e4
 obtain ⟨c5,l5,e5,h5⟩:=consOf h4
 subst e5
 obtain ⟨c6,l6,e6,h6⟩:=consOf h5
 subst e6
 obtain ⟨c7,l7,e7,h7⟩:=consOf h6
 subst e7
 obtain ⟨c8,l8,e8,h8⟩:=consOf h7
 subst e8
 obtain ⟨c9,l9,e9,h9⟩:=consOf h8
 subst e9
 obtain ⟨c10,l10,e10,h10⟩:=consOf h9
 subst e10
 obtain ⟨c11,l11,e11,h11⟩:=consOf h10
 subst e11
 obtain ⟨c12,l12,e12,h12⟩:=consOf h11
 subst e12
 obtain ⟨c13,l13,e13,h13⟩:=consOf h12
 subst e13
 obtain ⟨c14,l14,e14,h14⟩:=consOf h13
 subst e14
 obtain ⟨c15,l15,e15,h15⟩:=consOf h14
 subst e15
 obtain ⟨c16,l16,e16,h16⟩:=consOf h15
 subst e16
 obtain ⟨c17,l17,e17,h17⟩:=consOf h16
 subst e17
 obtain ⟨c18,l18,e18,h18⟩:=consOf h17
 subst e18
 obtain ⟨c19,l19,e19,h19⟩:=consOf h18
 subst e19
 obtain ⟨c20,l20,e20,h20⟩:=consOf h19
 subst e20
 obtain ⟨c21,l21,e21,h21⟩:=consOf h20
 subst e21
 obtain ⟨c22,l22,e22,h22⟩:=consOf h21
 subst e22
 obtain ⟨c23,l23,e23,h23⟩:=consOf h22
 subst e23
 obtain ⟨c24,l24,e24,h24⟩:=consOf h23
 subst e24
 obtain ⟨c25,l25,e25,h25⟩:=consOf h24
 subst e25
 obtain ⟨c26,l26,e26,h26⟩:=consOf h25
 subst e26
 obtain ⟨c27,l27,e27,h27⟩:=consOf h26
 subst e27
 obtain ⟨c28,l28,e28,h28⟩:=consOf h27
 subst e28
 obtain ⟨c29,l29,e29,h29⟩:=consOf h28
 subst e29
 obtain ⟨c30,l30,e30,h30⟩:=consOf h29
 subst e30
 obtain ⟨c31,l31,e31,h31⟩:=consOf h30
 subst e31
 obtain ⟨c32,l32,e32,h32⟩:=consOf h31
 subst e32
 obtain ⟨c33,l33,e33,h33⟩:=consOf h32
 subst e33
 obtain rfl:=List.length_eq_zero_iff.1 h33
 exact ⟨c0,c1,c2,c3,c4,c5,c6,c7,c8,c9,c10,c11,c12,c13,c14,c15,c16,c17,c18,c19,c20,c21,c22,c23,c24,c25,c26,c27,c28,c29,c30,c31,c32,c33,rfl⟩
theorem sizeOf_list {b : ByteArray} (h : b.data.toList.length≤140737488351232) : b.size≤140737488355328:=by
 have : b.size = b.data.toList.length:=(Array.length_toList).symm
 omega
theorem wf8 {n : Int} (h : (Lit.int .i8 n).wf = true) : -128≤n∧n≤127:=by simpa [Lit.wf,IntKind.min,IntKind.max,IntKind.signed,IntKind.bits] using h
set_option maxRecDepth 100000 in
set_option maxHeartbeats 4000000 in
theorem open_node {cs : List Value} {x : DataW H × List MemPlace} (h : DataW.trod enc Tryz.prog W base spare held fuel 46 cs = some x) (hs : Sm 46 x.1) : ∃ (y : ND) (kv cv : Value),cs = node34 y kv cv∧X8 y∧NSz y∧SlI W kv y.kids∧SlT W cv y.cols:=by
 obtain ⟨xs,n,_,hx,hl,hxl,hf⟩:=DataW.trod_struct Tryz.underlying46 h
 rw [show Tryz.prog.cellsOf 46 = 34 by kernel_rfl] at hl
 have hx17 : xs.length = 17:=hxl
 rw [hx] at hs
 obtain ⟨c0,c1,c2,c3,c4,c5,c6,c7,c8,c9,c10,c11,c12,c13,c14,c15,c16,c17,c18,c19,c20,c21,c22,c23,c24,c25,c26,c27,c28,c29,c30,c31,c32,c33,rfl⟩:=list34 cs hl
 have k1 : Tryz.prog.cellsOf 3 = 1:=by kernel_rfl
 have k2 : Tryz.prog.cellsOf 36 = 1:=by kernel_rfl
 have k3 : Tryz.prog.cellsOf 9 = 1:=by kernel_rfl
 have k4 : Tryz.prog.cellsOf 38 = 1:=by kernel_rfl
 have k5 : Tryz.prog.cellsOf 40 = 5:=by kernel_rfl
 have k6 : Tryz.prog.cellsOf 37 = 4:=by kernel_rfl
 have k7 : Tryz.prog.cellsOf 43 = 4:=by kernel_rfl
 have k8 : Tryz.prog.cellsOf 44 = 1:=by kernel_rfl
 have k9 : Tryz.prog.cellsOf 5 = 1:=by kernel_rfl
 have k10 : Tryz.prog.cellsOf 41 = 1:=by kernel_rfl
 have g : ∀ i,i < 17→∃ y,xs[i]? = some y:=fun i hi=>⟨_,List.getElem?_eq_getElem (by omega)⟩
 have gm : ∀ {i : Nat} {y : DataW H × List MemPlace},xs[i]? = some y→(xs.map (·.1))[i]? = some y.1:=fun h=>by rw [List.getElem?_map,h];rfl
 obtain ⟨y0,e0⟩:=g 0 (by omega)
 have f0 : DataW.trod enc Tryz.prog W base spare held n 36 [c0] = some y0:=field_of (hf 0 _ rfl) k2 rfl e0
 obtain ⟨a0,q0,_,w0⟩:=DataW.trod_int (k:=.i8) Tryz.underlying36 f0
 obtain ⟨y1,e1⟩:=g 1 (by omega)
 have f1 : DataW.trod enc Tryz.prog W base spare held n 9 [c1] = some y1:=field_of (hf 1 _ rfl) k3 rfl e1
 obtain ⟨a1,q1,r1,_⟩:=DataW.trod_string Tryz.underlying9 f1
 have s1:=sm_field Tryz.underlying46 hs (i:=1) rfl (gm e1)
 rw [r1] at s1
 have z1:=sm_str s1
 obtain ⟨y2,e2⟩:=g 2 (by omega)
 have f2 : DataW.trod enc Tryz.prog W base spare held n 9 [c2] = some y2:=field_of (hf 2 _ rfl) k3 rfl e2
 obtain ⟨a2,q2,r2,_⟩:=DataW.trod_string Tryz.underlying9 f2
 have s2:=sm_field Tryz.underlying46 hs (i:=2) rfl (gm e2)
 rw [r2] at s2
 have z2:=sm_str s2
 obtain ⟨y3,e3⟩:=g 3 (by omega)
 have f3 : DataW.trod enc Tryz.prog W base spare held n 38 [c3] = some y3:=field_of (hf 3 _ rfl) k4 rfl e3
 obtain ⟨a3,z3,q3,_⟩:=open_ints f3 (sm_field Tryz.underlying46 hs (i:=3) rfl (gm e3))
 obtain ⟨y4,e4⟩:=g 4 (by omega)
 have f4 : DataW.trod enc Tryz.prog W base spare held n 40 [c4,c5,c6,c7,c8] = some y4:=field_of (hf 4 _ rfl) k5 rfl e4
 obtain ⟨a4,q4⟩:=open_item f4
 obtain ⟨y5,e5⟩:=g 5 (by omega)
 have f5 : DataW.trod enc Tryz.prog W base spare held n 40 [c9,c10,c11,c12,c13] = some y5:=field_of (hf 5 _ rfl) k5 rfl e5
 obtain ⟨a5,q5⟩:=open_item f5
 obtain ⟨y6,e6⟩:=g 6 (by omega)
 have f6 : DataW.trod enc Tryz.prog W base spare held n 3 [c14] = some y6:=field_of (hf 6 _ rfl) k1 rfl e6
 obtain ⟨a6,q6,_,w6⟩:=DataW.trod_int (k:=.i64) Tryz.underlying3 f6
 obtain ⟨y7,e7⟩:=g 7 (by omega)
 have f7 : DataW.trod enc Tryz.prog W base spare held n 37 [c15,c16,c17,c18] = some y7:=field_of (hf 7 _ rfl) k6 rfl e7
 obtain ⟨u7,v7,s7,t7,_,_,g7a,g7b,g7c,g7d⟩:=trod_array4 Tryz.underlying37 k1 f7
 obtain ⟨a7a,q7a,_⟩:=DataW.trod_int (k:=.i64) Tryz.underlying3 g7a
 obtain ⟨a7b,q7b,_⟩:=DataW.trod_int (k:=.i64) Tryz.underlying3 g7b
 obtain ⟨a7c,q7c,_⟩:=DataW.trod_int (k:=.i64) Tryz.underlying3 g7c
 obtain ⟨a7d,q7d,_⟩:=DataW.trod_int (k:=.i64) Tryz.underlying3 g7d
 obtain ⟨y8,e8⟩:=g 8 (by omega)
 have f8 : DataW.trod enc Tryz.prog W base spare held n 36 [c19] = some y8:=field_of (hf 8 _ rfl) k2 rfl e8
 obtain ⟨a8,q8,_,w8⟩:=DataW.trod_int (k:=.i8) Tryz.underlying36 f8
 obtain ⟨y9,e9⟩:=g 9 (by omega)
 have f9 : DataW.trod enc Tryz.prog W base spare held n 36 [c20] = some y9:=field_of (hf 9 _ rfl) k2 rfl e9
 obtain ⟨a9,q9,_,w9⟩:=DataW.trod_int (k:=.i8) Tryz.underlying36 f9
 obtain ⟨y10,e10⟩:=g 10 (by omega)
 have f10 : DataW.trod enc Tryz.prog W base spare held n 36 [c21] = some y10:=field_of (hf 10 _ rfl) k2 rfl e10
 obtain ⟨a10,q10,_,w10⟩:=DataW.trod_int (k:=.i8) Tryz.underlying36 f10
 obtain ⟨y11,e11⟩:=g 11 (by omega)
 have f11 : DataW.trod enc Tryz.prog W base spare held n 9 [c22] = some y11:=field_of (hf 11 _ rfl) k3 rfl e11
 obtain ⟨a11,q11,r11,_⟩:=DataW.trod_string Tryz.underlying9 f11
 have s11:=sm_field Tryz.underlying46 hs (i:=11) rfl (gm e11)
 rw [r11] at s11
 have z11:=sm_str s11
 obtain ⟨y12,e12⟩:=g 12 (by omega)
 have f12 : DataW.trod enc Tryz.prog W base spare held n 36 [c23] = some y12:=field_of (hf 12 _ rfl) k2 rfl e12
 obtain ⟨a12,q12,_,w12⟩:=DataW.trod_int (k:=.i8) Tryz.underlying36 f12
 obtain ⟨y13,e13⟩:=g 13 (by omega)
 have f13 : DataW.trod enc Tryz.prog W base spare held n 43 [c24,c25,c26,c27] = some y13:=field_of (hf 13 _ rfl) k7 rfl e13
 obtain ⟨ps,n2,_,_,_,hpl,hp⟩:=DataW.trod_struct Tryz.underlying43 f13
 have hp4 : ps.length = 4:=hpl
 have gp : ∀ i,i < 4→∃ y,ps[i]? = some y:=fun i hi=>⟨_,List.getElem?_eq_getElem (by omega)⟩
 obtain ⟨yp0,ep0⟩:=gp 0 (by omega)
 have fp0 : DataW.trod enc Tryz.prog W base spare held n2 41 [c24] = some yp0:=field_of (hp 0 _ rfl) k10 rfl ep0
 obtain ⟨ap0,qp0,_⟩:=DataW.trod_int (k:=.i32) Tryz.underlying41 fp0
 obtain ⟨yp1,ep1⟩:=gp 1 (by omega)
 have fp1 : DataW.trod enc Tryz.prog W base spare held n2 41 [c25] = some yp1:=field_of (hp 1 _ rfl) k10 rfl ep1
 obtain ⟨ap1,qp1,_⟩:=DataW.trod_int (k:=.i32) Tryz.underlying41 fp1
 obtain ⟨yp2,ep2⟩:=gp 2 (by omega)
 have fp2 : DataW.trod enc Tryz.prog W base spare held n2 5 [c26] = some yp2:=field_of (hp 2 _ rfl) k9 rfl ep2
 obtain ⟨ap2,qp2,_⟩:=DataW.trod_int (k:=.u8) Tryz.underlying5 fp2
 obtain ⟨yp3,ep3⟩:=gp 3 (by omega)
 have fp3 : DataW.trod enc Tryz.prog W base spare held n2 5 [c27] = some yp3:=field_of (hp 3 _ rfl) k9 rfl ep3
 obtain ⟨ap3,qp3,_⟩:=DataW.trod_int (k:=.u8) Tryz.underlying5 fp3
 obtain ⟨y14,e14⟩:=g 14 (by omega)
 have f14 : DataW.trod enc Tryz.prog W base spare held n 44 [c28] = some y14:=field_of (hf 14 _ rfl) k8 rfl e14
 obtain ⟨a14,z14,q14⟩:=open_items f14 (sm_field Tryz.underlying46 hs (i:=14) rfl (gm e14))
 obtain ⟨y15,e15⟩:=g 15 (by omega)
 have f15 : DataW.trod enc Tryz.prog W base spare held n 37 [c29,c30,c31,c32] = some y15:=field_of (hf 15 _ rfl) k6 rfl e15
 obtain ⟨u15,v15,s15,t15,_,_,g15a,g15b,g15c,g15d⟩:=trod_array4 Tryz.underlying37 k1 f15
 obtain ⟨a15a,q15a,_⟩:=DataW.trod_int (k:=.i64) Tryz.underlying3 g15a
 obtain ⟨a15b,q15b,_⟩:=DataW.trod_int (k:=.i64) Tryz.underlying3 g15b
 obtain ⟨a15c,q15c,_⟩:=DataW.trod_int (k:=.i64) Tryz.underlying3 g15c
 obtain ⟨a15d,q15d,_⟩:=DataW.trod_int (k:=.i64) Tryz.underlying3 g15d
 obtain ⟨y16,e16⟩:=g 16 (by omega)
 have f16 : DataW.trod enc Tryz.prog W base spare held n 5 [c33] = some y16:=field_of (hf 16 _ rfl) k9 rfl e16
 obtain ⟨a16,q16,_,w16⟩:=DataW.trod_int (k:=.u8) Tryz.underlying5 f16
 simp only [List.cons.injEq,and_true] at q0 q1 q2 q4 q5 q6 q8 q9 q10 q11 q12 q16 q7a q7b q7c q7d q15a q15b q15c q15d qp0 qp1 qp2 qp3
 obtain ⟨rfl,rfl,rfl,rfl,rfl⟩:=q4
 obtain ⟨rfl,rfl,rfl,rfl,rfl⟩:=q5
 subst q0 q1 q2 q6 q8 q9 q10 q11 q12 q16 q7a q7b q7c q7d q15a q15b q15c q15d qp0 qp1 qp2 qp3
 exact ⟨⟨a0,a1,a2,a3,a4,a5,a6,a7a,a7b,a7c,a7d,a8,a9,a10,a11,a12,ap0,ap1,ap2,ap3,a14,a15a,a15b,a15c,a15d,a16⟩,c3,c28,rfl,⟨wf8 w8,wf8 w9,wf8 w10,wf8 w12⟩,⟨sizeOf_list z1,sizeOf_list z2,sizeOf_list z11,z3,by have:=z14;show a14.length≤_;omega⟩,q3,q14⟩
theorem node34_get (y : ND) (kv cv : Value) {W : World} {g o : Nat} (h : ∀ j,j < 34→W.cell? ⟨g,o + j,none⟩ = (node34 y kv cv)[j]?) : NodeV W g o y kv cv:=by
 constructor
 ·exact h 0 (by omega)
 ·exact h 1 (by omega)
 ·exact h 2 (by omega)
 ·exact h 3 (by omega)
 ·exact h 4 (by omega)
 ·exact h 5 (by omega)
 ·exact h 6 (by omega)
 ·exact h 7 (by omega)
 ·exact h 8 (by omega)
 ·exact h 9 (by omega)
 ·exact h 10 (by omega)
 ·exact h 11 (by omega)
 ·exact h 12 (by omega)
 ·exact h 13 (by omega)
 ·exact h 14 (by omega)
 ·exact h 15 (by omega)
 ·exact h 16 (by omega)
 ·exact h 17 (by omega)
 ·exact h 18 (by omega)
 ·exact h 19 (by omega)
 ·exact h 20 (by omega)
 ·exact h 21 (by omega)
 ·exact h 22 (by omega)
 ·exact h 23 (by omega)
 ·exact h 24 (by omega)
 ·exact h 25 (by omega)
 ·exact h 26 (by omega)
 ·exact h 27 (by omega)
 ·exact h 28 (by omega)
 ·exact h 29 (by omega)
 ·exact h 30 (by omega)
 ·exact h 31 (by omega)
 ·exact h 32 (by omega)
 ·exact h 33 (by omega)
theorem open_tree {c : Value} {x : DataW H × List MemPlace} (h : DataW.trod enc Tryz.prog W base spare held fuel 22 [c] = some x) (hs : Sm 22 x.1) :
  ∃ (ns : List ND) (p : Option Addr) (cap : Nat),c = .slice p ns.length cap∧ns.length≤4398046511104∧TreeAt W p ns∧(∀ y ∈ ns,X8 y)∧(∀ y ∈ ns,NSz y):=by
 rcases open_slice Tryz.underlying22 h with ⟨e,_⟩ | ⟨a,len,cap,m,n,D,Pl,e,_,hl,hm,hmm,hx,hc⟩
 ·obtain rfl : c = .slice none 0 0:=by simpa using e
  exact ⟨[],none,0,rfl,by simp,fun i y hi=>by simp at hi,fun y hy=>by simp at hy,fun y hy=>by simp at hy⟩
 ·obtain rfl : c = .slice (some a) len cap:=by simpa using e
  have hlm : len≤m:=by rw [hmm];split <;> omega
  rw [show Tryz.prog.cellsOf 46 = 34 by kernel_rfl] at hc
  rw [hx] at hs
  have hlen : len≤4398046511104:=by
   have:=sm_len Tryz.underlying22 hs
   rw [show Tryz.prog.bytesOf 46 = 288 by kernel_rfl] at this
   simp at this
   omega
  have hsp : 0 < len→a.spot = none:=fun h=>by
   obtain ⟨cs',h1,_⟩:=hc 0 (by omega)
   obtain ⟨_,hlen,hcell⟩:=World.cells?_some h1
   have e0:=hcell 0 (by omega)
   rw [List.getElem?_eq_getElem (by omega)] at e0
   simpa [Addr.add] using World.cell?_spot e0
  have hF : ∀ i,i < len→∃ y : ND,a.block < W.heap.size∧X8 y∧NSz y∧∃ kv cv,NodeV W a.block (a.off + i * 34) y kv cv∧SlI W kv y.kids∧SlT W cv y.cols:=fun i hi=>by
   obtain ⟨cs',h1,h2⟩:=hc i (by omega)
   obtain ⟨_,hl34,hcell⟩:=World.cells?_some h1
   have hsi : Sm 46 (D i):=sm_elem Tryz.underlying22 hs (List.mem_map.2 ⟨i,List.mem_range.2 hi,rfl⟩)
   obtain ⟨y,kv,cv,rfl,h8,hz,hk,hv⟩:=open_node h2 hsi
   have e0:=hcell 0 (by omega)
   have hs:=hsp (by omega)
   have hlt:=World.block_lt_of_cell? _ _ (show W.cell? _ = some (.int .i8 y.kd) from e0)
   obtain ⟨g,o,spot⟩:=a
   simp only at hs
   subst hs
   rw [add_nA,add_nA] at hlt
   refine ⟨y,hlt,h8,hz,kv,cv,node34_get y kv cv fun j hj=>?_,hk,hv⟩
   have:=hcell j (by omega)
   rw [add_nA,add_nA] at this
   exact this
  obtain ⟨B,hB⟩:=choose_lt (α:=ND) (p:=fun i y=>a.block < W.heap.size∧X8 y∧NSz y∧∃ kv cv,NodeV W a.block (a.off + i * 34) y kv cv∧SlI W kv y.kids∧SlT W cv y.cols) hF
  refine ⟨(List.range len).map B,some a,cap,by simp,by simpa using hlen,fun i y hi=>?_,fun y hy=>?_,fun y hy=>?_⟩
  ·have hil : i < len:=by
    rcases Nat.lt_or_ge i len with h | h
    ·exact h
    ·rw [List.getElem?_eq_none (by simpa using h)] at hi;cases hi
   simp [hil] at hi
   subst hi
   have hs:=hsp (by omega)
   obtain ⟨g,o,spot⟩:=a
   simp only at hs
   subst hs
   obtain ⟨q1,_,_,kv,cv,q2,q3,q4⟩:=hB i hil
   exact ⟨g,o,rfl,q1,kv,cv,q2,q3,q4⟩
  ·obtain ⟨i,hi,rfl⟩:=List.mem_map.1 hy
   exact (hB i (List.mem_range.1 hi)).2.1
  ·obtain ⟨i,hi,rfl⟩:=List.mem_map.1 hy
   exact (hB i (List.mem_range.1 hi)).2.2.1
def SlP2 (w : World) (v : Value) (l : List (Int × Int)) : Prop :=
 ∃ p c,v = .slice p l.length c∧l.length≤17592186044416∧∀ (i : Nat) x,l[i]? = some x→∃ g o,p = some ⟨g,o,none⟩∧g < w.heap.size∧w.cell? ⟨g,o + i * 2,none⟩ = some (.int .i64 x.1)∧w.cell? ⟨g,o + i * 2 + 1,none⟩ = some (.int .i64 x.2)∧(-9223372036854775808≤x.1∧x.1≤9223372036854775807)∧(-9223372036854775808≤x.2∧x.2≤9223372036854775807)
set_option maxRecDepth 100000 in
theorem open_pairs {c : Value} {x : DataW H × List MemPlace} (h : DataW.trod enc Tryz.prog W base spare held fuel 25 [c] = some x) (hs : Sm 25 x.1) : ∃ l,SlP2 W c l:=by
 rcases open_slice Tryz.underlying25 h with ⟨e,_⟩ | ⟨a,len,cap,m,n,D,Pl,e,_,hl,hm,hmm,hx,hc⟩
 ·obtain rfl : c = .slice none 0 0:=by simpa using e
  exact ⟨[],none,0,rfl,by simp,fun i y hi=>by simp at hi⟩
 ·obtain rfl : c = .slice (some a) len cap:=by simpa using e
  have hlm : len≤m:=by rw [hmm];split <;> omega
  rw [show Tryz.prog.cellsOf 32 = 2 by kernel_rfl] at hc
  have hlen : len≤17592186044416:=by
   rw [hx] at hs
   have:=sm_len Tryz.underlying25 hs
   rw [show Tryz.prog.bytesOf 32 = 16 by kernel_rfl] at this
   simp at this
   omega
  have hsp : 0 < len→a.spot = none:=fun h=>by
   obtain ⟨cs',h1,_⟩:=hc 0 (by omega)
   obtain ⟨_,hlen,hcell⟩:=World.cells?_some h1
   have e0:=hcell 0 (by omega)
   rw [List.getElem?_eq_getElem (by omega)] at e0
   simpa [Addr.add] using World.cell?_spot e0
  have hF : ∀ i,i < len→∃ y : Int × Int,a.block < W.heap.size∧W.cell? ⟨a.block,a.off + i * 2,none⟩ = some (.int .i64 y.1)∧W.cell? ⟨a.block,a.off + i * 2 + 1,none⟩ = some (.int .i64 y.2)∧(-9223372036854775808≤y.1∧y.1≤9223372036854775807)∧(-9223372036854775808≤y.2∧y.2≤9223372036854775807):=fun i hi=>by
   obtain ⟨cs',h1,h2⟩:=hc i (by omega)
   obtain ⟨_,hl2,hcell⟩:=World.cells?_some h1
   obtain ⟨ys,n2,_,_,_,hyl,hy⟩:=DataW.trod_array Tryz.underlying32 h2
   match cs',hl2 with
   | [c0,c1],_=>
    have k1 : Tryz.prog.cellsOf 3 = 1:=by kernel_rfl
    have g0:=hy 0 (by omega)
    have g1:=hy 1 (by omega)
    rw [k1] at g0 g1
    rw [List.getElem?_eq_getElem (by omega)] at g0 g1
    obtain ⟨u,q0,_,w0⟩:=DataW.trod_int (k:=.i64) Tryz.underlying3 g0
    obtain ⟨v,q1,_,w1⟩:=DataW.trod_int (k:=.i64) Tryz.underlying3 g1
    simp at q0 q1
    subst q0 q1
    have e0:=hcell 0 (by omega)
    have e1:=hcell 1 (by omega)
    have hs:=hsp (by omega)
    have hlt:=World.block_lt_of_cell? _ _ (show W.cell? _ = some (.int .i64 u) from e0)
    obtain ⟨g,o,spot⟩:=a
    simp only at hs
    subst hs
    rw [add_nA,add_nA] at e0 e1
    rw [add_nA,add_nA] at hlt
    exact ⟨(u,v),hlt,e0,e1,by simpa [Lit.wf,IntKind.min,IntKind.max,IntKind.signed,IntKind.bits] using w0,by simpa [Lit.wf,IntKind.min,IntKind.max,IntKind.signed,IntKind.bits] using w1⟩
  obtain ⟨B,hB⟩:=choose_lt hF
  refine ⟨(List.range len).map B,some a,cap,by simp,by simpa using hlen,fun i y hi=>?_⟩
  have hil : i < len:=by
   rcases Nat.lt_or_ge i len with h | h
   ·exact h
   ·rw [List.getElem?_eq_none (by simpa using h)] at hi;cases hi
  simp [hil] at hi
  subst hi
  have hs:=hsp (by omega)
  obtain ⟨g,o,spot⟩:=a
  simp only at hs
  subst hs
  obtain ⟨q1,q2,q3,q4,q5⟩:=hB i hil
  exact ⟨g,o,rfl,q1,q2,q3,q4,q5⟩
end
end Go.Proofs.YthhomflonpjbmaaGreatDoor
