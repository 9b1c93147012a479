import Derived.Test.YtlenbcmgjancmaaGreatDoorMn12
import Derived.Lib.SliceRun
import Derived.Lib.SlBuf
set_option linter.unusedVariables false
set_option linter.unusedSimpArgs false
namespace Go.Proofs.YtlenbcmgjancmaaGreatDoor
open Go.RowKit
theorem own_cut {w:World} {B e sz n g c k:Nat} {xs:List Value} (h:w.ownsRow B e sz (.slice (some ⟨g,0,none⟩) n c) n xs) (hk:k≤n):w.ownsRow B e sz (.slice (some ⟨g,0,none⟩) k c) k (xs.take (k*sz)):=by
 have hl:=h.1
 have hks:k*sz≤n*sz:=Nat.mul_le_mul_right _ hk
 rcases h.2 with ⟨h',_⟩|⟨g',cap',cur,h',hb,hg,h1,h2,h3,h4⟩
 ·simp at h'
 ·simp only [Value.slice.injEq,Option.some.injEq,Addr.mk.injEq,and_true,true_and] at h'
  obtain⟨rfl,rfl⟩:=h'
  refine⟨by simp;omega,.inr ⟨g,c,cur,rfl,hb,hg,by omega,h2,h3,?_⟩⟩
  rw [← h4,List.take_take,Nat.min_eq_left hks]
theorem own_setCells {B e sz g c k:Nat} {xs:List Value}:∀ (vs:List Value) (o:Nat) (w:World),k*sz≤o→w.ownsRow B e sz (.slice (some ⟨g,0,none⟩) k c) k xs→(w.setCells g o vs).ownsRow B e sz (.slice (some ⟨g,0,none⟩) k c) k xs
 | [],_,_,_,h=>h
 |v :: r,o,w,ho,h=>by
  rw [World.setCells]
  refine own_setCells r (o+1) _ (by omega) ?_
  have:=(World.ownsRow.stored h o v).1
  rwa [List.set_eq_of_length_le (by rw [h.1];exact ho)] at this
theorem zeroCells_mem (z:Array Value) (n:Nat) (hz:∀ v ∈ z.toList,v.oneCell'=true):∀ v ∈ (Builtin.zeroCells z n).toList,v.oneCell'=true:=by
 intro v hv
 simp only [Builtin.zeroCells,Array.toList_map,Array.toList_range,List.mem_map,List.mem_range] at hv
 obtain⟨i,hi,rfl⟩:=hv
 have hz0:0<z.size:=by
  rcases Nat.eq_zero_or_pos z.size with h|h
  ·rw [h] at hi;simp at hi
  ·exact h
 have:=Nat.mod_lt i hz0
 rw [getElem!_pos z _ this]
 exact hz _ (by simp)
theorem run_clear_any {P:Program} (w:World) (t e ty:TypeId) (z:Value) (ht:P.underlying t=some (.slice e)) (hv:∀ w,(zeroValue e).run P w=.ok z w) (h1:∀ v ∈ z.cells.toList,v.oneCell'=true) (b o n c:Nat) (hn:0<n)
  (hc:∀ j,j<n*z.cells.size→(w.cell? ⟨b,o+j,none⟩).isSome=true) (hf:∀ j,j<n*z.cells.size→w.frozen? ⟨b,o+j,none⟩=false) :
  (Builtin.clear_ #[t] ty #[.slice (some ⟨b,o,none⟩) n c]).run P w=.ok (.tuple #[]) (w.setCells b o (Builtin.zeroCells z.cells n).toList):=by
 have hsz:(Builtin.zeroCells z.cells n).toList.length=n*z.cells.size:=by simp [Builtin.zeroCells]
 have hst:=run_storeCells_cells (P:=P) b o (Builtin.zeroCells z.cells n).toList 0 w (by rw [hsz];simpa using hc) (by rw [hsz];simpa using hf) (zeroCells_mem _ _ h1)
 simp only [Nat.add_zero] at hst
 obtain⟨m,rfl⟩:∃ m,n=m+1:=⟨n - 1,by omega⟩
 simp [Builtin.clear_,run_underlying ht,hv,hst]
def PredR (g:Nat) (p:Nat→Bool):Prop:=∀ (x:Nat) (w:World),x<2147483648→Calls Tryz.prog g #[.int .i32 x] w (VBel (.bool (p x)) w)
def idxI {α:Type} (p:α→Bool) (l:List α):Int:=match l.findIdx? p with|some i=>i|none=>-1
theorem idxI_none {α:Type} {p:α→Bool} {l:List α} (h:∀ x ∈ l,p x=false):idxI p l = -1:=by
 unfold idxI
 rw [List.findIdx?_eq_none_iff.2 h]
theorem idxI_some {α:Type} {p:α→Bool} {l:List α} {k:Nat} {x:α} (hx:l[k]?=some x) (hp:p x=true) (h:∀ y ∈ l.take k,p y=false):idxI p l=k:=by
 unfold idxI
 obtain⟨h1,h2⟩:=List.getElem?_eq_some_iff.1 hx
 rw [List.findIdx?_eq_some_iff_getElem.2 ⟨h1,by rw [h2];exact hp,fun j hj=>?_⟩]
 have:=h (l[j]) (List.mem_take_iff_getElem.2 ⟨j,by omega,rfl⟩)
 simp [this]
set_option maxRecDepth 100000 in
set_option maxHeartbeats 1000000 in
theorem indexR_any (f:Nat) (p:Nat→Bool) (ef:∀ args w,(callFunc f args).run Tryz.prog w=.ok (.enter f args) w) (hp:PredR f p) (g o c n:Nat) (rs:List Nat) (hn:rs.length=n) (w:World) (hg:0<n→g<w.heap.size) (hR:0<n→RdR w g o rs) (A:Option Addr) (hA:0<n→A=some ⟨g,o,none⟩) (hm:n≤10000000000) (hlt:∀ x ∈ rs,x<2147483648) :
  Calls Tryz.prog 120 #[.slice A n c,.func (.func f) #[] #[]] w (VBel (.int .i64 (idxI p rs)) w):=by
 have HA:=zH hA;have HR:=zH hR;have HG:=zH hg;have HP:=zH hp;have HL:=zH hn;have HX:=zH hlt
 clear hA hR hg hp hn hlt
 go_enter Tryz.func120,Tryz.ntmps120
 go_wp2
 go_loopw [8] (fun i wr=>∃ k:Nat,i=.int .i64 k∧k≤n∧Hid (∀ y ∈ rs.take k,p y=false)∧Below w.heap.size w wr) (fun i _=>n - (intOf i).toNat)
 case atStart=>exact⟨0,rfl,by omega,by simp [Hid],Below.refl _ _⟩
 case round=>
  obtain⟨k,rfl,hk,HF,hbe⟩:=hrel
  have HBE:=zH hbe
  by_cases hlt:k<n
  ·obtain rfl:=HA.out (by omega)
   have hg:=HG.out (by omega)
   obtain⟨y,hy⟩:∃ y,rs[k]?=some y:=⟨_,List.getElem?_eq_getElem (by have:=HL.out;omega)⟩
   have hcy:wr.cell? ⟨g,o+k,none⟩=some (.int .i32 y):=((HR.out (by omega)).below hbe hg) k y hy
   have hy31:=HX.out y (List.mem_of_getElem? hy)
   have HPy:=zH (fun W=>HP.out y W hy31)
   cases hpy:p y with
   |true=>
    have HE:Hid (idxI p rs=k):=zH (idxI_some hy hpy HF.out)
    have HV:Hid (∀ W,Calls Tryz.prog f #[.int .i32 y] W (VBel (.bool true) W)):=zH (by rw [← hpy];exact HPy.out)
    clear hbe hpy hy
    go_wp2_with ((with_reducible refine(HV.out _).mono ?_);rintro e w1 ⟨rfl,hb1⟩)
    go_ret
    exact⟨by rw [HE.out];rfl,HBE.out.trans (hb1.mono HBE.out.size)⟩
   |false=>
    have HE:Hid (∀ y ∈ rs.take (k+1),p y=false):=zH (by
     obtain⟨h1,h2⟩:=List.getElem?_eq_some_iff.1 hy
     rw [List.take_succ_eq_append_getElem h1,h2]
     intro x hx
     rcases List.mem_append.1 hx with hx|hx
     ·exact HF.out x hx
     ·simp at hx;subst hx;exact hpy)
    have HV:Hid (∀ W,Calls Tryz.prog f #[.int .i32 y] W (VBel (.bool false) W)):=zH (by rw [← hpy];exact HPy.out)
    clear hbe hpy hy
    go_wp2_with ((with_reducible refine(HV.out _).mono ?_);rintro e w1 ⟨rfl,hb1⟩)
    go_roundw
    case rel=>exact⟨k+1,by go_num,by omega,HE.out,HBE.out.trans (hb1.mono HBE.out.size)⟩
    case measure=>simp [intOf];omega
  ·obtain rfl:k=n:=by omega
   have HE:Hid (idxI p rs = -1):=zH (idxI_none (by have:=HF.out;rwa [List.take_of_length_le (by rw [HL.out];exact Nat.le_refl _)] at this))
   clear hbe
   go_wp2
   go_ret
   exact⟨by rw [HE.out];rfl,HBE.out⟩
end Go.Proofs.YtlenbcmgjancmaaGreatDoor
namespace Go.Proofs.YtlenbcmgjancmaaGreatDoor
open Go.RowKit
def DelPost (B e sz n:Nat) (xs:List Value) (w:World) (r:Ending) (w':World):Prop:=∃ v,r=.returned v∧w'.ownsRow B e sz v n xs∧Below B w w'
theorem filter_take_succ {α:Type} {p:α→Bool} {l:List α} {j:Nat} {x:α} (h:l[j]?=some x):(l.take (j+1)).filter p=(l.take j).filter p ++ (if p x then [x] else []):=by
 obtain⟨h1,h2⟩:=List.getElem?_eq_some_iff.1 h
 rw [List.take_succ_eq_append_getElem h1,List.filter_append,h2]
 by_cases hp:p x=true<;>simp [List.filter,hp]
theorem zeroV_rune:∀ w,(zeroValue 21).run Tryz.prog w=.ok (.int .i32 0) w:=fun _=>by kernel_rfl
set_option maxRecDepth 100000 in
set_option maxHeartbeats 1000000 in
theorem delR_any (f:Nat) (p:Nat→Bool) (ef:∀ args w,(callFunc f args).run Tryz.prog w=.ok (.enter f args) w) (hp:PredR f p) (B:Nat) (v:Value) (n:Nat) (rs:List Nat) (hn:rs.length=n) (w:World) (hB:B≤w.heap.size) (hrow:w.ownsRow B 21 1 v n (rv rs)) (hm:n≤10000000000) (hlt:∀ x ∈ rs,x<2147483648) :
  Calls Tryz.prog 83 #[v,.func (.func f) #[] #[]] w (DelPost B 21 1 (rs.filter (fun x=>!p x)).length (rv (rs.filter (fun x=>!p x))) w):=by
 have HROW:=zH hrow
 obtain⟨A,c,rfl,hc1,hc2,hA⟩:=slice_form hrow
 have HI:Hid (∀ W,W=w→Calls Tryz.prog 120 #[.slice A n c,.func (.func f) #[] #[]] W (VBel (.int .i64 (idxI p rs)) W)):=zH (by
  rintro W rfl
  by_cases h0:0<n
  ·obtain⟨g,hg1,hg2,hg3,hg4⟩:=hA h0
   exact indexR_any f p ef hp g 0 c n rs hn W (fun _=>hg3) (fun _ i r hr=>hg4 i _ (by simp [rv,hr])) A (fun _=>hg1) hm hlt
  ·exact indexR_any f p ef hp 0 0 c n rs hn W (fun h=>absurd h h0) (fun h=>absurd h h0) A (fun h=>absurd h h0) hm hlt)
 have HP:=zH hp;have HL:=zH hn;have HX:=zH hlt;have HA:=zH hA
 clear hrow hp hn hlt hA
 by_cases hall:∀ x ∈ rs,p x=false
 ·have HF:Hid (rs.filter (fun x=>!p x)=rs):=zH (List.filter_eq_self.2 fun x hx=>by rw [hall x hx];rfl)
  have hix:=idxI_none hall
  have HV:Hid (Calls Tryz.prog 120 #[.slice A n c,.func (.func f) #[] #[]] w (VBel (.int .i64 (-1)) w)):=zH (by rw [← hix];exact HI.out w rfl)
  clear hall hix
  go_enter Tryz.func83,Tryz.ntmps83
  go_wp2_with (go_at_call 120;((with_reducible refine HV.out.mono ?_);rintro e w1 ⟨rfl,hb1⟩))
  go_ret
  refine⟨_,rfl,?_,hb1.mono hB⟩
  rw [HF.out,HL.out]
  exact orow_belowSize HROW.out hb1
 ·obtain⟨i,hfi⟩:∃ i,rs.findIdx? p=some i:=by
   cases h:rs.findIdx? p with
   |some i=>exact⟨i,rfl⟩
   |none=>exact absurd (List.findIdx?_eq_none_iff.1 h) hall
  have hix:idxI p rs=(i:Int):=by unfold idxI;rw [hfi]
  obtain⟨hi,hpi,hbefore⟩:=List.findIdx?_eq_some_iff_getElem.1 hfi
  have HV:Hid (Calls Tryz.prog 120 #[.slice A n c,.func (.func f) #[] #[]] w (VBel (.int .i64 (i:Int)) w)):=zH (by rw [← hix];exact HI.out w rfl)
  have hin:i<n:=by rw [← HL.out];exact hi
  have HST:Hid (rs.take i=(rs.take (i+1)).filter (fun x=>!p x)):=zH (by
   have he:(rs.take i).filter (fun x=>!p x)=rs.take i:=List.filter_eq_self.2 fun x hx=>by
    obtain⟨j,hj,rfl⟩:=List.mem_take_iff_getElem.1 hx
    have:=hbefore j (by omega)
    simpa using this
   rw [List.take_succ_eq_append_getElem hi,List.filter_append,he]
   simp [hpi])
  obtain⟨g,rfl,hgB,hgw,_⟩:=HA.out (by omega)
  have hi1:((i:Int) == -1)=false:=by simp
  clear hall hix hpi hbefore hfi hi
  go_enter Tryz.func83,Tryz.ntmps83
  go_wp2_with (go_at_call 120;((with_reducible refine HV.out.mono ?_);rintro e w1 ⟨rfl,hb1⟩))
  go_loopw [5,6] (fun a b wr=>∃ (k j:Nat) (zs:List Nat),a=.int .i64 k∧b=.int .i64 j∧k<j∧j≤n∧Hid (wr.ownsRow B 21 1 (.slice (some ⟨g,0,none⟩) n c) n (rv zs))∧Hid (zs.length=n∧zs.take k=(rs.take j).filter (fun x=>!p x)∧zs.drop j=rs.drop j)∧Hid (Below B w wr)) (fun _ b _=>n - (intOf b).toNat)
  case atStart=>exact⟨i,i+1,rs,rfl,by go_num,by omega,by omega,orow_belowSize HROW.out hb1,⟨HL.out,HST.out,rfl⟩,hb1.mono hB⟩
  case round=>
   obtain⟨k,j,zs,rfl,rfl,hkj,hjn,HR,HZ,HBE⟩:=hrel
   clear hb1
   by_cases hlt:j<n
   ·obtain⟨y,hy⟩:∃ y,rs[j]?=some y:=⟨_,List.getElem?_eq_getElem (by have:=HL.out;omega)⟩
    have hzy:zs[j]?=some y:=by
     have h1:(zs.drop j)[0]?=(rs.drop j)[0]?:=by rw [HZ.out.2.2]
     rw [List.getElem?_drop,List.getElem?_drop] at h1
     exact h1.trans hy
    have hcy:wr.cell? ⟨g,j,none⟩=some (.int .i32 y):=by
     have:=HR.out.cellAt j (by simpa using hlt)
     rw [this];simp [rv,hzy]
    have hy31:=HX.out y (List.mem_of_getElem? hy)
    have HPy:=zH (fun W=>HP.out y W hy31)
    have HS:=filter_take_succ (p:=fun x=>!p x) hy
    have HDR:Hid (zs.drop (j+1)=rs.drop (j+1)):=zH (by rw [← List.drop_drop,HZ.out.2.2,List.drop_drop])
    cases hpy:p y with
    |true=>
     have HN:Hid (zs.length=n∧zs.take k=(rs.take (j+1)).filter (fun x=>!p x)∧zs.drop (j+1)=rs.drop (j+1)):=zH ⟨HZ.out.1,by rw [HS,hpy,HZ.out.2.1];simp,HDR.out⟩
     have HVp:Hid (∀ W,Calls Tryz.prog f #[.int .i32 y] W (VBel (.bool true) W)):=zH (by rw [← hpy];exact HPy.out)
     clear hpy hy hzy HS
     go_wp2_with ((with_reducible refine(HVp.out _).mono ?_);rintro e w1' ⟨rfl,hb2⟩)
     go_roundw
     case rel=>exact⟨k,j+1,zs,rfl,by go_num,by omega,by omega,orow_belowSize HR.out hb2,HN,HBE.out.trans (hb2.mono (Nat.le_trans hB HBE.out.size))⟩
     case measure=>simp [intOf];omega
    |false=>
     have hkz:k<zs.length:=by rw [HZ.out.1];omega
     have HN:Hid ((zs.set k y).length=n∧(zs.set k y).take (k+1)=(rs.take (j+1)).filter (fun x=>!p x)∧(zs.set k y).drop (j+1)=rs.drop (j+1)):=zH ⟨by simp [HZ.out.1],by
      rw [HS,hpy,List.take_succ_eq_append_getElem (by simpa using hkz),List.take_set_of_le (Nat.le_refl _),HZ.out.2.1];simp,by rw [List.drop_set_of_lt (by omega)];exact HDR.out⟩
     have HVp:Hid (∀ W,Calls Tryz.prog f #[.int .i32 y] W (VBel (.bool false) W)):=zH (by rw [← hpy];exact HPy.out)
     have hck:∃ u,zs[k]?=some u:=⟨_,List.getElem?_eq_getElem hkz⟩
     obtain⟨u,hu⟩:=hck
     clear hpy hy hzy HS hkz
     go_wp2_with ((with_reducible refine(HVp.out _).mono ?_);rintro e w1' ⟨rfl,hb2⟩;have hR2:=orow_belowSize HR.out hb2;have hcu:w1'.cell? ⟨g,k,none⟩=some (.int .i32 u):=(by rw [hR2.cellAt k (by simp;omega)];simp [rv,hu]);have hfu:=hR2.frozenAt k;have HR2:=zH hR2;clear hR2)
     go_roundw
     case rel=>
      refine⟨k+1,j+1,zs.set k y,by go_num,by go_num,by omega,by omega,?_,HN,?_⟩
      ·have:=(HR2.out.stored k (.int .i32 y)).1
       have e:(rv zs).set k (.int .i32 y)=rv (zs.set k y):=by simp [rv,List.map_set]
       rw [e] at this
       exact this
      ·exact(HBE.out.trans (hb2.mono (Nat.le_trans hB HBE.out.size))).setCell (p:=⟨g,k,none⟩) hgB _
     case measure=>simp [intOf];omega
   ·obtain rfl:j=n:=by omega
    have HF:Hid (rs.filter (fun x=>!p x)=zs.take k):=zH (by rw [HZ.out.2.1,List.take_of_length_le (by rw [HL.out];exact Nat.le_refl _)])
    have hclr:=run_clear_any (P:=Tryz.prog) wr 116 21 0 (.int .i32 0) Tryz.underlying116 zeroV_rune (by intro v hv;simp [Value.cells] at hv;subst hv;rfl) g k (j - k) (c - k) (by omega)
     (fun i hi=>by rw [HR.out.cellAt (k+i) (by simp [Value.cells] at hi;omega)];simp [rv];have:=HZ.out.1;simp [Value.cells] at hi;omega) (fun i hi=>HR.out.frozenAt (k+i))
    have hck:¬ c=k:=by omega
    go_wp2
    go_ret
    refine⟨_,rfl,?_,Lib.below_setCells g hgB _ _ HBE.out⟩
    have h1:=own_cut HR.out (k:=k) (by omega)
    rw [Nat.mul_one] at h1
    have h2:=own_setCells (Builtin.zeroCells (Value.int .i32 0).cells (j - k)).toList k wr (by omega) h1
    have e:(rv zs).take k=rv (zs.take k):=by simp [rv,List.map_take]
    have el:(zs.take k).length=k:=by rw [List.length_take,HZ.out.1];omega
    rw [HF.out,el,← e]
    exact h2
end Go.Proofs.YtlenbcmgjancmaaGreatDoor
namespace Go.Proofs.YtlenbcmgjancmaaGreatDoor
open Go.RowKit
def okC (c:Cl):Prop:=c.2≤2∧∀ x ∈ c.1,x<256
def PredC (g:Nat) (p:Cl→Bool):Prop:=∀ (c:Cl) (w:World),okC c→Calls Tryz.prog g #[.agg #[.string (mkS c.1),.int .i64 c.2]] w (VBel (.bool (p c)) w)
theorem cv_get (l:List Cl) (i:Nat) (c:Cl) (h:l[i]?=some c):(cv l)[i*2]?=some (.string (mkS c.1))∧(cv l)[i*2+1]?=some (.int .i64 c.2):=by
 induction l generalizing i with
 |nil=>simp at h
 |cons q l ih=>
  cases i with
  |zero=>simp at h;subst h;exact⟨rfl,rfl⟩
  |succ i=>
   have:=ih i (by simpa using h)
   rw [show (i+1)*2=i*2+1+1 by omega];exact this
theorem cv_set (l:List Cl) (k:Nat) (y:Cl) (hk:k<l.length):((cv l).set (k*2) (.string (mkS y.1))).set (k*2+1) (.int .i64 y.2)=cv (l.set k y):=by
 induction l generalizing k with
 |nil=>simp at hk
 |cons q l ih=>
  cases k with
  |zero=>rfl
  |succ k=>
   have:=ih k (by simpa using hk)
   rw [show (k+1)*2=k*2+1+1 by omega]
   simp only [cv,List.flatMap_cons,List.set_cons_succ] at this ⊢
   simp only [List.cons_append,List.nil_append,List.set_cons_succ]
   rw [this]
theorem cv_take (l:List Cl) (k:Nat):(cv l).take (k*2)=cv (l.take k):=by
 induction l generalizing k with
 |nil=>simp [cv]
 |cons q l ih=>
  cases k with
  |zero=>simp [cv]
  |succ k=>
   have:=ih k
   rw [show (k+1)*2=k*2+1+1 by omega]
   simp only [cv,List.flatMap_cons,List.take_succ_cons] at this ⊢
   simp only [List.cons_append,List.nil_append,List.take_succ_cons]
   rw [this]
theorem slice_form2 {w:World} {B e sz n:Nat} {v:Value} {xs:List Value} (h:w.ownsRow B e sz v n xs):∃ A c,v=.slice A n c∧n≤c∧c≤maxLen∧(0<n→∃ g,A=some ⟨g,0,none⟩∧B≤g∧g<w.heap.size∧∀ j u,xs[j]?=some u→w.cell? ⟨g,j,none⟩=some u):=by
 rcases h.2 with ⟨rfl,rfl⟩|⟨g,cap,cur,rfl,hb,hg,h1,h2,_⟩
 ·exact⟨none,0,rfl,Nat.le_refl _,Nat.zero_le _,fun h=>absurd h (Nat.lt_irrefl 0)⟩
 ·refine⟨_,cap,rfl,h1,h2,fun _=>⟨g,rfl,hb,(Array.getElem?_eq_some_iff.1 hg).1,fun j u hj=>?_⟩⟩
  have:=h.cells (g:=g) rfl j u hj
  rwa [show (⟨g,0,none⟩:Addr).add j=⟨g,j,none⟩ by simp [Addr.add]<;>omega] at this
theorem zeroV_cl:∀ w,(zeroValue 78).run Tryz.prog w=.ok (.agg #[.string ByteArray.empty,.int .i64 0]) w:=fun _=>by kernel_rfl
set_option maxRecDepth 100000 in
set_option maxHeartbeats 1000000 in
theorem indexC_any (f:Nat) (p:Cl→Bool) (ef:∀ args w,(callFunc f args).run Tryz.prog w=.ok (.enter f args) w) (hp:PredC f p) (g o c n:Nat) (rs:List Cl) (hn:rs.length=n) (w:World) (hg:0<n→g<w.heap.size) (hR:0<n→RdC w g o rs) (A:Option Addr) (hA:0<n→A=some ⟨g,o,none⟩) (hm:n≤10000000000) (hlt:∀ x ∈ rs,okC x) :
  Calls Tryz.prog 125 #[.slice A n c,.func (.func f) #[] #[]] w (VBel (.int .i64 (idxI p rs)) w):=by
 have HA:=zH hA;have HR:=zH hR;have HG:=zH hg;have HP:=zH hp;have HL:=zH hn;have HX:=zH hlt
 clear hA hR hg hp hn hlt
 go_enter Tryz.func125,Tryz.ntmps125
 go_wp2
 go_loopw [8] (fun i wr=>∃ k:Nat,i=.int .i64 k∧k≤n∧Hid (∀ y ∈ rs.take k,p y=false)∧Below w.heap.size w wr) (fun i _=>n - (intOf i).toNat)
 case atStart=>exact⟨0,rfl,by omega,by simp [Hid],Below.refl _ _⟩
 case round=>
  obtain⟨k,rfl,hk,HF,hbe⟩:=hrel
  have HBE:=zH hbe
  by_cases hlt:k<n
  ·obtain rfl:=HA.out (by omega)
   have hg:=HG.out (by omega)
   obtain⟨y,hy⟩:∃ y,rs[k]?=some y:=⟨_,List.getElem?_eq_getElem (by have:=HL.out;omega)⟩
   have hcy0:=(((HR.out (by omega)).below hbe hg) k y hy).1
   have hcy1:=(((HR.out (by omega)).below hbe hg) k y hy).2
   have hy31:=HX.out y (List.mem_of_getElem? hy)
   have HPy:=zH (fun W=>HP.out y W hy31)
   cases hpy:p y with
   |true=>
    have HE:Hid (idxI p rs=k):=zH (idxI_some hy hpy HF.out)
    have HV:Hid (∀ W,Calls Tryz.prog f #[.agg #[.string (mkS y.1),.int .i64 y.2]] W (VBel (.bool true) W)):=zH (by rw [← hpy];exact HPy.out)
    clear hbe hpy hy
    go_wp2_with ((with_reducible refine(HV.out _).mono ?_);rintro e w1 ⟨rfl,hb1⟩)
    go_ret
    exact⟨by rw [HE.out];rfl,HBE.out.trans (hb1.mono HBE.out.size)⟩
   |false=>
    have HE:Hid (∀ y ∈ rs.take (k+1),p y=false):=zH (by
     obtain⟨h1,h2⟩:=List.getElem?_eq_some_iff.1 hy
     rw [List.take_succ_eq_append_getElem h1,h2]
     intro x hx
     rcases List.mem_append.1 hx with hx|hx
     ·exact HF.out x hx
     ·simp at hx;subst hx;exact hpy)
    have HV:Hid (∀ W,Calls Tryz.prog f #[.agg #[.string (mkS y.1),.int .i64 y.2]] W (VBel (.bool false) W)):=zH (by rw [← hpy];exact HPy.out)
    clear hbe hpy hy
    go_wp2_with ((with_reducible refine(HV.out _).mono ?_);rintro e w1 ⟨rfl,hb1⟩)
    go_roundw
    case rel=>exact⟨k+1,by go_num,by omega,HE.out,HBE.out.trans (hb1.mono HBE.out.size)⟩
    case measure=>simp [intOf];omega
  ·obtain rfl:k=n:=by omega
   have HE:Hid (idxI p rs = -1):=zH (idxI_none (by have:=HF.out;rwa [List.take_of_length_le (by rw [HL.out];exact Nat.le_refl _)] at this))
   clear hbe
   go_wp2
   go_ret
   exact⟨by rw [HE.out];rfl,HBE.out⟩
set_option maxRecDepth 100000 in
set_option maxHeartbeats 1000000 in
theorem delC_any (f:Nat) (p:Cl→Bool) (ef:∀ args w,(callFunc f args).run Tryz.prog w=.ok (.enter f args) w) (hp:PredC f p) (B:Nat) (v:Value) (n:Nat) (rs:List Cl) (hn:rs.length=n) (w:World) (hB:B≤w.heap.size) (hrow:w.ownsRow B 78 2 v n (cv rs)) (hm:n≤10000000000) (hlt:∀ x ∈ rs,okC x) :
  Calls Tryz.prog 88 #[v,.func (.func f) #[] #[]] w (DelPost B 78 2 (rs.filter (fun x=>!p x)).length (cv (rs.filter (fun x=>!p x))) w):=by
 have HROW:=zH hrow
 obtain⟨A,c,rfl,hc1,hc2,hA⟩:=slice_form2 hrow
 have HI:Hid (∀ W,W=w→Calls Tryz.prog 125 #[.slice A n c,.func (.func f) #[] #[]] W (VBel (.int .i64 (idxI p rs)) W)):=zH (by
  rintro W rfl
  by_cases h0:0<n
  ·obtain⟨g,hg1,hg2,hg3,hg4⟩:=hA h0
   exact indexC_any f p ef hp g 0 c n rs hn W (fun _=>hg3) (fun _ i r hr=>⟨by rw [Nat.zero_add];exact hg4 (i*2) _ (cv_get rs i r hr).1,by rw [Nat.zero_add];exact hg4 (i*2+1) _ (cv_get rs i r hr).2⟩) A (fun _=>hg1) hm hlt
  ·exact indexC_any f p ef hp 0 0 c n rs hn W (fun h=>absurd h h0) (fun h=>absurd h h0) A (fun h=>absurd h h0) hm hlt)
 have HP:=zH hp;have HL:=zH hn;have HX:=zH hlt;have HA:=zH hA
 clear hrow hp hn hlt hA
 by_cases hall:∀ x ∈ rs,p x=false
 ·have HF:Hid (rs.filter (fun x=>!p x)=rs):=zH (List.filter_eq_self.2 fun x hx=>by rw [hall x hx];rfl)
  have hix:=idxI_none hall
  have HV:Hid (Calls Tryz.prog 125 #[.slice A n c,.func (.func f) #[] #[]] w (VBel (.int .i64 (-1)) w)):=zH (by rw [← hix];exact HI.out w rfl)
  clear hall hix
  go_enter Tryz.func88,Tryz.ntmps88
  go_wp2_with (go_at_call 125;((with_reducible refine HV.out.mono ?_);rintro e w1 ⟨rfl,hb1⟩))
  go_ret
  refine⟨_,rfl,?_,hb1.mono hB⟩
  rw [HF.out,HL.out]
  exact orow_belowSize HROW.out hb1
 ·obtain⟨i,hfi⟩:∃ i,rs.findIdx? p=some i:=by
   cases h:rs.findIdx? p with
   |some i=>exact⟨i,rfl⟩
   |none=>exact absurd (List.findIdx?_eq_none_iff.1 h) hall
  have hix:idxI p rs=(i:Int):=by unfold idxI;rw [hfi]
  obtain⟨hi,hpi,hbefore⟩:=List.findIdx?_eq_some_iff_getElem.1 hfi
  have HV:Hid (Calls Tryz.prog 125 #[.slice A n c,.func (.func f) #[] #[]] w (VBel (.int .i64 (i:Int)) w)):=zH (by rw [← hix];exact HI.out w rfl)
  have hin:i<n:=by rw [← HL.out];exact hi
  have HST:Hid (rs.take i=(rs.take (i+1)).filter (fun x=>!p x)):=zH (by
   have he:(rs.take i).filter (fun x=>!p x)=rs.take i:=List.filter_eq_self.2 fun x hx=>by
    obtain⟨j,hj,rfl⟩:=List.mem_take_iff_getElem.1 hx
    have:=hbefore j (by omega)
    simpa using this
   rw [List.take_succ_eq_append_getElem hi,List.filter_append,he]
   simp [hpi])
  obtain⟨g,rfl,hgB,hgw,_⟩:=HA.out (by omega)
  have hi1:((i:Int) == -1)=false:=by simp
  clear hall hix hpi hbefore hfi hi
  go_enter Tryz.func88,Tryz.ntmps88
  go_wp2_with (go_at_call 125;((with_reducible refine HV.out.mono ?_);rintro e w1 ⟨rfl,hb1⟩))
  go_loopw [5,6] (fun a b wr=>∃ (k j:Nat) (zs:List Cl),a=.int .i64 k∧b=.int .i64 j∧k<j∧j≤n∧Hid (wr.ownsRow B 78 2 (.slice (some ⟨g,0,none⟩) n c) n (cv zs))∧Hid (zs.length=n∧zs.take k=(rs.take j).filter (fun x=>!p x)∧zs.drop j=rs.drop j)∧Hid (Below B w wr)) (fun _ b _=>n - (intOf b).toNat)
  case atStart=>exact⟨i,i+1,rs,rfl,by go_num,by omega,by omega,orow_belowSize HROW.out hb1,⟨HL.out,HST.out,rfl⟩,hb1.mono hB⟩
  case round=>
   obtain⟨k,j,zs,rfl,rfl,hkj,hjn,HR,HZ,HBE⟩:=hrel
   clear hb1
   by_cases hlt:j<n
   ·obtain⟨y,hy⟩:∃ y,rs[j]?=some y:=⟨_,List.getElem?_eq_getElem (by have:=HL.out;omega)⟩
    have hzy:zs[j]?=some y:=by
     have h1:(zs.drop j)[0]?=(rs.drop j)[0]?:=by rw [HZ.out.2.2]
     rw [List.getElem?_drop,List.getElem?_drop] at h1
     exact h1.trans hy
    have hcy0:wr.cell? ⟨g,j*2,none⟩=some (.string (mkS y.1)):=by
     rw [HR.out.cellAt (j*2) (by omega)];exact(cv_get zs j y hzy).1
    have hcy1:wr.cell? ⟨g,j*2+1,none⟩=some (.int .i64 y.2):=by
     rw [HR.out.cellAt (j*2+1) (by omega)];exact(cv_get zs j y hzy).2
    have hsz:=(World.ownsRow.lt HR.out g rfl).2
    have hy31:=HX.out y (List.mem_of_getElem? hy)
    have HPy:=zH (fun W=>HP.out y W hy31)
    have HS:=filter_take_succ (p:=fun x=>!p x) hy
    have HDR:Hid (zs.drop (j+1)=rs.drop (j+1)):=zH (by rw [← List.drop_drop,HZ.out.2.2,List.drop_drop])
    cases hpy:p y with
    |true=>
     have HN:Hid (zs.length=n∧zs.take k=(rs.take (j+1)).filter (fun x=>!p x)∧zs.drop (j+1)=rs.drop (j+1)):=zH ⟨HZ.out.1,by rw [HS,hpy,HZ.out.2.1];simp,HDR.out⟩
     have HVp:Hid (∀ W,Calls Tryz.prog f #[.agg #[.string (mkS y.1),.int .i64 y.2]] W (VBel (.bool true) W)):=zH (by rw [← hpy];exact HPy.out)
     clear hpy hy hzy HS
     go_wp2_with ((with_reducible refine(HVp.out _).mono ?_);rintro e w1' ⟨rfl,hb2⟩)
     go_roundw
     case rel=>exact⟨k,j+1,zs,rfl,by go_num,by omega,by omega,orow_belowSize (HR.out.alloc _) hb2,HN,HBE.out.trans (((Below.refl _ wr).alloc (Nat.le_refl _) _ |>.trans (hb2.mono (by simp))).mono (Nat.le_trans hB HBE.out.size))⟩
     case measure=>simp [intOf];omega
    |false=>
     have hkz:k<zs.length:=by rw [HZ.out.1];omega
     have HN:Hid ((zs.set k y).length=n∧(zs.set k y).take (k+1)=(rs.take (j+1)).filter (fun x=>!p x)∧(zs.set k y).drop (j+1)=rs.drop (j+1)):=zH ⟨by simp [HZ.out.1],by
      rw [HS,hpy,List.take_succ_eq_append_getElem (by simpa using hkz),List.take_set_of_le (Nat.le_refl _),HZ.out.2.1];simp,by rw [List.drop_set_of_lt (by omega)];exact HDR.out⟩
     have HVp:Hid (∀ W,Calls Tryz.prog f #[.agg #[.string (mkS y.1),.int .i64 y.2]] W (VBel (.bool false) W)):=zH (by rw [← hpy];exact HPy.out)
     have hck:∃ u,zs[k]?=some u:=⟨_,List.getElem?_eq_getElem hkz⟩
     obtain⟨u,hu⟩:=hck
     have HKZ:=zH hkz
     have hcw0:wr.cell? ⟨g,k*2,none⟩=some (.string (mkS u.1)):=by rw [HR.out.cellAt (k*2) (by omega)];exact(cv_get zs k u hu).1
     have hcw1:wr.cell? ⟨g,k*2+1,none⟩=some (.int .i64 u.2):=by rw [HR.out.cellAt (k*2+1) (by omega)];exact(cv_get zs k u hu).2
     have hfw0:=HR.out.frozenAt (k*2)
     have hfw1:=HR.out.frozenAt (k*2+1)
     have hne1:¬ k*2=k*2+1:=by omega
     have hne2:¬ k*2+1=k*2:=by omega
     clear hpy hy hzy HS hkz
     go_wp2_with ((with_reducible refine(HVp.out _).mono ?_);rintro e w1' ⟨rfl,hb2⟩;obtain⟨hc9,hf9⟩:=bcell hb2;have hR2:=orow_belowSize (HR.out.alloc _) hb2;have HR2:=zH hR2;clear hR2)
     go_roundw
     case rel=>
      refine⟨k+1,j+1,zs.set k y,by go_num,by go_num,by omega,by omega,?_,HN,?_⟩
      ·have:=((HR2.out.stored (k*2) (.string (mkS y.1))).1.stored (k*2+1) (.int .i64 y.2)).1
       rw [cv_set zs k y HKZ.out] at this
       exact this
      ·exact((HBE.out.trans (((Below.refl _ wr).alloc (Nat.le_refl _) _ |>.trans (hb2.mono (by simp))).mono (Nat.le_trans hB HBE.out.size))).setCell (p:=⟨g,k*2,none⟩) hgB _).setCell (p:=⟨g,k*2+1,none⟩) hgB _
     case measure=>simp [intOf];omega
   ·obtain rfl:j=n:=by omega
    have HF:Hid (rs.filter (fun x=>!p x)=zs.take k):=zH (by rw [HZ.out.2.1,List.take_of_length_le (by rw [HL.out];exact Nat.le_refl _)])
    have hz2:(Value.agg #[.string ByteArray.empty,.int .i64 0]).cells.size=2:=rfl
    have hclr:=run_clear_any (P:=Tryz.prog) wr 75 78 0 (.agg #[.string ByteArray.empty,.int .i64 0]) Tryz.underlying75 zeroV_cl (by intro v hv;simp [Value.cells] at hv;rcases hv with rfl|rfl<;>rfl) g (k*2) (j - k) (c - k) (by omega)
     (fun i hi=>by rw [hz2] at hi;rw [HR.out.cellAt (k*2+i) (by omega),List.getElem?_eq_getElem (by have:=cv_len zs;have:=HZ.out.1;omega)];rfl) (fun i hi=>HR.out.frozenAt (k*2+i))
    have hck:¬ c=k:=by omega
    go_wp2
    go_ret
    refine⟨_,rfl,?_,Lib.below_setCells g hgB _ _ HBE.out⟩
    have h1:=own_cut HR.out (k:=k) (by omega)
    have h2:=own_setCells (Builtin.zeroCells (Value.agg #[.string ByteArray.empty,.int .i64 0]).cells (j - k)).toList (k*2) wr (Nat.le_refl _) h1
    have e:=cv_take zs k
    have el:(zs.take k).length=k:=by rw [List.length_take,HZ.out.1];omega
    rw [HF.out,el,← e]
    exact h2
end Go.Proofs.YtlenbcmgjancmaaGreatDoor
namespace Go.Proofs.YtlenbcmgjancmaaGreatDoor
open Go.RowKit
/-! ## plain: sizes -/
theorem contS_lt (k i lo hi r:Nat) (l:List UInt8) (h:(r+1)*64 ^ k≤2097152):(contS k i lo hi r l).1<2097152:=by
 induction k generalizing i lo hi r l with
 |zero=>simp [contS] at h ⊢;omega
 |succ k ih=>
  cases l with
  |nil=>simp [contS]
  |cons c cs=>
   simp only [contS]
   split
   ·simp
   ·refine ih _ _ _ _ _ (Nat.le_trans ?_ h)
    rw [Nat.pow_succ,Nat.mul_comm (64 ^ k) 64,← Nat.mul_assoc]
    exact Nat.mul_le_mul_right _ (by omega)
theorem firstS_lt (l:List UInt8):(firstS l).1<2097152:=by
 cases l with
 |nil=>simp [firstS]
 |cons b cs=>
  have hb:=b.toNat_lt
  simp only [firstS]
  split
  ·simp
  ·split
   ·simp only;omega
   ·refine contS_lt _ _ _ _ _ _ ?_
    have h1:(leadS b.toNat).1=0∨(leadS b.toNat).1=1∨(leadS b.toNat).1=2∨(leadS b.toNat).1=3∨(leadS b.toNat).1=4:=by
     unfold leadS
     repeat' split
     all_goals simp
    rcases h1 with h|h|h|h|h
    ·contradiction
    ·contradiction
    ·rw [h];simp [maskS];omega
    ·rw [h];simp [maskS];omega
    ·rw [h];simp [maskS];omega
theorem runesS_len (l:List UInt8):(runesS l).length≤l.length:=by
 generalize hn:l.length=n
 induction n using Nat.strongRecOn generalizing l with
 |ind n ih=>
  cases l with
  |nil=>simp [runesS]
  |cons b cs=>
   rw [runesS]
   have h:=firstS_size b cs
   have:=ih _ (by simp only [List.length_drop];omega) ((b :: cs).drop (firstS (b :: cs)).2.1) rfl
   simp only [List.length_drop,List.length_cons] at this h hn ⊢
   omega
theorem runesS_lt (l:List UInt8):∀ x ∈ runesS l,x<2097152:=by
 generalize hn:l.length=n
 induction n using Nat.strongRecOn generalizing l with
 |ind n ih=>
  cases l with
  |nil=>simp [runesS]
  |cons b cs=>
   rw [runesS]
   intro x hx
   rcases List.mem_cons.1 hx with rfl|hx
   ·exact firstS_lt _
   ·have h:=firstS_size b cs
    exact ih _ (by simp only [List.length_drop,List.length_cons] at h hn ⊢;omega) ((b :: cs).drop (firstS (b :: cs)).2.1) rfl x hx
theorem ofS_le (r:Int):ofS r≤2:=by
 unfold ofS
 simp only
 repeat' split
 all_goals omega
theorem lengthS_two (l:List Nat):(lengthS l).2≤2:=by
 cases l with
 |nil=>simp [lengthS]
 |cons r rs=>
  have h:=ofS_le r
  simp only [lengthS]
  split
  ·simp
  ·cases rs with
   |nil=>simpa using h
   |cons x xs=>
    simp only
    repeat' split
    all_goals omega
theorem clustersS_ok (l:List Nat):∀ c ∈ clustersS l,okC c:=by
 generalize hn:l.length=n
 induction n using Nat.strongRecOn generalizing l with
 |ind n ih=>
  cases l with
  |nil=>simp [clustersS]
  |cons r rs=>
   rw [clustersS_cons]
   intro c hc
   rcases List.mem_cons.1 hc with rfl|hc
   ·exact⟨lengthS_two _,textS_lt _⟩
   ·have h:=lengthS_size r rs
    exact ih _ (by simp only [List.length_drop,List.length_cons] at h hn ⊢;omega) ((r :: rs).drop (lengthS (r :: rs)).1) rfl c hc
theorem clustersS_len (l:List Nat):(clustersS l).length≤l.length:=by
 generalize hn:l.length=n
 induction n using Nat.strongRecOn generalizing l with
 |ind n ih=>
  cases l with
  |nil=>simp [clustersS]
  |cons r rs=>
   rw [clustersS_cons]
   have h:=lengthS_size r rs
   have:=ih _ (by simp only [List.length_drop,List.length_cons] at h hn ⊢;omega) ((r :: rs).drop (lengthS (r :: rs)).1) rfl
   simp only [List.length_drop,List.length_cons] at this h hn ⊢
   omega
/-! ## the closures -/
set_option maxRecDepth 100000 in
set_option maxHeartbeats 1000000 in
theorem flow1_any:PredR 84 (fun r=>!shownS r):=by
 intro x w hx
 by_cases h10:x=10
 ·subst h10
  go_enter Tryz.func84,Tryz.ntmps84
  go_wp2
  go_ret
  exact⟨rfl,Below.refl _ _⟩
 ·by_cases h9:x=9
  ·subst h9
   go_enter Tryz.func84,Tryz.ntmps84
   go_wp2
   go_ret
   exact⟨rfl,Below.refl _ _⟩
  ·obtain⟨k,hk⟩:∃ k,kindS (x:Int)=k:=⟨_,rfl⟩
   have HK:=zH (kind_at (x:Int) (by omega) (by omega) k hk)
   have a1:((x:Int) != 10)=true:=by simp;omega
   have a2:((x:Int) != 9)=true:=by simp;omega
   by_cases h1:k=1
   ·subst h1
    have HV:Hid ((!shownS x)=true):=zH (by simp [shownS,h10,h9,hk])
    clear hk h10 h9
    go_enter Tryz.func84,Tryz.ntmps84
    go_wp2_with (go_at_call 85;((with_reducible refine(HK.out _).mono ?_);rintro e w1 ⟨rfl,hb1⟩))
    go_ret
    exact⟨by rw [HV.out];rfl,hb1⟩
   ·have HV:Hid ((!shownS x)=false):=zH (by simp [shownS,h10,h9,hk,h1])
    have a3:((k:Int) == 1)=false:=by simp;omega
    clear hk h10 h9 h1
    go_enter Tryz.func84,Tryz.ntmps84
    go_wp2_with (go_at_call 85;((with_reducible refine(HK.out _).mono ?_);rintro e w1 ⟨rfl,hb1⟩))
    go_ret
    exact⟨by rw [HV.out];rfl,hb1⟩
set_option maxRecDepth 100000 in
set_option maxHeartbeats 1000000 in
theorem flow2_any:PredC 89 (fun c=>!keptS c):=by
 intro c w hok
 have hln:=line_mk hok.2
 obtain⟨t,ht⟩:∃ t,mkS c.1=t:=⟨_,rfl⟩
 rw [ht] at hln ⊢
 obtain⟨c1,c2⟩:=c
 simp only at hln ⊢
 by_cases h0:c2=0
 ·subst h0
  by_cases h1:c1=[10]
  ·have HV:Hid ((!keptS (c1,0))=false):=zH (by simp [keptS,h1])
   have e:=hln.2 h1
   subst e
   clear hln h1 ht
   go_enter Tryz.func89,Tryz.ntmps89
   go_wp2
   go_ret
   exact⟨by rw [HV.out];rfl,(Below.refl _ _).alloc (Nat.le_refl _) _⟩
  ·have HV:Hid ((!keptS (c1,0))=true):=zH (by simp [keptS,h1])
   have e:¬ t=⟨#[10]⟩:=fun h=>h1 (hln.1 h)
   have e2:(t.toList == [10])=false:=by simp;exact fun h=>e (ba_toList h)
   clear hln h1 ht
   go_enter Tryz.func89,Tryz.ntmps89
   go_wp2
   go_ret
   exact⟨by rw [HV.out];rfl,(Below.refl _ _).alloc (Nat.le_refl _) _⟩
 ·have HV:Hid ((!keptS (c1,c2))=false):=zH (by simp [keptS,h0])
  have e:((c2:Int) == 0)=false:=by simp;omega
  clear hln ht h0
  go_enter Tryz.func89,Tryz.ntmps89
  go_wp2
  go_ret
  exact⟨by rw [HV.out];rfl,(Below.refl _ _).alloc (Nat.le_refl _) _⟩
end Go.Proofs.YtlenbcmgjancmaaGreatDoor
namespace Go.Proofs.YtlenbcmgjancmaaGreatDoor
open Go.RowKit
theorem mkS_list (l:List Nat):(mkS l).data.toList=toBytes l:=by simp [mkS]
theorem mkS_size (l:List Nat):(mkS l).size=l.length:=by simp [mkS,toBytes,ByteArray.size]
theorem blankS_lt {x:Nat} (h:x<2097152):blankS x<2097152:=by unfold blankS;split<;>omega
def mixB (fs:List Nat) (k:Nat):List Nat:=(fs.take k).map blankS ++ fs.drop k
theorem mixB_get (fs:List Nat) (k:Nat) (y:Nat) (h:fs[k]?=some y):(mixB fs k)[k]?=some y:=by
 obtain⟨h1,h2⟩:=List.getElem?_eq_some_iff.1 h
 unfold mixB
 rw [List.getElem?_append_right (by simp;omega),List.length_map,List.length_take,Nat.min_eq_left (by omega),Nat.sub_self,List.getElem?_drop,Nat.add_zero]
 exact h
theorem mixB_set (fs:List Nat) (k:Nat) (y:Nat) (h:fs[k]?=some y):(mixB fs k).set k (blankS y)=mixB fs (k+1):=by
 obtain⟨h1,h2⟩:=List.getElem?_eq_some_iff.1 h
 have hl:((fs.take k).map blankS).length=k:=by simp;omega
 unfold mixB
 rw [List.set_append_right _ _ (by rw [hl];exact Nat.le_refl _),hl,Nat.sub_self,List.drop_eq_getElem_cons h1,List.take_succ_eq_append_getElem h1,h2]
 simp
theorem mixB_keep (fs:List Nat) (k:Nat) (y:Nat) (h:fs[k]?=some y) (hy:y ≠ 9):mixB fs (k+1)=mixB fs k:=by
 rw [← mixB_set fs k y h]
 have e:blankS y=y:=by unfold blankS;rw [if_neg hy]
 rw [e]
 have hg:=mixB_get fs k y h
 obtain⟨h1,h2⟩:=List.getElem?_eq_some_iff.1 hg
 rw [← h2];exact List.set_getElem_self h1
set_option maxRecDepth 100000 in
set_option maxHeartbeats 2000000 in
theorem flow_any (s:ByteArray) (hs:s.size≤10000000) (w:World):Calls Tryz.prog 28 #[.string s] w (VRow 78 2 (flowS s.data.toList).length (cv (flowS s.data.toList)) w):=by
 obtain⟨fs,hfs⟩:∃ fs,(runesS s.data.toList).filter shownS=fs:=⟨_,rfl⟩
 have hfr:flowR (runesS s.data.toList)=fs.map blankS:=by unfold flowR;rw [hfs]
 have hrl:(runesS s.data.toList).length≤10000000:=Nat.le_trans (runesS_len _) (by rw [blen];exact hs)
 have hfl:fs.length≤10000000:=by rw [← hfs];exact Nat.le_trans (List.length_filter_le _ _) hrl
 have hfx:∀ x ∈ fs,x<2097152:=fun x hx=>runesS_lt _ x (List.mem_filter.1 (by rw [hfs];exact hx:x ∈ (runesS s.data.toList).filter shownS)).1
 obtain⟨t,ht⟩:∃ t,textS (fs.map blankS)=t:=⟨_,rfl⟩
 have htl:t.length≤40000000:=by rw [← ht];have:=textS_len (fs.map blankS);simp at this;omega
 obtain⟨cs,hcs⟩:∃ cs,clustersS (runesS (toBytes t))=cs:=⟨_,rfl⟩
 have hfl2:flowS s.data.toList=cs.filter keptS:=by unfold flowS;rw [hfr,ht,hcs]
 have hr2:(runesS (toBytes t)).length≤40000000:=Nat.le_trans (runesS_len _) (by simp [toBytes];exact htl)
 have hcl:cs.length≤40000000:=by rw [← hcs];exact Nat.le_trans (clustersS_len _) hr2
 have hcx:∀ c ∈ cs,okC c:=by rw [← hcs];exact clustersS_ok _
 have HDEL:Hid (∀ (v:Value) (W:World),w.heap.size≤W.heap.size→W.ownsRow w.heap.size 21 1 v (runesS s.data.toList).length (rv (runesS s.data.toList))→Calls Tryz.prog 83 #[v,.func (.func 84) #[] #[]] W (DelPost w.heap.size 21 1 fs.length (rv fs) W)):=zH (by
  intro v W hW hrow
  have:=delR_any 84 _ (fun _ _=>rfl) flow1_any w.heap.size v _ (runesS s.data.toList) rfl W hW hrow (by omega) (fun x hx=>Nat.lt_trans (runesS_lt _ x hx) (by decide))
  simp only [Bool.not_not] at this
  rw [hfs] at this
  exact this)
 have HSP:Hid (∀ W,Calls Tryz.prog 86 #[.string (mkS t)] W (VRow 78 2 cs.length (cv cs) W)):=zH (by
  intro W
  have:=split_in (mkS t) (by rw [mkS_size];omega) (by rw [mkS_list];omega) (by rw [mkS_list];exact fun x hx=>Nat.lt_trans (runesS_lt _ x hx) (by decide)) W
  rw [mkS_list,hcs] at this
  exact this)
 have HDC:Hid (∀ (v:Value) (W:World),w.heap.size≤W.heap.size→W.ownsRow w.heap.size 78 2 v cs.length (cv cs)→Calls Tryz.prog 88 #[v,.func (.func 89) #[] #[]] W (DelPost w.heap.size 78 2 (flowS s.data.toList).length (cv (flowS s.data.toList)) W)):=zH (by
  intro v W hW hrow
  have:=delC_any 89 _ (fun _ _=>rfl) flow2_any w.heap.size v _ cs rfl W hW hrow (by omega) hcx
  simp only [Bool.not_not] at this
  rw [← hfl2] at this
  exact this)
 have HT:=zH ht;have HFX:=zH hfx
 obtain⟨n,hn⟩:∃ n,fs.length=n:=⟨_,rfl⟩
 have HN:=zH hn
 rw [hn] at hfl HDEL
 clear hfs hfr hrl hfx ht htl hcs hfl2 hr2 hcl hcx hn
 go_enter Tryz.func28,Tryz.ntmps28
 go_wp2_with (first|(go_at_call 82;((with_reducible refine(runes_any s _ (by omega)).mono ?_);rintro e w1 ⟨v1,rfl,hb1,hrow1⟩;have HR1:=zH hrow1;clear hrow1))|(go_at_call 83;((with_reducible refine(HDEL.out _ _ hb1.size HR1.out).mono ?_);rintro e w2 ⟨v2,rfl,hrow2,hb2⟩;obtain⟨A,c,rfl,hc1,hc2,hA⟩:=slice_form2 hrow2;have HA:=zH hA;have HR2:=zH hrow2;clear hA hrow2)))
 go_loopw [13] (fun i wr=>∃ k:Nat,i=.int .i64 k∧k≤n∧Hid (wr.ownsRow w.heap.size 21 1 (.slice A n c) n (rv (mixB fs k)))∧Below w.heap.size w wr) (fun i _=>n - (intOf i).toNat)
 case atStart=>exact⟨0,rfl,by omega,by simpa [mixB] using HR2,hb1.trans hb2⟩
 case round=>
  obtain⟨k,rfl,hk,HR,hbe⟩:=hrel
  have HBE:=zH hbe
  by_cases hlt:k<n
  ·obtain⟨g,hAg,hgB,_,_⟩:=HA.out (by omega)
   subst hAg
   obtain⟨y,hy⟩:∃ y,fs[k]?=some y:=⟨_,List.getElem?_eq_getElem (by have:=HN.out;omega)⟩
   have hcy:wr.cell? ⟨g,k,none⟩=some (.int .i32 y):=by
    rw [HR.out.cellAt k (by omega)];simp [rv,mixB_get fs k y hy]
   have hfy:=HR.out.frozenAt k
   by_cases h9:y=9
   ·have HM:Hid (mixB fs (k+1)=(mixB fs k).set k 32):=zH (by rw [← mixB_set fs k y hy,h9];rfl)
    subst h9
    clear hbe hy
    go_wp2
    go_roundw
    case rel=>
     refine⟨k+1,by go_num,by omega,?_,HBE.out.setCell (p:=⟨g,k,none⟩) hgB _⟩
     have:=(HR.out.stored k (.int .i32 32)).1
     rw [HM.out]
     have e:rv ((mixB fs k).set k 32)=(rv (mixB fs k)).set k (.int .i32 32):=by simp [rv,List.map_set]
     rw [e];exact this
    case measure=>simp [intOf];omega
   ·have HM:Hid (mixB fs (k+1)=mixB fs k):=zH (mixB_keep fs k y hy h9)
    have h9':((y:Int) == 9)=false:=by simp;omega
    clear hbe hy h9
    go_wp2
    go_roundw
    case rel=>exact⟨k+1,by go_num,by omega,by rw [HM.out];exact HR,HBE.out⟩
    case measure=>simp [intOf];omega
  ·obtain rfl:k=n:=by omega
   have HM:Hid (mixB fs k=fs.map blankS):=zH (by unfold mixB;rw [List.take_of_length_le (by rw [HN.out];exact Nat.le_refl _),List.drop_eq_nil_of_le (by rw [HN.out];exact Nat.le_refl _),List.append_nil])
   have HTX:Hid (Calls Tryz.prog 87 #[.slice A k c] wr (VBel (.string (mkS t)) wr)):=zH (by
    rw [← HT.out]
    have hR:=HR.out
    rw [HM.out] at hR
    refine text_any A c k (fs.map blankS) (by simp [HN.out]) wr (fun h0=>?_) (by omega) (fun x hx=>?_)
    ·obtain⟨g,hAg,hgB,_,_⟩:=HA.out h0
     subst hAg
     refine⟨g,0,rfl,(World.ownsRow.lt hR g rfl).2,fun i r hi=>?_⟩
     rw [Nat.zero_add,hR.cellAt i (by have:=(List.getElem?_eq_some_iff.1 hi).1;simp [HN.out] at this;omega)]
     unfold rv;rw [List.getElem?_map,hi];rfl
    ·obtain⟨z,hz,rfl⟩:=List.mem_map.1 hx
     exact Nat.lt_trans (blankS_lt (HFX.out z hz)) (by decide))
   clear hbe
   go_wp2_with (first|(go_at_call 87;((with_reducible refine HTX.out.mono ?_);rintro e w4 ⟨rfl,hb4⟩))|(go_at_call 86;((with_reducible refine(HSP.out _).mono ?_);rintro e w5 ⟨v5,rfl,hb5,hrow5⟩;have HR5:=zH (orow_le hrow5 (Nat.le_trans HBE.out.size hb4.size));clear hrow5))|(go_at_call 88;((with_reducible refine(HDC.out _ _ (Nat.le_trans HBE.out.size (Nat.le_trans hb4.size hb5.size)) HR5.out).mono ?_);rintro e w6 ⟨v6,rfl,hrow6,hb6⟩;have HR6:=zH hrow6;clear hrow6)))
   go_ret
   exact⟨v6,rfl,((HBE.out.trans (hb4.mono HBE.out.size)).trans (hb5.mono (Nat.le_trans HBE.out.size hb4.size))).trans hb6,HR6.out⟩
end Go.Proofs.YtlenbcmgjancmaaGreatDoor
namespace Go.Proofs.YtlenbcmgjancmaaGreatDoor
open Go.RowKit
theorem elS:ElOK 104 75 1 24 (.slice none 0 0):=⟨Tryz.underlying104,by kernel_rfl,rfl,by decide,by decide⟩
def rowsN:List Cl→List (List Cl)
 | []=>[[]]
 |c :: l=>if c.1=[10] then [] :: rowsN l else match rowsN l with|[]=>[[c]]|r :: rs=>(c :: r) :: rs
theorem rowsN_ne (l:List Cl):rowsN l ≠ []:=by
 cases l with
 |nil=>simp [rowsN]
 |cons c l=>
  simp only [rowsN]
  split
  ·simp
  ·split<;>simp
theorem rowsS_eq (l:List Cl) (h:l ≠ []):rowsS l=rowsN l:=by
 induction l with
 |nil=>exact absurd rfl h
 |cons c l ih=>
  simp only [rowsS,rowsN]
  cases l with
  |nil=>simp [rowsS,rowsN]
  |cons d l=>
   rw [ih (by simp)]
   split
   ·cases hr:rowsN (d :: l) with
    |nil=>exact absurd hr (rowsN_ne _)
    |cons r rs=>rfl
   ·rfl
def glueR (p:List Cl):List (List Cl)→List (List Cl)
 | []=>[p]
 |r :: rs=>(p ++ r) :: rs
theorem rowsN_feed (c:Cl) (l:List Cl) (h:c.1=[10]) (p:List Cl):glueR p (rowsN (c :: l))=p :: rowsN l:=by
 simp only [rowsN,if_pos h,glueR,List.append_nil]
theorem rowsN_other (c:Cl) (l:List Cl) (h:¬ c.1=[10]) (p:List Cl):glueR p (rowsN (c :: l))=glueR (p ++ [c]) (rowsN l):=by
 simp only [rowsN,if_neg h]
 cases rowsN l with
 |nil=>simp [glueR]
 |cons r rs=>simp [glueR]
def SeeRows (w:World) (xs:List Value) (rs:List (List Cl)):Prop :=
 xs.length=rs.length∧∀ (i:Nat) (r:List Cl),rs[i]?=some r→∃ A c,xs[i]?=some (.slice A r.length c)∧r.length≤c∧c≤maxLen∧SeeC w A r.length r
theorem SeeRows.below {w w':World} {xs:List Value} {rs:List (List Cl)} (h:SeeRows w xs rs) (hb:Below w.heap.size w w'):SeeRows w' xs rs :=
 ⟨h.1,fun i r hr=>by obtain⟨A,c,h1,h2,h3,h4⟩:=h.2 i r hr;exact⟨A,c,h1,h2,h3,h4.below hb⟩⟩
theorem SeeRows.snoc {w:World} {xs:List Value} {rs:List (List Cl)} (h:SeeRows w xs rs) {A:Option Addr} {c n:Nat} {r:List Cl} (hn:r.length=n) (h2:n≤c) (h3:c≤maxLen) (h4:SeeC w A n r):SeeRows w (xs ++ [.slice A n c]) (rs ++ [r]):=by
 refine⟨by simp [h.1],fun i r' hr=>?_⟩
 rcases Nat.lt_or_ge i rs.length with hi|hi
 ·rw [List.getElem?_append_left hi] at hr
  obtain⟨A',c',k1,k2⟩:=h.2 i r' hr
  exact⟨A',c',by rw [List.getElem?_append_left (by rw [h.1];exact hi)];exact k1,k2⟩
 ·rw [List.getElem?_append_right hi] at hr
  have hi0:i - rs.length=0:=by
   rcases Nat.eq_zero_or_pos (i - rs.length) with h0|h0
   ·exact h0
   ·rw [List.getElem?_eq_none (by simp;omega)] at hr;cases hr
  rw [hi0] at hr
  simp at hr
  subst hr
  exact⟨A,c,by rw [List.getElem?_append_right (by rw [h.1];exact hi),h.1,hi0,hn];rfl,by omega,h3,by rw [hn];exact h4⟩
theorem addr_add (g o j:Nat):(⟨g,o,none⟩:Addr).add j=⟨g,o+j,none⟩:=by unfold Addr.add;split<;>simp_all
theorem SeeC.cut {w:World} {A:Option Addr} {n c k m:Nat} {cs:List Cl} (h:SeeC w A n cs) (hc:n≤c) (hkm:k+m≤n):SeeC w (if c=k then A else A.map fun a=>a.add (k*2)) m ((cs.drop k).take m):=by
 refine⟨by rw [List.length_take,List.length_drop,h.1];omega,fun hm=>?_⟩
 obtain⟨g,o,rfl,hg,hR⟩:=h.2 (by omega)
 rw [if_neg (by omega)]
 refine⟨g,o+k*2,by simp [Addr.add]<;>omega,hg,fun i x hx=>?_⟩
 have hx':(cs.drop k)[i]?=some x:=by
  obtain⟨h1,h2⟩:=List.getElem?_eq_some_iff.1 hx
  rw [List.getElem_take] at h2
  exact List.getElem?_eq_some_iff.2 ⟨by simp at h1 ⊢;omega,h2⟩
 exact hR.drop k i x hx'
def RowsPost (cs:List Cl) (w:World) (e:Ending) (w':World):Prop :=
 ∃ v xs,e=.returned v∧Below w.heap.size w w'∧w'.ownsRow w.heap.size 75 1 v (rowsS cs).length xs∧SeeRows w' xs (rowsS cs)
def RowsRel (cs:List Cl) (n:Nat) (w:World) (v fv iv:Value) (wr:World):Prop :=
 ∃ (k fr:Nat) (done:List (List Cl)) (xs:List Value),iv=.int .i64 k∧fv=.int .i64 fr∧fr≤k∧k≤n∧done.length≤k∧Hid (wr.ownsRow w.heap.size 75 1 v done.length xs)∧Hid (SeeRows w xs done)∧
  Hid (rowsN cs=done ++ glueR ((cs.drop fr).take (k - fr)) (rowsN (cs.drop k)))∧Hid (Below w.heap.size w wr)
set_option maxRecDepth 100000 in
set_option maxHeartbeats 2000000 in
theorem rows_any (A:Option Addr) (c n:Nat) (cs:List Cl) (w:World) (hS:SeeC w A n cs) (hc:n≤c) (hcm:c≤maxLen) (hm:n≤10000000000) (hok:∀ c ∈ cs,okC c) :
  Calls Tryz.prog 76 #[.slice A n c] w (RowsPost cs w):=by
 have HS:=zH hS;have HOK:=zH hok;have HCM:=zH hcm
 clear hS hok hcm
 by_cases hn0:n=0
 ·have hcs:cs=[]:=List.eq_nil_of_length_eq_zero (by rw [HS.out.1,hn0])
  have HE:Hid (rowsS cs=[]):=zH (by rw [hcs];rfl)
  subst hn0
  go_enter Tryz.func76,Tryz.ntmps76
  go_wp2
  go_ret
  exact⟨_,[],rfl,Below.refl _ _,by rw [HE.out];exact World.ownsRow_nil _ _ _ _,by rw [HE.out];exact⟨rfl,fun i r hr=>by simp at hr⟩⟩
 ·have hcs:cs ≠ []:=by intro h;have:=HS.out.1;rw [h] at this;simp at this;omega
  have HRS:=zH (rowsS_eq cs hcs)
  have hn1:((n:Int) == 0)=false:=by simp;omega
  clear hcs
  go_enter Tryz.func76,Tryz.ntmps76
  go_wp2
  go_loopw [3,4,12] (RowsRel cs n w) (fun _ _ i _=>n - (intOf i).toNat)
  case atStart=>exact⟨0,0,[],[],rfl,rfl,by omega,by omega,by simp,World.ownsRow_nil _ _ _ _,⟨rfl,fun i r hr=>by simp at hr⟩,by simp [Hid];cases h:rowsN cs with|nil=>exact absurd h (rowsN_ne _)|cons r rs=>rfl,Below.refl _ _⟩
  case round=>
   obtain⟨k,fr,done,xs,rfl,rfl,hfk,hkn,hdk,HR,HSe,HG,HBE⟩:=hrel
   by_cases hlt:k<n
   ·obtain⟨g,o,rfl,hg,hRc⟩:=HS.out.2 (by omega)
    obtain⟨y,hy⟩:∃ y,cs[k]?=some y:=⟨_,List.getElem?_eq_getElem (by have:=HS.out.1;omega)⟩
    have hcc:=(hRc.below HBE.out hg) k y hy
    have hc0:=hcc.1
    have hc1:=hcc.2
    have hgr:g<wr.heap.size:=Nat.lt_of_lt_of_le hg HBE.out.size
    have hln:=line_mk (HOK.out y (List.mem_of_getElem? hy)).2
    have hdk2:cs.drop k=y :: cs.drop (k+1):=by
     obtain⟨h1,h2⟩:=List.getElem?_eq_some_iff.1 hy
     rw [List.drop_eq_getElem_cons h1,h2]
    obtain⟨t,ht⟩:∃ t,mkS y.1=t:=⟨_,rfl⟩
    rw [ht] at hc0 hln
    by_cases hlf:y.1=[10]
    ·have e:=hln.2 hlf
     subst e
     have HN:Hid (rowsN cs=(done ++ [(cs.drop fr).take (k - fr)]) ++ glueR ((cs.drop (k+1)).take (k+1 - (k+1))) (rowsN (cs.drop (k+1)))):=zH (by
      rw [HG.out,hdk2,rowsN_feed _ _ hlf,List.append_assoc,Nat.sub_self,List.take_zero]
      congr 1
      cases h:rowsN (cs.drop (k+1)) with
      |nil=>exact absurd h (rowsN_ne _)
      |cons r rs=>rfl)
     have hcf:¬ c=fr:=by omega
     have hcf':¬ fr=c:=by omega
     have HCUT:Hid (SeeC w (some ⟨g,o+fr*2,none⟩) (k - fr) ((cs.drop fr).take (k - fr))):=zH (by
      have:=HS.out.cut hc (k:=fr) (m:=k - fr) (by omega)
      rw [if_neg hcf] at this
      rw [Option.map_some,addr_add] at this
      exact this)
     clear hcc hln hdk2 ht hlf hy hRc
     go_wp2_with ((with_reducible apply wpList_append_new elS (B:=w.heap.size) (n:=done.length) (xs:=xs) (nw:=#[.slice (some ⟨g,o+fr*2,none⟩) (k - fr) (c - fr)]));exact rfl;exact rfl;(first|exact rfl|simp);exact HR.out.alloc _;(have:=HBE.out.size;simp;omega);omega;exact rfl;(intro u hu;simp at hu;subst hu;rfl);intro v' w3 hrow3 hgr3 hpl3 K hK;have HR3:=zH hrow3;clear hrow3)
     go_roundw
     case rel=>
      refine⟨k+1,k+1,done ++ [(cs.drop fr).take (k - fr)],xs ++ [.slice (some ⟨g,o+fr*2,none⟩) (k - fr) (c - fr)],by go_num,by go_num,by omega,by omega,by simp;omega,?_,zH (HSe.out.snoc (c:=c - fr) HCUT.out.1 (by omega) (by have:=HCM.out;omega) HCUT.out),HN,?_⟩
      ·rw [List.length_append];exact HR3.out
      ·exact((HBE.out.alloc HBE.out.size _).alloc (by have:=HBE.out.size;simp;omega) _).grown hgr3 (by have:=HBE.out.size;simp;omega) (fun k e=>(World.ownsRow.lt HR.out k e).1)
     case measure=>simp [intOf];omega
    ·have e1:¬ t=⟨#[10]⟩:=fun h=>hlf (hln.1 h)
     have e2:(t.toList == [10])=false:=by simp;exact fun h=>e1 (ba_toList h)
     have HN:Hid (rowsN cs=done ++ glueR ((cs.drop fr).take (k+1 - fr)) (rowsN (cs.drop (k+1)))):=zH (by
      rw [HG.out,hdk2,rowsN_other _ _ hlf]
      congr 2
      rw [show k+1 - fr=(k - fr)+1 by omega]
      have hfy:(cs.drop fr)[k - fr]?=some y:=by rw [List.getElem?_drop,show fr+(k - fr)=k by omega];exact hy
      obtain⟨h1,h2⟩:=List.getElem?_eq_some_iff.1 hfy
      rw [List.take_succ_eq_append_getElem h1,h2])
     clear hcc hln hdk2 ht hlf hy hRc
     go_wp2
     go_roundw
     case rel=>exact⟨k+1,fr,done,xs,by go_num,rfl,by omega,by omega,by omega,HR.out.alloc _,HSe,HN,HBE.out.alloc HBE.out.size _⟩
     case measure=>simp [intOf];omega
   ·obtain rfl:k=n:=by omega
    obtain⟨g,o,rfl,hg,hRc⟩:=HS.out.2 (by omega)
    have HN:Hid (rowsS cs=done ++ [(cs.drop fr).take (k - fr)]):=zH (by
     rw [HRS.out,HG.out,List.drop_eq_nil_of_le (show cs.length≤k by rw [HS.out.1];exact Nat.le_refl _)]
     simp [rowsN,glueR])
    clear hRc
    by_cases hcf:c=fr
    ·have HCUT:Hid (SeeC w (some ⟨g,o,none⟩) (k - fr) ((cs.drop fr).take (k - fr))):=zH (by
      have:=HS.out.cut hc (k:=fr) (m:=k - fr) (by omega)
      rw [if_pos hcf] at this
      exact this)
     obtain rfl:k=fr:=by omega
     obtain rfl:c=k:=by omega
     have HC2:Hid (SeeC w (some ⟨g,o,none⟩) 0 ((cs.drop c).take (c - c))):=zH (by have:=HCUT.out;rwa [Nat.sub_self] at this ⊢)
     have HCUT:=HC2
     go_wp2_with ((with_reducible apply wpList_append_new elS (B:=w.heap.size) (n:=done.length) (xs:=xs) (nw:=#[.slice (some ⟨g,o,none⟩) 0 0]));exact rfl;exact rfl;(first|exact rfl|simp);exact HR.out;exact HBE.out.size;omega;exact rfl;(intro u hu;simp at hu;subst hu;rfl);intro v' w3 hrow3 hgr3 hpl3 K hK;have HR3:=zH hrow3;clear hrow3)
     go_ret
     have hB3:Below w.heap.size w w3:=(HBE.out.alloc HBE.out.size _).grown hgr3 (by have:=HBE.out.size;simp;omega) (fun k e=>(World.ownsRow.lt HR.out k e).1)
     refine⟨v',xs ++ [.slice (some ⟨g,o,none⟩) 0 0],rfl,hB3,?_,?_⟩
     ·rw [HN.out,List.length_append];exact HR3.out
     ·rw [HN.out];exact(HSe.out.snoc (c:=0) HCUT.out.1 (by omega) (by have:=HCM.out;omega) HCUT.out).below hB3
    ·have hcf':¬ fr=c:=fun h=>hcf h.symm
     have HCUT:Hid (SeeC w (some ⟨g,o+fr*2,none⟩) (k - fr) ((cs.drop fr).take (k - fr))):=zH (by
      have:=HS.out.cut hc (k:=fr) (m:=k - fr) (by omega)
      rw [if_neg hcf] at this
      rw [Option.map_some,addr_add] at this
      exact this)
     go_wp2_with ((with_reducible apply wpList_append_new elS (B:=w.heap.size) (n:=done.length) (xs:=xs) (nw:=#[.slice (some ⟨g,o+fr*2,none⟩) (k - fr) (c - fr)]));exact rfl;exact rfl;(first|exact rfl|simp);exact HR.out;exact HBE.out.size;omega;exact rfl;(intro u hu;simp at hu;subst hu;rfl);intro v' w3 hrow3 hgr3 hpl3 K hK;have HR3:=zH hrow3;clear hrow3)
     go_ret
     have hB3:Below w.heap.size w w3:=(HBE.out.alloc HBE.out.size _).grown hgr3 (by have:=HBE.out.size;simp;omega) (fun k e=>(World.ownsRow.lt HR.out k e).1)
     refine⟨v',xs ++ [.slice (some ⟨g,o+fr*2,none⟩) (k - fr) (c - fr)],rfl,hB3,?_,?_⟩
     ·rw [HN.out,List.length_append];exact HR3.out
     ·rw [HN.out];exact(HSe.out.snoc (c:=(c - fr)) HCUT.out.1 (by omega) (by have:=HCM.out;omega) HCUT.out).below hB3
end Go.Proofs.YtlenbcmgjancmaaGreatDoor
namespace Go.Proofs.YtlenbcmgjancmaaGreatDoor
open Go.RowKit
def lstep (mode:Int) (st:Nat × Nat) (c:Cl):Nat × Nat :=
 if c.1=[10]∨(c.1=[32]∧mode ≠ 2) then (st.1,0) else (max st.1 ((if mode=1 then 0 else st.2)+c.2),(if mode=1 then 0 else st.2)+c.2)
def leastS (mode:Int) (cs:List Cl):Nat:=(cs.foldl (lstep mode) (0,0)).1
theorem lstep_le' (mode:Int) (l:List Cl) (h:∀ c ∈ l,c.2≤2) (st:Nat × Nat) (B:Nat) (h1:st.1≤B) (h2:st.2≤B):(l.foldl (lstep mode) st).1≤B+2*l.length∧(l.foldl (lstep mode) st).2≤B+2*l.length:=by
 induction l generalizing st B with
 |nil=>simpa using ⟨h1,h2⟩
 |cons c l ih=>
  have hc:=h c (by simp)
  have hst:(lstep mode st c).1≤B+2∧(lstep mode st c).2≤B+2:=by
   unfold lstep
   split
   ·simp only;omega
   ·simp only
    split<;>omega
  have:=ih (fun x hx=>h x (List.mem_cons_of_mem _ hx)) (lstep mode st c) (B+2) hst.1 hst.2
  simp only [List.foldl_cons,List.length_cons]
  omega
theorem lstep_le (mode:Int) (l:List Cl) (h:∀ c ∈ l,c.2≤2):(l.foldl (lstep mode) (0,0)).1≤2*l.length∧(l.foldl (lstep mode) (0,0)).2≤2*l.length:=by
 have:=lstep_le' mode l h (0,0) 0 (Nat.le_refl _) (Nat.le_refl _)
 omega
theorem foldl_take (mode:Int) (cs:List Cl) (k:Nat) (y:Cl) (h:cs[k]?=some y):(cs.take (k+1)).foldl (lstep mode) (0,0)=lstep mode ((cs.take k).foldl (lstep mode) (0,0)) y:=by
 obtain⟨h1,h2⟩:=List.getElem?_eq_some_iff.1 h
 rw [List.take_succ_eq_append_getElem h1,List.foldl_append,h2];rfl
set_option maxRecDepth 100000 in
set_option maxHeartbeats 2000000 in
theorem least_any (s:ByteArray) (mode:Int) (hs:s.size≤10000000) (w:World):Calls Tryz.prog 14 #[.string s,.int .i8 mode] w (VBel (.int .i64 (leastS mode (flowS s.data.toList))) w):=by
 obtain⟨cs,hcs⟩:∃ cs,flowS s.data.toList=cs:=⟨_,rfl⟩
 have hok:∀ c ∈ cs,okC c:=by
  rw [← hcs];intro c hc
  exact clustersS_ok _ c (List.mem_filter.1 hc).1
 have hlen:cs.length≤40000000:=by
  rw [← hcs]
  refine Nat.le_trans (List.length_filter_le _ _) (Nat.le_trans (clustersS_len _) (Nat.le_trans (runesS_len _) ?_))
  have h1:=textS_len (flowR (runesS s.data.toList))
  have h2:(flowR (runesS s.data.toList)).length≤(runesS s.data.toList).length:=by unfold flowR;rw [List.length_map];exact List.length_filter_le _ _
  have h3:=runesS_len s.data.toList
  rw [blen] at h3
  simp only [toBytes,List.length_map];omega
 have HFL:=zH (flow_any s hs w)
 rw [hcs] at HFL ⊢
 obtain⟨n,hn⟩:∃ n,cs.length=n:=⟨_,rfl⟩
 have HN:=zH hn
 rw [hn] at hlen HFL
 have HOK:=zH hok
 clear hcs hok hn
 go_enter Tryz.func14,Tryz.ntmps14
 go_wp2_with (go_at_call 28;((with_reducible refine HFL.out.mono ?_);rintro e w1 ⟨v,rfl,hb1,hrow⟩;obtain⟨A,c,rfl,hc1,hc2,hA⟩:=slice_form2 hrow;have HA:=zH hA;have HB1:=zH hb1;clear hA hrow hb1))
 go_loopw [5,6,12] (fun a b i wr=>∃ k:Nat,i=.int .i64 k∧k≤n∧a=.int .i64 ((cs.take k).foldl (lstep mode) (0,0)).1∧b=.int .i64 ((cs.take k).foldl (lstep mode) (0,0)).2∧Hid (Below w1.heap.size w1 wr)) (fun _ _ i _=>n - (intOf i).toNat)
 case atStart=>exact⟨0,rfl,by omega,rfl,rfl,Below.refl _ _⟩
 case round=>
  obtain⟨k,rfl,hk,rfl,rfl,HBE⟩:=hrel
  by_cases hlt:k<n
  ·obtain⟨g,rfl,hgB,hg,hc⟩:=HA.out (by omega)
   obtain⟨y,hy⟩:∃ y,cs[k]?=some y:=⟨_,List.getElem?_eq_getElem (by have:=HN.out;omega)⟩
   have hc0:wr.cell? ⟨g,k*2,none⟩=some (.string (mkS y.1)):=(HBE.out.cell (p:=⟨g,k*2,none⟩) hg).trans (hc _ _ (cv_get cs k y hy).1)
   have hc1':wr.cell? ⟨g,k*2+1,none⟩=some (.int .i64 y.2):=(HBE.out.cell (p:=⟨g,k*2+1,none⟩) hg).trans (hc _ _ (cv_get cs k y hy).2)
   have hgr:g<wr.heap.size:=Nat.lt_of_lt_of_le hg HBE.out.size
   have hyok:=HOK.out y (List.mem_of_getElem? hy)
   have hln:=line_mk hyok.2
   have hbk:mkS y.1=⟨#[32]⟩↔y.1=[32]:=(blank_mk hyok.2).trans (by simp [blankC])
   have hy2:=hyok.1
   have hbd:=lstep_le mode (cs.take k) fun x hx=>(HOK.out x (List.mem_of_mem_take hx)).1
   have hst:=foldl_take mode cs k y hy
   obtain⟨a,b,hab⟩:∃ a b,(cs.take k).foldl (lstep mode) (0,0)=(a,b):=⟨_,_,rfl⟩
   rw [hab] at hst hbd ⊢
   have hl:(cs.take k).length≤k:=List.length_take_le _ _
   simp only at hbd ⊢
   have hb1:a≤80000000:=by omega
   have hb2:b≤80000000:=by omega
   obtain⟨t,ht⟩:∃ t,mkS y.1=t:=⟨_,rfl⟩
   obtain⟨y1,y2⟩:=y
   simp only at ht hc0 hc1' hln hbk hy2 hst
   rw [ht] at hc0 hln hbk
   clear hbd hl hab hyok hc hy
   by_cases hlf:y1=[10]
   ·have e:=hln.2 hlf
    subst e
    have HT:Hid ((cs.take (k+1)).foldl (lstep mode) (0,0)=(a,0)):=zH (by rw [hst];unfold lstep;rw [if_pos (.inl hlf)])
    clear hln hbk hst hlf ht
    go_wp2
    go_roundw
    case rel=>exact⟨k+1,by go_num,by omega,by rw [HT.out],by rw [HT.out];rfl,HBE.out.alloc HBE.out.size _⟩
    case measure=>simp [intOf];omega
   ·have e1:¬ t=⟨#[10]⟩:=fun h=>hlf (hln.1 h)
    have e2:(t.toList == [10])=false:=by simp;exact fun h=>e1 (ba_toList h)
    by_cases hbl:y1=[32]
    ·by_cases hm2:mode=2
     ·have e:=hbk.2 hbl
      subst e
      subst hm2
      have HT:Hid ((cs.take (k+1)).foldl (lstep 2) (0,0)=(max a (b+y2),b+y2)):=zH (by rw [hst];unfold lstep;rw [if_neg (by simp [hlf])];rfl)
      clear hln hbk hst hlf ht hbl e1 e2
      go_wp2
      go_roundw
      case rel=>exact⟨k+1,by go_num,by omega,by rw [HT.out];go_num,by rw [HT.out];go_num,HBE.out.alloc HBE.out.size _⟩
      case measure=>simp [intOf];omega
     ·have e:=hbk.2 hbl
      subst e
      have HT:Hid ((cs.take (k+1)).foldl (lstep mode) (0,0)=(a,0)):=zH (by rw [hst];unfold lstep;rw [if_pos (.inr ⟨hbl,hm2⟩)])
      have m2:(mode != 2)=true:=by simp [hm2]
      clear hln hbk hst hlf ht hbl e1 e2
      go_wp2
      go_roundw
      case rel=>exact⟨k+1,by go_num,by omega,by rw [HT.out],by rw [HT.out];rfl,HBE.out.alloc HBE.out.size _⟩
      case measure=>simp [intOf];omega
    ·have e3:¬ t=⟨#[32]⟩:=fun h=>hbl (hbk.1 h)
     have e4:(t.toList == [32])=false:=by simp;exact fun h=>e3 (ba_toList h)
     by_cases hm1:mode=1
     ·subst hm1
      have HT:Hid ((cs.take (k+1)).foldl (lstep 1) (0,0)=(max a (0+y2),0+y2)):=zH (by rw [hst];unfold lstep;rw [if_neg (by simp [hlf,hbl])];rfl)
      clear hln hbk hst hlf ht hbl
      go_wp2
      go_roundw
      case rel=>exact⟨k+1,by go_num,by omega,by rw [HT.out];go_num,by rw [HT.out];go_num,HBE.out.alloc HBE.out.size _⟩
      case measure=>simp [intOf];omega
     ·have HT:Hid ((cs.take (k+1)).foldl (lstep mode) (0,0)=(max a (b+y2),b+y2)):=zH (by rw [hst];unfold lstep;rw [if_neg (by simp [hlf,hbl]),if_neg hm1])
      have m1:(mode == 1)=false:=by simp [hm1]
      clear hln hbk hst hlf ht hbl
      go_wp2
      go_roundw
      case rel=>exact⟨k+1,by go_num,by omega,by rw [HT.out];go_num,by rw [HT.out];go_num,HBE.out.alloc HBE.out.size _⟩
      case measure=>simp [intOf];omega
  ·obtain rfl:k=n:=by omega
   have HT:Hid (leastS mode cs=((cs.take k).foldl (lstep mode) (0,0)).1):=zH (by unfold leastS;rw [List.take_of_length_le (by rw [HN.out];exact Nat.le_refl _)])
   go_wp2
   go_ret
   exact⟨by rw [HT.out];rfl,HB1.out.trans (HBE.out.mono HB1.out.size)⟩
end Go.Proofs.YtlenbcmgjancmaaGreatDoor
