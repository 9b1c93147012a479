import Derived.Test.YtlenbcmgjancmaaGreatDoorMn13
import Derived.Test.YtlenbcmgjancmaaGreatDoorMn16
import Derived.Test.YtlenbcmgjancmaaGreatDoorMn20
import Derived.Test.YtlenbcmgjancmaaGreatDoorMn14
import Derived.Test.YtlenbcmgjancmaaGreatDoorMn18
import Derived.Deep.RegionWith
set_option linter.unusedVariables false
set_option linter.unusedSimpArgs false
namespace Go.Proofs.YtlenbcmgjancmaaGreatDoor
open Go.RowKit
def lnC (c:Cl):Cl:=if c.1=[10] then ([32],1) else c
def lnS (s:List UInt8):List Cl:=(flowS s).map lnC
def lnM (cs:List Cl) (k:Nat):List Cl:=(cs.take k).map lnC ++ cs.drop k
theorem lnM_zero (cs:List Cl):lnM cs 0=cs:=by simp [lnM]
theorem lnM_full {cs:List Cl} {k:Nat} (h:cs.length=k):lnM cs k=cs.map lnC:=by
 unfold lnM
 rw [List.take_of_length_le (by omega),List.drop_eq_nil_of_le (by omega),List.append_nil]
theorem lnM_len (cs:List Cl) (k:Nat):(lnM cs k).length=cs.length:=by simp [lnM];omega
theorem lnM_get {cs:List Cl} {k:Nat} {y:Cl} (h:cs[k]?=some y):(lnM cs k)[k]?=some y:=by
 obtain⟨h1,h2⟩:=List.getElem?_eq_some_iff.1 h
 unfold lnM
 rw [List.getElem?_append_right (by simp;omega),List.length_map,List.length_take,Nat.min_eq_left (by omega),Nat.sub_self,List.getElem?_drop,Nat.add_zero]
 exact h
theorem lnM_set {cs:List Cl} {k:Nat} {y:Cl} (h:cs[k]?=some y):(lnM cs k).set k (lnC y)=lnM cs (k+1):=by
 obtain⟨h1,h2⟩:=List.getElem?_eq_some_iff.1 h
 have hl:((cs.take k).map lnC).length=k:=by simp;omega
 unfold lnM
 rw [List.set_append_right _ _ (by rw [hl];exact Nat.le_refl _),hl,Nat.sub_self,List.drop_eq_getElem_cons h1,List.take_succ_eq_append_getElem h1,h2]
 simp
theorem lnM_keep {cs:List Cl} {k:Nat} {y:Cl} (h:cs[k]?=some y) (hy:¬ y.1=[10]):lnM cs (k+1)=lnM cs k:=by
 rw [← lnM_set h]
 have e:lnC y=y:=by unfold lnC;rw [if_neg hy]
 rw [e]
 obtain⟨h1,h2⟩:=List.getElem?_eq_some_iff.1 (lnM_get h)
 rw [← h2];exact List.set_getElem_self h1
def clC (c:Cl):List Value:=[.string (mkS c.1),.int .i64 c.2]
theorem clC_len (c:Cl):(clC c).length=2:=rfl
theorem cv_flat (l:List Cl):cv l=flatC clC l:=by
 induction l with
 |nil=>rfl
 |cons c l ih=>rw [flatC,← ih];rfl
theorem cvl_set {l:List Cl} {k:Nat} (h:k<l.length) (y:Cl):cv (l.set k y)=((cv l).set (k*2) (.string (mkS y.1))).set (k*2+1) (.int .i64 y.2):=by
 rw [cv_flat,cv_flat,flatC_set clC_len y l k h]
 rfl
theorem lnS_len (s:List UInt8):(lnS s).length≤4*s.length:=by unfold lnS;rw [List.length_map];exact flowS_len s
theorem lnS_ok (s:List UInt8):∀ c ∈ lnS s,okC c∧c.1.length≤64∧1≤c.2:=by
 intro c hc
 obtain⟨y,hy,rfl⟩:=List.mem_map.1 hc
 have h:=flowS_ok s y hy
 have hk:=(List.mem_filter.1 hy).2
 unfold lnC
 split
 ·exact⟨⟨by decide,by simp⟩,by simp,by simp⟩
 ·rename_i hn
  refine⟨h.1,h.2,?_⟩
  unfold keptS at hk
  rcases Nat.eq_zero_or_pos y.2 with h0|h0
  ·simp [h0,hn] at hk
  ·exact h0
set_option maxRecDepth 100000 in
set_option maxHeartbeats 2000000 in
theorem line_any (s:ByteArray) (hs:s.size≤2000000) (w:World):Calls Tryz.prog 143 #[.string s] w (VRow 78 2 (lnS s.data.toList).length (cv (lnS s.data.toList)) w):=by
 have HFL:=zH (flow_any s (by omega) w)
 have hok:∀ c ∈ flowS s.data.toList,∀ x ∈ c.1,x<256:=fun c hc=>(flowS_ok _ c hc).1.2
 have hln:=flowS_len s.data.toList
 rw [blen] at hln
 have HR:Hid (lnS s.data.toList=(flowS s.data.toList).map lnC):=zH rfl
 obtain⟨cs,hcs⟩:∃ cs,flowS s.data.toList=cs:=⟨_,rfl⟩
 rw [hcs] at HFL HR hok hln
 rw [HR.out,List.length_map]
 obtain⟨n,hn⟩:∃ n,cs.length=n:=⟨_,rfl⟩
 have HN:=zH hn
 rw [hn] at hln HFL ⊢
 have HOK:=zH hok
 have hn4:n≤8000000:=by omega
 clear hcs hok hn hln HR
 go_enter Tryz.func143,Tryz.ntmps143
 go_wp2_with (go_at_call 28;((with_reducible refine HFL.out.mono ?_);rintro e w1 ⟨v,rfl,hb1,hrow⟩;obtain⟨A,c,rfl,hc1,hc2,hA⟩:=slice_form2 hrow;have HA:=zH hA;have HB1:=zH hb1;have HR1:=zH hrow;clear hA hrow hb1))
 go_loopw [9] (fun i wr=>∃ k:Nat,i=.int .i64 k∧k≤n∧Hid (wr.ownsRow w.heap.size 78 2 (.slice A n c) n (cv (lnM cs k)))∧Hid (Below w.heap.size w wr)) (fun i _=>n - (intOf i).toNat)
 case atStart=>exact⟨0,rfl,by omega,by rw [lnM_zero];exact HR1,HB1⟩
 case round=>
  obtain⟨k,rfl,hk,HR,HBE⟩:=hrel
  by_cases hlt:k<n
  ·have hltI:(k:Int)<(n:Int):=by omega
   obtain⟨g,rfl,hgB,_,_⟩:=HA.out (by omega)
   obtain⟨y,hy⟩:∃ y,cs[k]?=some y:=⟨_,List.getElem?_eq_getElem (by have:=HN.out;omega)⟩
   have hgt:=cv_get _ k y (lnM_get hy)
   have c0:wr.cell? ⟨g,k*2,none⟩=some (.string (mkS y.1)):=(HR.out.cellAt (k*2) (by omega)).trans hgt.1
   have c1:wr.cell? ⟨g,k*2+1,none⟩=some (.int .i64 y.2):=(HR.out.cellAt (k*2+1) (by omega)).trans hgt.2
   have f0:=HR.out.frozenAt (k*2)
   have f1:=HR.out.frozenAt (k*2+1)
   have hlg:=(World.ownsRow.lt HR.out g rfl).2
   have hln:=line_mk (HOK.out y (List.mem_of_getElem? hy))
   have hkl:k<(lnM cs k).length:=by rw [lnM_len,HN.out];exact hlt
   have HKL:=zH hkl
   have HSET:=zH (lnM_set hy)
   have HKEEP:=zH (fun h=>lnM_keep hy h)
   have HY:Hid (y.1=[10]→lnC y=([32],1)):=zH fun h=>if_pos h
   obtain⟨t,ht⟩:∃ t,mkS y.1=t:=⟨_,rfl⟩
   rw [ht] at c0 hln
   obtain⟨z,hz⟩:∃ z,y.2=z:=⟨_,rfl⟩
   rw [hz] at c1
   by_cases hlf:y.1=[10]
   ·have e:=hln.2 hlf
    have HC:Hid (cv (lnM cs (k+1))=((cv (lnM cs k)).set (k*2) (.string ⟨#[32]⟩)).set (k*2+1) (.int .i64 1)):=zH (by
     rw [← HSET.out,HY.out hlf,cvl_set HKL.out];rfl)
    subst e
    clear hgt hln ht hlf hy hz hkl
    go_wp2
    go_roundw
    case rel=>exact⟨k+1,by first|rfl|go_num,by omega,by rw [HC.out];exact zH ((HR.out.stored (k*2) (.string ⟨#[32]⟩)).1.stored (k*2+1) (.int .i64 1)).1,zH ((HBE.out.setCell (p:=⟨g,k*2,none⟩) hgB _).setCell (p:=⟨g,k*2+1,none⟩) hgB _)⟩
    case measure=>simp [intOf]<;>omega
   ·have e1:¬ t=⟨#[10]⟩:=fun h=>hlf (hln.1 h)
    have e2:(t.toList == [10])=false:=by simp;exact fun h=>e1 (ba_toList h)
    have HM:Hid (lnM cs (k+1)=lnM cs k):=zH (HKEEP.out hlf)
    clear hgt hln ht hlf hy hz hkl
    go_wp2
    go_roundw
    case rel=>exact⟨k+1,by first|rfl|go_num,by omega,by rw [HM.out];exact HR,HBE⟩
    case measure=>simp [intOf]<;>omega
  ·have hltI:decide ((k:Int)<(n:Int))=false:=decide_eq_false (by omega)
   obtain rfl:k=n:=by omega
   have HF:=zH (lnM_full HN.out)
   go_wp2
   go_ret
   exact⟨_,rfl,HBE.out,by rw [← HF.out];exact HR.out⟩
def Txt (m:Nat) (w:World) (e:Ending) (w':World):Prop:=∃ t:ByteArray,e=.returned (.string t)∧t.size≤m∧Below w.heap.size w w'
set_option maxRecDepth 100000 in
theorem blanks_any (n:Nat) (h:n≤1000000) (w:World):Calls Tryz.prog 144 #[.int .i64 n] w (Txt n w):=by
 have HC:Hid (Calls Tryz.prog 80 #[.string ⟨#[32]⟩,.int .i64 n] w (Txt n w)):=zH (by
  rcases Nat.lt_or_ge n 2 with h2|h2
  ·rcases (show n=0∨n=1 by omega) with rfl|rfl
   ·exact(Tryz.strings_Repeat_zero _ w).mono fun e w' ⟨h1,h2⟩=>⟨_,h1,Nat.le_refl 0,by rw [h2];exact Below.refl _ _⟩
   ·exact(Tryz.strings_Repeat_one _ w).mono fun e w' ⟨h1,h2⟩=>⟨_,h1,by decide,by rw [h2];exact Below.refl _ _⟩
  ·refine(Tryz.strings_Repeat_main ⟨#[32]⟩ n w h2 (by omega) ?_ (by decide)).mono fun e w' ⟨h1,h2⟩=>⟨_,h1,?_,h2⟩
   ·have:(⟨#[32]⟩:ByteArray).size=1:=rfl
    rw [this];omega
   ·have:(Lib.repeatL [32] n).length=n*1:=Lib.repeatL_length _ _
    simp [ByteArray.size,this])
 go_enter Tryz.func144,Tryz.ntmps144
 go_wp2_with (go_at_call 80;((with_reducible refine HC.out.mono ?_);rintro e1' w4 ⟨s,rfl,hs,hb⟩))
 go_ret
 exact⟨s,rfl,hs,hb⟩
end Go.Proofs.YtlenbcmgjancmaaGreatDoor
namespace Go.Proofs.YtlenbcmgjancmaaGreatDoor
open Go.RowKit
theorem seeOf {w:World} {B:Nat} {v:Value} {cs:List Cl} (h:w.ownsRow B 78 2 v cs.length (cv cs)):∃ A c,v=.slice A cs.length c∧cs.length≤c∧c≤maxLen∧SeeC w A cs.length cs:=by
 obtain⟨A,c,rfl,h1,h2,hA⟩:=slice_form2 h
 refine⟨A,c,rfl,h1,h2,rfl,fun hn=>?_⟩
 obtain⟨g,rfl,_,hg,hc⟩:=hA hn
 refine⟨g,0,rfl,hg,fun i y hi=>?_⟩
 have:=cv_get cs i y hi
 rw [Nat.zero_add]
 exact⟨hc _ _ this.1,hc _ _ this.2⟩
def Seen (cs:List Cl):Prop:=∀ c ∈ cs,okC c∧c.1.length≤64∧1≤c.2
theorem Seen.take {cs:List Cl} (h:Seen cs) (k:Nat):Seen (cs.take k):=fun c hc=>h c (List.mem_of_mem_take hc)
theorem Seen.len {cs:List Cl} (h:Seen cs):cs.length≤wideS cs:=by
 unfold wideS
 induction cs with
 |nil=>simp
 |cons c cs ih=>
  have h1:=(h c (by simp)).2.2
  have h2:=ih fun x hx=>h x (by simp [hx])
  simp only [List.length_cons,List.map_cons,List.sum_cons]
  omega
theorem Seen.join {cs:List Cl} (h:Seen cs) {W:Nat} (hw:wideS cs≤W):(mkS (joinB cs)).size≤64*W:=by
 rw [mkS_size]
 have h1:=joinB_len cs fun c hc=>(h c hc).2.1
 have h2:=h.len
 omega
theorem fit_wide (cs:List Cl) (w:Nat):wideS (cs.take (fitS cs w))≤w:=(fitS_iff cs w (fitS cs w) (fitS_le cs w)).1 (Nat.le_refl _)
theorem join_txt {A:Option Addr} {c n m:Nat} {cs:List Cl} {w:World} (hS:SeeC w A n cs) (h:Seen cs) (hn:n≤10000000) (hw:wideS cs≤m):Calls Tryz.prog 78 #[.slice A n c] w (Txt (64*m) w) :=
 (join_any A c n cs w hS (by omega) fun x hx=>(h x hx).2.1).mono fun e w' ⟨h1,h2⟩=>⟨_,h1,h.join hw,h2⟩
theorem wide_seen {A:Option Addr} {n:Nat} {cs:List Cl} {w:World} (hS:SeeC w A n cs) (h:Seen cs) (hn:n≤10000000) (c:Nat):Calls Tryz.prog 77 #[.slice A n c] w (VBel (.int .i64 (wideS cs)) w) :=
 wide_any A c n cs w hS (by omega) fun x hx=>(h x hx).1.1
theorem fit_seen {A:Option Addr} {n:Nat} {cs:List Cl} {w:World} (hS:SeeC w A n cs) (h:Seen cs) (hn:n≤10000000) (w0:Nat) (hw:w0≤4096) (c:Nat):Calls Tryz.prog 79 #[.slice A n c,.int .i64 w0] w (VBel (.int .i64 (fitS cs w0)) w) :=
 fit_any A c n w0 cs w hS (by omega) (by omega) fun x hx=>(h x hx).1.1
set_option maxRecDepth 100000 in
set_option maxHeartbeats 2000000 in
theorem trim_any (s:ByteArray) (hs:s.size≤1000000) (wd:Nat) (hw:wd≤4096) (w:World):Calls Tryz.prog 109 #[.string s,.int .i64 wd,.string ⟨#[226,128,166]⟩,.int .i8 1] w (Txt 600000 w):=by
 have HL:=zH (fun W=>line_any s (by omega) W)
 have HM:=zH (fun W=>line_any ⟨#[226,128,166]⟩ (by decide) W)
 have hsl:Seen (lnS s.data.toList):=lnS_ok _
 have hsm:Seen (lnS (⟨#[226,128,166]⟩:ByteArray).data.toList):=lnS_ok _
 have hll:=lnS_len s.data.toList
 have hlm:=lnS_len (⟨#[226,128,166]⟩:ByteArray).data.toList
 rw [blen] at hll hlm
 have hm3:(⟨#[226,128,166]⟩:ByteArray).size=3:=rfl
 rw [hm3] at hlm
 generalize lnS s.data.toList=L at HL hsl hll
 generalize lnS (⟨#[226,128,166]⟩:ByteArray).data.toList=M at HM hsm hlm
 obtain⟨n,hn⟩:∃ n,L.length=n:=⟨_,rfl⟩
 obtain⟨m,hm⟩:∃ m,M.length=m:=⟨_,rfl⟩
 have HSL:=zH hsl
 have HSM:=zH hsm
 have HN:=zH hn
 have HMN:=zH hm
 rw [hn] at hll
 rw [hm] at hlm
 have hn4:n≤4000000:=by omega
 have e1:min (max (wd:Int) 0) 4096=(wd:Int):=by omega
 have e2:min (wd:Int) 4096=(wd:Int):=by omega
 have e3:max (wd:Int) 0=(wd:Int):=by omega
 obtain⟨wl,hwl⟩:∃ wl,wideS L=wl:=⟨_,rfl⟩
 have HWL:=zH hwl
 clear hsl hsm hn hm hll hwl hm3 hs
 by_cases hle:wl≤wd
 ·have hleI:(wl:Int)≤(wd:Int):=by omega
  go_enter Tryz.func109,Tryz.ntmps109
  go_wp2_with (first|(go_at_call 143;((with_reducible refine(HL.out _).mono ?_);rintro e1' w1 ⟨v,rfl,hb,hrow⟩;obtain⟨A1,c1,rfl,hc11,hc21,hA1⟩:=seeOf hrow;have HS1:=zH hA1;have HB1:=zH hb;have hz1:=hb.size;clear hrow hA1 hb))|(go_at_call 77;((with_reducible refine(wide_seen HS1.out HSL.out (by rw [HN.out];omega) c1).mono ?_);rintro e1' w2 ⟨rfl,hb2⟩;rw [HWL.out];have HS2:=zH (HS1.out.below hb2)))|(go_at_call 78;((with_reducible refine(join_txt (c:=c1) HS2.out HSL.out (by rw [HN.out];omega) (m:=wd) (by rw [HWL.out];exact hle)).mono ?_);rintro e1' w3 ⟨t,rfl,ht,hb3⟩)))
  go_ret
  exact⟨t,rfl,by omega,HB1.out.trans ((hb2.trans (hb3.mono hb2.size)).mono hz1)⟩
 ·have hleI:decide ((wl:Int)≤(wd:Int))=false:=decide_eq_false (by omega)
  go_enter Tryz.func109,Tryz.ntmps109
  go_upto_region 5 with (first|(go_at_call 143;((with_reducible refine(HL.out _).mono ?_);rintro e1' w1 ⟨v,rfl,hb,hrow⟩;obtain⟨A1,c1,rfl,hc11,hc21,hA1⟩:=seeOf hrow;have HS1:=zH hA1;have HB1:=zH hb;have hz1:=hb.size;clear hrow hA1 hb))|(go_at_call 77;((with_reducible refine(wide_seen HS1.out HSL.out (by rw [HN.out];omega) c1).mono ?_);rintro e1' w2 ⟨rfl,hb2⟩;rw [HWL.out];have HS2:=zH (HS1.out.below hb2);have HB2:=zH hb2)))
  go_upto_region 6 with (first|(go_at_call 143;((with_reducible refine(HM.out _).mono ?_);rintro e1' w3 ⟨v,rfl,hb,hrow⟩;obtain⟨A3,c3,rfl,hc13,hc23,hA3⟩:=seeOf hrow;have HS3:=zH hA3;have HB3:=zH hb;have hz3:=hb.size;clear hrow hA3 hb)))
  have hft:=fitS_le M wd
  have hfw:=fit_wide M wd
  obtain⟨f,hf⟩:∃ f,fitS M wd=f:=⟨_,rfl⟩
  rw [hf] at hft hfw
  have HFT:=zH (fun W hS=>hf ▸ fit_seen (w:=W) (A:=A3) (n:=M.length) (cs:=M) hS HSM.out (by rw [HMN.out];omega) wd hw c3)
  have hfI:(f:Int)≤(c3:Int):=by omega
  clear hf
  obtain⟨wm,hwm⟩:∃ wm,wideS (M.take f)=wm:=⟨_,rfl⟩
  have HWM:=zH hwm
  rw [hwm] at hfw
  obtain⟨nn,hnn⟩:∃ nn:Nat,(wd:Int) - (wm:Int)=(nn:Int):=⟨wd - wm,by omega⟩
  have hnw:nn≤4096:=by omega
  have hgt:=fitS_le L nn
  have hgw:=fit_wide L nn
  obtain⟨g,hg⟩:∃ g,fitS L nn=g:=⟨_,rfl⟩
  rw [hg] at hgt hgw
  have HGT:=zH (fun W hS=>hg ▸ fit_seen (w:=W) (A:=A1) (n:=L.length) (cs:=L) hS HSL.out (by rw [HN.out];omega) nn hnw c1)
  have hgI:(g:Int)≤(c1:Int):=by omega
  have HGW:=zH hgw
  have HFW:Hid (wideS (M.take f)≤wd):=zH (by rw [hwm];exact hfw)
  have HFL:=zH hft
  have HGL:=zH hgt
  have HF3:Hid (f≤10000000):=zH (by have:=HMN.out;omega)
  have HG3:Hid (g≤10000000):=zH (by have:=HN.out;omega)
  have HZ2:=zH (HB1.out.trans (HB2.out.mono hz1))
  have HZ3:=zH (HZ2.out.trans (HB3.out.mono HZ2.out.size))
  have HS23:=zH (HS2.out.below HB3.out)
  clear hg hwm hgw hfw hft hgt
  go_wp2_with (first|(go_at_call 79;((with_reducible refine(HFT.out _ HS3.out).mono ?_);rintro e1' w4 ⟨rfl,hb4⟩;have HZ4:=zH (HZ3.out.trans (hb4.mono HZ3.out.size));have HM4:=zH ((HS3.out.below hb4).take HFL.out);have HL4:=zH (HS23.out.below hb4);clear hb4))|(go_at_call 77;((with_reducible refine(wide_seen HM4.out (HSM.out.take f) HF3.out c3).mono ?_);rintro e1' w5 ⟨rfl,hb5⟩;rw [HWM.out];have HZ5:=zH (HZ4.out.trans (hb5.mono HZ4.out.size));have HM5:=zH (HM4.out.below hb5);have HL5:=zH (HL4.out.below hb5);clear hb5))|(go_at_call 79;((with_reducible refine(HGT.out _ HL5.out).mono ?_);rintro e1' w6 ⟨rfl,hb6⟩;have HZ6:=zH (HZ5.out.trans (hb6.mono HZ5.out.size));have HM6:=zH (HM5.out.below hb6);have HL6:=zH ((HL5.out.below hb6).take HGL.out);clear hb6))|(go_at_call 78;((with_reducible refine(join_txt (c:=c1) HL6.out (HSL.out.take g) HG3.out HGW.out).mono ?_);rintro e1' w7 ⟨t7,rfl,ht7,hb7⟩;have HZ7:=zH (HZ6.out.trans (hb7.mono HZ6.out.size));have HM7:=zH (HM6.out.below hb7);clear hb7))|(go_at_call 78;((with_reducible refine(join_txt (c:=c3) HM7.out (HSM.out.take f) HF3.out HFW.out).mono ?_);rintro e1' w8 ⟨t8,rfl,ht8,hb8⟩;have HZ8:=zH (HZ7.out.trans (hb8.mono HZ7.out.size));clear hb8)))
  go_ret
  exact⟨_,rfl,by simp;omega,HZ8.out⟩
set_option maxRecDepth 100000 in
set_option maxHeartbeats 2000000 in
theorem align_any (s:ByteArray) (hs:s.size≤1000000) (wd:Nat) (hw:wd≤4096) (w:World):Calls Tryz.prog 108 #[.string s,.int .i64 wd,.int .i8 0] w (Txt 300000 w):=by
 have HL:=zH (fun W=>line_any s (by omega) W)
 have hsl:Seen (lnS s.data.toList):=lnS_ok _
 have hll:=lnS_len s.data.toList
 rw [blen] at hll
 generalize lnS s.data.toList=L at HL hsl hll
 obtain⟨n,hn⟩:∃ n,L.length=n:=⟨_,rfl⟩
 have HSL:=zH hsl
 have HN:=zH hn
 rw [hn] at hll
 have hn4:n≤4000000:=by omega
 have e1:min (max (wd:Int) 0) 4096=(wd:Int):=by omega
 have e2:min (wd:Int) 4096=(wd:Int):=by omega
 have e3:max (wd:Int) 0=(wd:Int):=by omega
 have hgt:=fitS_le L wd
 have hgw:=fit_wide L wd
 obtain⟨g,hg⟩:∃ g,fitS L wd=g:=⟨_,rfl⟩
 rw [hg] at hgt hgw
 obtain⟨wm,hwm⟩:∃ wm,wideS (L.take g)=wm:=⟨_,rfl⟩
 have HGT:=zH (fun (W:World) A c hS=>hg ▸ fit_seen (w:=W) (A:=A) (n:=L.length) (cs:=L) hS HSL.out (by rw [HN.out];omega) wd hw c)
 have HGW:=zH hgw
 have HWM:=zH hwm
 rw [hwm] at hgw
 obtain⟨nn,hnn⟩:∃ nn:Nat,(wd:Int) - (wm:Int)=(nn:Int):=⟨wd - wm,by omega⟩
 have hnw:nn≤4096:=by omega
 have HBL:=zH (fun W=>blanks_any nn (by omega) W)
 have HG3:Hid (g≤10000000):=zH (by omega)
 have HGL:=zH hgt
 clear hsl hn hll hs hg hwm hgw hgt
 go_enter Tryz.func108,Tryz.ntmps108
 go_upto_region 3 with (go_at_call 143;((with_reducible refine(HL.out _).mono ?_);rintro e1' w1 ⟨v,rfl,hb,hrow⟩;obtain⟨A1,c1,rfl,hc11,hc21,hA1⟩:=seeOf hrow;have HS1:=zH hA1;have HB1:=zH hb;have hz1:=hb.size;clear hrow hA1 hb))
 have hgI:(g:Int)≤(c1:Int):=by have:=HGL.out;omega
 go_wp2_with (first|(go_at_call 79;((with_reducible refine(HGT.out _ _ c1 HS1.out).mono ?_);rintro e1' w4 ⟨rfl,hb4⟩;have HZ4:=zH (HB1.out.trans (hb4.mono HB1.out.size));have HM4:=zH ((HS1.out.below hb4).take HGL.out);clear hb4))|(go_at_call 77;((with_reducible refine(wide_seen HM4.out (HSL.out.take g) HG3.out c1).mono ?_);rintro e1' w5 ⟨rfl,hb5⟩;rw [HWM.out];have HZ5:=zH (HZ4.out.trans (hb5.mono HZ4.out.size));have HM5:=zH (HM4.out.below hb5);clear hb5))|(go_at_call 78;((with_reducible refine(join_txt (c:=c1) HM5.out (HSL.out.take g) HG3.out HGW.out).mono ?_);rintro e1' w7 ⟨t7,rfl,ht7,hb7⟩;have HZ7:=zH (HZ5.out.trans (hb7.mono HZ5.out.size));clear hb7))|(go_at_call 144;((with_reducible refine(HBL.out _).mono ?_);rintro e1' w8 ⟨t8,rfl,ht8,hb8⟩;have HZ8:=zH (HZ7.out.trans (hb8.mono HZ7.out.size));clear hb8)))
 go_ret
 exact⟨_,rfl,by simp;omega,HZ8.out⟩
end Go.Proofs.YtlenbcmgjancmaaGreatDoor
namespace Go.Proofs.YtlenbcmgjancmaaGreatDoor
open Go.RowKit
set_option maxRecDepth 100000 in
theorem gletter_any (x:Int) (w:World):Calls Tryz.prog 167 #[.int .i8 x] w (fun e w'=>∃ b:Int,e=.returned (.int .u8 b)∧w'=w):=by
 by_cases h1:x=1
 ·subst h1
  go_enter Tryz.func167,Tryz.ntmps167
  go_wp2
  go_ret
  exact⟨_,rfl,rfl⟩
 by_cases h2:x=2
 ·subst h2
  go_enter Tryz.func167,Tryz.ntmps167
  go_wp2
  go_ret
  exact⟨_,rfl,rfl⟩
 by_cases h3:x=3
 ·subst h3
  go_enter Tryz.func167,Tryz.ntmps167
  go_wp2
  go_ret
  exact⟨_,rfl,rfl⟩
 by_cases h4:x=4
 ·subst h4
  go_enter Tryz.func167,Tryz.ntmps167
  go_wp2
  go_ret
  exact⟨_,rfl,rfl⟩
 go_enter Tryz.func167,Tryz.ntmps167
 go_wp2
 go_ret
 exact⟨_,rfl,rfl⟩
set_option maxRecDepth 100000 in
theorem gkind_any (x:Int) (w:World):Calls Tryz.prog 166 #[.int .u8 x] w (fun e w'=>∃ b:Int,e=.returned (.int .i8 b)∧w'=w):=by
 by_cases h1:x=76
 ·subst h1
  go_enter Tryz.func166,Tryz.ntmps166
  go_wp2
  go_ret
  exact⟨_,rfl,rfl⟩
 by_cases h2:x=72
 ·subst h2
  go_enter Tryz.func166,Tryz.ntmps166
  go_wp2
  go_ret
  exact⟨_,rfl,rfl⟩
 by_cases h3:x=68
 ·subst h3
  go_enter Tryz.func166,Tryz.ntmps166
  go_wp2
  go_ret
  exact⟨_,rfl,rfl⟩
 by_cases h4:x=82
 ·subst h4
  go_enter Tryz.func166,Tryz.ntmps166
  go_wp2
  go_ret
  exact⟨_,rfl,rfl⟩
 go_enter Tryz.func166,Tryz.ntmps166
 go_wp2
 go_ret
 exact⟨_,rfl,rfl⟩
def Ar (W:World) (b:Nat):Prop:=∃ (x y z v:Int) (e:TypeId),Arr W b [.int .i8 x,.int .i8 y,.int .i8 z,.int .i8 v] e
theorem Ar.lt {W:World} {b:Nat} (h:Ar W b):b<W.heap.size:=h.elim fun _ h=>h.elim fun _ h=>h.elim fun _ h=>h.elim fun _ h=>h.elim fun _ h=>h.lt
theorem Ar.froz {W:World} {b:Nat} (h:Ar W b) (j:Nat):W.frozen? ⟨b,j,none⟩=false:=h.elim fun _ h=>h.elim fun _ h=>h.elim fun _ h=>h.elim fun _ h=>h.elim fun _ h=>h.froz j
theorem Ar.set {W:World} {b:Nat} (h:Ar W b) (j:Nat) (v:Int):Ar (W.setCell ⟨b,j,none⟩ (.int .i8 v)) b:=by
 obtain⟨x,y,z,t,e,h⟩:=h
 have:=h.set j (.int .i8 v)
 rcases j with _|_|_|_|j
 ·exact⟨_,_,_,_,_,this⟩
 ·exact⟨_,_,_,_,_,this⟩
 ·exact⟨_,_,_,_,_,this⟩
 ·exact⟨_,_,_,_,_,this⟩
 ·exact⟨_,_,_,_,_,this⟩
theorem Ar.cell {W:World} {b:Nat} (h:Ar W b) {j:Nat} (hj:j<4):∃ x:Int,W.cell? ⟨b,j,none⟩=some (.int .i8 x):=by
 obtain⟨x,y,z,t,e,h⟩:=h
 rcases (show j=0∨j=1∨j=2∨j=3 by omega) with rfl|rfl|rfl|rfl
 ·exact⟨_,h.cell rfl⟩
 ·exact⟨_,h.cell rfl⟩
 ·exact⟨_,h.cell rfl⟩
 ·exact⟨_,h.cell rfl⟩
theorem Ar.other {W:World} {b b':Nat} (h:Ar W b) (hne:b ≠ b') (j:Nat) (v:Value):Ar (W.setCell ⟨b',j,none⟩ v) b:=by
 obtain⟨x,y,z,t,e,h⟩:=h
 exact⟨_,_,_,_,_,h.other hne j v⟩
theorem Ar.below {W W':World} {b:Nat} (h:Ar W b) (hb:Below W.heap.size W W'):Ar W' b:=by
 obtain⟨x,y,z,t,e,h⟩:=h
 exact⟨_,_,_,_,_,h.below hb⟩
theorem Ar.alloc {W:World} {b:Nat} (h:Ar W b) (o:Obj):Ar (W.alloc o) b:=by
 obtain⟨x,y,z,t,e,h⟩:=h
 exact⟨_,_,_,_,_,h.alloc o⟩
theorem Ar.made (W:World) (x y z v:Int) (e:TypeId):Ar (W.alloc (.cells #[.int .i8 x,.int .i8 y,.int .i8 z,.int .i8 v] e)) W.heap.size:=⟨x,y,z,v,e,heap_alloc_new W _⟩
theorem arms_one {fn:Func} {p:Tmp} (h:fn.results = #[.cell p 148]) {tmps:Array Value} {W:World} {b:Nat} (hp:tmps.getD p undef=.pointer (some ⟨b,0,none⟩)) (ho:Ar W b) :
  ∃ x y z v:Int,(results fn tmps).run Tryz.prog W=.ok (.agg #[.int .i8 x,.int .i8 y,.int .i8 z,.int .i8 v]) W:=by
 obtain⟨x,y,z,v,e,ho⟩:=ho
 exact⟨x,y,z,v,results_cell_row h tmps W b _ _ _ _ hp ho Tryz.underlying148 rfl (show (Tryz.prog.info? 148).map (·.size)=some 4 by kernel_rfl)⟩
theorem arms_two {fn:Func} {p u:Tmp} (h:fn.results = #[.cell p 148,.tmp u]) {tmps:Array Value} {W:World} {b:Nat} (hp:tmps.getD p undef=.pointer (some ⟨b,0,none⟩)) (ho:Ar W b) :
  ∃ x y z v:Int,(results fn tmps).run Tryz.prog W=.ok (.tuple #[.agg #[.int .i8 x,.int .i8 y,.int .i8 z,.int .i8 v],tmps.getD u undef]) W:=by
 obtain⟨x,y,z,v,e,ho⟩:=ho
 refine⟨x,y,z,v,?_⟩
 rw [results_cell_tmp h,hp]
 have:=run_loadVar_row (P:=Tryz.prog) W b e 148 _ (0,0) _ ho Tryz.underlying148 rfl (show (Tryz.prog.info? 148).map (·.size)=some 4 by kernel_rfl)
 simp [asAddr,this,Result.andThen]
theorem arms_ret {fn:Func} {p u:Tmp} (h:fn.results = #[.cell p 148,.tmp u]) {R:Ending→World→Prop} {a:Act} {W:World} {b:Nat} (hp:a.tmps.getD p undef=.pointer (some ⟨b,0,none⟩)) (hd:a.defers=[]) (ho:Ar W b)
  (hR:∀ x y z v:Int,R (.returned (.tuple #[.agg #[.int .i8 x,.int .i8 y,.int .i8 z,.int .i8 v],a.tmps.getD u undef])) W):bodyPost Tryz.prog fn R .ret a W:=by
 obtain⟨x,y,z,v,hq⟩:=arms_two h hp ho
 exact bodyPost_ret hq hd (hR x y z v)
theorem arms_ret1 {fn:Func} {p:Tmp} (h:fn.results = #[.cell p 148]) {R:Ending→World→Prop} {a:Act} {W:World} {b:Nat} (hp:a.tmps.getD p undef=.pointer (some ⟨b,0,none⟩)) (hd:a.defers=[]) (ho:Ar W b)
  (hR:∀ x y z v:Int,R (.returned (.agg #[.int .i8 x,.int .i8 y,.int .i8 z,.int .i8 v])) W):bodyPost Tryz.prog fn R .ret a W:=by
 obtain⟨x,y,z,v,hq⟩:=arms_one h hp ho
 exact bodyPost_ret hq hd (hR x y z v)
def lettersB:ByteArray:=⟨#[45,76,45,76,45,72,45,72,76,45,76,45,72,45,72,45,46,46,46,46,46,46,46,46,46,46,46,46,46,46,46,46,46,46,46,46,46,46,46,46,46,46,46,46,46,46,46,46,45,76,76,45,45,72,76,45,45,76,72,45,45,72,72,45,45,45,76,76,45,45,76,72,45,45,72,76,45,45,72,72,76,76,45,45,76,72,45,45,72,76,45,45,72,72,45,45,76,45,45,76,76,45,45,72,72,45,45,76,72,45,45,72,76,76,76,45,76,72,76,45,72,76,76,45,76,76,72,45,72,76,72,45,72,72,76,45,76,72,72,45,72,72,72,45,76,45,76,76,76,45,76,72,72,45,76,76,76,45,72,76,72,45,72,76,72,45,76,72,76,45,72,72,72,45,72,72,45,76,76,76,45,76,76,72,45,72,76,76,45,72,76,72,45,76,72,76,45,76,72,72,45,72,72,76,45,72,72,72,76,76,45,76,76,76,45,72,76,72,45,76,76,72,45,72,72,76,45,76,72,76,45,72,72,72,45,76,72,72,45,72,76,76,76,76,76,76,76,72,76,72,76,76,76,72,76,72,72,76,76,76,76,76,72,76,72,76,72,76,72,76,76,72,72,72,76,76,76,76,72,72,76,72,72,76,72,72,76,72,76,72,72,72,72,76,72,72,72,72,72,76,72,72,72,72,46,46,46,46,46,46,46,46,46,46,46,46,46,46,46,46,45,68,45,68,68,45,68,45,45,68,76,45,45,76,68,45,45,68,68,45,45,45,76,68,45,45,68,76,45,45,68,68,76,68,45,45,68,76,45,45,68,68,45,45,76,45,45,68,68,45,45,76,68,45,45,68,76,68,76,45,68,76,68,45,68,68,68,45,76,45,76,68,68,45,68,76,68,45,68,68,45,68,76,68,45,76,68,76,45,68,68,68,76,68,45,68,68,76,45,76,68,68,45,68,76,68,76,68,68,76,68,76,68,68,68,68,45,82,82,45,45,45,82,82,82,45,45,82,82,82,45,45,46,46,46,46,46,46,46,46,46,46,46,46,45,45,45,76,76,45,45,45,45,76,45,45,45,45,76,45,45,45,45,72,72,45,45,45,45,72,45,45,45,45,72,45,45,72,45,76,76,45,72,45,45,76,45,72,72,45,76,45]⟩
theorem lettersB_eq (a:Array UInt8) (h:a=lettersB.data):ByteArray.mk a=lettersB:=by rw [h]
theorem lettersB_size:lettersB.size=512:=by kernel_rfl
set_option maxRecDepth 100000 in
set_option maxHeartbeats 2000000 in
theorem gof_any (k:Nat) (hk:k<128) (w:World):Calls Tryz.prog 168 #[.int .i32 (9472+k)] w (fun e w'=>∃ (x y z v:Int) (t:Bool),e=.returned (.tuple #[.agg #[.int .i8 x,.int .i8 y,.int .i8 z,.int .i8 v],.bool t])∧Below w.heap.size w w'):=by
 have k1:decide ((9472:Int)+k<9472)=false:=decide_eq_false (by omega)
 have k2:decide ((9599:Int)<9472+k)=false:=decide_eq_false (by omega)
 obtain⟨S,hS⟩:∃ S,lettersB=S:=⟨_,rfl⟩
 have hSz:=lettersB_size
 have hEq:=lettersB_eq
 rw [hS] at hSz hEq
 go_enter Tryz.func168,Tryz.ntmps168
 rw [hEq]
 case h=>rw [← hS];kernel_rfl
 clear hEq hS
 go_upto_region 5 with (fail)
 have h4:((S.extract (4*k) 512).extract 0 4).size=4:=by simp;omega
 generalize (S.extract (4*k) 512).extract 0 4=four at h4 ⊢
 generalize S.extract (4*(9472+k - 9472)) 512=oth
 clear hSz
 have hA2:Ar ((w.alloc (.cells #[.int .i8 0,.int .i8 0,.int .i8 0,.int .i8 0] 148)).alloc (.cells #[.int .i8 0,.int .i8 0,.int .i8 0,.int .i8 0] 148)) w.heap.size:=(Ar.made w 0 0 0 0 _).alloc _
 have hA4:Ar ((w.alloc (.cells #[.int .i8 0,.int .i8 0,.int .i8 0,.int .i8 0] 148)).alloc (.cells #[.int .i8 0,.int .i8 0,.int .i8 0,.int .i8 0] 148)) (w.heap.size+1):=by
  have:=Ar.made (w.alloc (.cells #[.int .i8 0,.int .i8 0,.int .i8 0,.int .i8 0] 148)) 0 0 0 0 148
  simpa using this
 have hB:Below w.heap.size w ((w.alloc (.cells #[.int .i8 0,.int .i8 0,.int .i8 0,.int .i8 0] 148)).alloc (.cells #[.int .i8 0,.int .i8 0,.int .i8 0,.int .i8 0] 148)):=by(repeat (first|exact Below.refl _ _|assumption|refine below_drewN ?_ _|refine Below.drew ?_|(refine Below.alloc ?_ ?bs _;(case bs=>first|omega|(simp;done)|(simp;omega)))|(refine Below.setCell ?_ ?bs _;(case bs=>first|omega|(simp;done)|(simp;omega)))))
 go_upto_region 5 with (fail)
 generalize (w.alloc (.cells #[.int .i8 0,.int .i8 0,.int .i8 0,.int .i8 0] 148)).alloc (.cells #[.int .i8 0,.int .i8 0,.int .i8 0,.int .i8 0] 148)=W at hA2 hA4 hB ⊢
 have HA2:=zH hA2
 have HA4:=zH hA4
 have HB:=zH hB
 have l2:=hA2.lt
 have l4:=hA4.lt
 obtain⟨x0,y0⟩:=hA4.cell (j:=0) (by omega)
 obtain⟨x1,y1⟩:=hA4.cell (j:=1) (by omega)
 obtain⟨x2,y2⟩:=hA4.cell (j:=2) (by omega)
 obtain⟨x3,y3⟩:=hA4.cell (j:=3) (by omega)
 obtain⟨z0,t0⟩:=hA2.cell (j:=0) (by omega)
 obtain⟨z1,t1⟩:=hA2.cell (j:=1) (by omega)
 obtain⟨z2,t2⟩:=hA2.cell (j:=2) (by omega)
 obtain⟨z3,t3⟩:=hA2.cell (j:=3) (by omega)
 have f0:=hA2.froz 0
 have f1:=hA2.froz 1
 have f2:=hA2.froz 2
 have f3:=hA2.froz 3
 clear hA2 hA4 hB
 go_wp2
 ·have hR:=((((HA2.out.set 0 x0).set 1 x1).set 2 x2).set 3 x3)
  refine arms_ret (p:=2) (u:=3) rfl rfl rfl hR fun a b c d=>⟨a,b,c,d,_,rfl,?_⟩
  have h0:w.heap.size≤w.heap.size:=Nat.le_refl _
  exact(((HB.out.setCell (p:=⟨w.heap.size,0,none⟩) h0 _).setCell (p:=⟨w.heap.size,1,none⟩) h0 _).setCell (p:=⟨w.heap.size,2,none⟩) h0 _).setCell (p:=⟨w.heap.size,3,none⟩) h0 _
 ·rename (_ == _)=false=>h46
  clear h46 x0 y0 x1 y1 x2 y2 x3 y3 z0 t0 z1 t1 z2 t2 z3 t3 f0 f1 f2 f3
  go_loopw [23] (fun i wr=>∃ j:Nat,i=.int .i64 j∧j≤4∧Hid (Ar wr w.heap.size)∧Hid (Ar wr (w.heap.size+1))∧Hid (Below w.heap.size w wr)) (fun i _=>4 - (intOf i).toNat)
  case atStart=>exact⟨0,rfl,by omega,HA2,HA4,HB⟩
  case round=>
   obtain⟨j,rfl,hj,HR2,HR4,HRB⟩:=hrel
   have l2:=HR2.out.lt
   have l4:=HR4.out.lt
   by_cases hlt:j<4
   ·have hltI:(j:Int)<4:=by omega
    obtain⟨x,hx⟩:=HR4.out.cell hlt
    have fx:=HR4.out.froz j
    have hjf:j<four.size:=by omega
    go_wp2_with (go_at_call 166;((with_reducible refine(gkind_any _ _).mono ?_);rintro e1' w4 ⟨v,rfl,hw⟩;obtain rfl:=hw.symm))
    go_roundw
    case rel=>exact⟨j+1,by first|rfl|go_num,by omega,zH (HR2.out.other (by omega) _ _),zH (HR4.out.set j v),zH (HRB.out.setCell (p:=⟨w.heap.size+1,j,none⟩) (Nat.le_succ _) _)⟩
    case measure=>simp [intOf]<;>omega
   ·have hltI:decide ((j:Int)<4)=false:=decide_eq_false (by omega)
    obtain rfl:j=4:=by omega
    obtain⟨x0,y0⟩:=HR4.out.cell (j:=0) (by omega)
    obtain⟨x1,y1⟩:=HR4.out.cell (j:=1) (by omega)
    obtain⟨x2,y2⟩:=HR4.out.cell (j:=2) (by omega)
    obtain⟨x3,y3⟩:=HR4.out.cell (j:=3) (by omega)
    obtain⟨z0,t0⟩:=HR2.out.cell (j:=0) (by omega)
    obtain⟨z1,t1⟩:=HR2.out.cell (j:=1) (by omega)
    obtain⟨z2,t2⟩:=HR2.out.cell (j:=2) (by omega)
    obtain⟨z3,t3⟩:=HR2.out.cell (j:=3) (by omega)
    have f0:=HR2.out.froz 0
    have f1:=HR2.out.froz 1
    have f2:=HR2.out.froz 2
    have f3:=HR2.out.froz 3
    go_wp2
    have hR:=((((HR2.out.set 0 x0).set 1 x1).set 2 x2).set 3 x3)
    refine arms_ret (p:=2) (u:=3) rfl rfl rfl hR fun a b c d=>⟨a,b,c,d,_,rfl,?_⟩
    have h0:w.heap.size≤w.heap.size:=Nat.le_refl _
    exact(((HRB.out.setCell (p:=⟨w.heap.size,0,none⟩) h0 _).setCell (p:=⟨w.heap.size,1,none⟩) h0 _).setCell (p:=⟨w.heap.size,2,none⟩) h0 _).setCell (p:=⟨w.heap.size,3,none⟩) h0 _
set_option maxRecDepth 100000 in
set_option maxHeartbeats 2000000 in
theorem gcounted_any (x y z v:Int) (w:World):Calls Tryz.prog 140 #[.agg #[.int .i8 x,.int .i8 y,.int .i8 z,.int .i8 v]] w (fun e w'=>∃ x y z v:Int,e=.returned (.agg #[.int .i8 x,.int .i8 y,.int .i8 z,.int .i8 v])∧Below w.heap.size w w'):=by
 have hA1:Ar ((w.alloc (.cells #[.int .i8 x,.int .i8 y,.int .i8 z,.int .i8 v] 148)).alloc (.cells #[.int .i8 0,.int .i8 0,.int .i8 0,.int .i8 0] 148)) w.heap.size:=(Ar.made w x y z v _).alloc _
 have hA2:Ar ((w.alloc (.cells #[.int .i8 x,.int .i8 y,.int .i8 z,.int .i8 v] 148)).alloc (.cells #[.int .i8 0,.int .i8 0,.int .i8 0,.int .i8 0] 148)) (w.heap.size+1):=by
  have:=Ar.made (w.alloc (.cells #[.int .i8 x,.int .i8 y,.int .i8 z,.int .i8 v] 148)) 0 0 0 0 148
  simpa using this
 have hB:Below w.heap.size w ((w.alloc (.cells #[.int .i8 x,.int .i8 y,.int .i8 z,.int .i8 v] 148)).alloc (.cells #[.int .i8 0,.int .i8 0,.int .i8 0,.int .i8 0] 148)):=by(repeat (first|exact Below.refl _ _|assumption|refine below_drewN ?_ _|refine Below.drew ?_|(refine Below.alloc ?_ ?bs _;(case bs=>first|omega|(simp;done)|(simp;omega)))|(refine Below.setCell ?_ ?bs _;(case bs=>first|omega|(simp;done)|(simp;omega)))))
 go_enter Tryz.func140,Tryz.ntmps140
 go_wp2
 generalize (w.alloc (.cells #[.int .i8 x,.int .i8 y,.int .i8 z,.int .i8 v] 148)).alloc (.cells #[.int .i8 0,.int .i8 0,.int .i8 0,.int .i8 0] 148)=W at hA1 hA2 hB ⊢
 have HA1:=zH hA1
 have HA2:=zH hA2
 have HB:=zH hB
 clear hA1 hA2 hB
 go_loopw [4] (fun i wr=>∃ j:Nat,i=.int .i64 j∧j≤4∧Hid (Ar wr w.heap.size)∧Hid (Ar wr (w.heap.size+1))∧Hid (Below w.heap.size w wr)) (fun i _=>4 - (intOf i).toNat)
 case atStart=>exact⟨0,rfl,by omega,HA1,HA2,HB⟩
 case round=>
  obtain⟨j,rfl,hj,HR1,HR2,HRB⟩:=hrel
  have l1:=HR1.out.lt
  have l2:=HR2.out.lt
  by_cases hlt:j<4
  ·have hltI:(j:Int)<4:=by omega
   obtain⟨x,hx⟩:=HR1.out.cell hlt
   have fx:=HR1.out.froz j
   go_wp2_with (first|(go_at_call 166;((with_reducible refine(gkind_any _ _).mono ?_);rintro e1' w4 ⟨v,rfl,hw⟩;obtain rfl:=hw.symm))|(go_at_call 167;((with_reducible refine(gletter_any _ _).mono ?_);rintro e1' w5 ⟨v5,rfl,hw⟩;obtain rfl:=hw.symm)))
   go_roundw
   case rel=>exact⟨j+1,by first|rfl|go_num,by omega,zH (HR1.out.set j v),zH (HR2.out.other (by omega) _ _),zH (HRB.out.setCell (p:=⟨w.heap.size,j,none⟩) (Nat.le_refl _) _)⟩
   case measure=>simp [intOf]<;>omega
  ·have hltI:decide ((j:Int)<4)=false:=decide_eq_false (by omega)
   obtain rfl:j=4:=by omega
   obtain⟨x0,y0⟩:=HR1.out.cell (j:=0) (by omega)
   obtain⟨x1,y1⟩:=HR1.out.cell (j:=1) (by omega)
   obtain⟨x2,y2⟩:=HR1.out.cell (j:=2) (by omega)
   obtain⟨x3,y3⟩:=HR1.out.cell (j:=3) (by omega)
   obtain⟨z0,t0⟩:=HR2.out.cell (j:=0) (by omega)
   obtain⟨z1,t1⟩:=HR2.out.cell (j:=1) (by omega)
   obtain⟨z2,t2⟩:=HR2.out.cell (j:=2) (by omega)
   obtain⟨z3,t3⟩:=HR2.out.cell (j:=3) (by omega)
   have f0:=HR2.out.froz 0
   have f1:=HR2.out.froz 1
   have f2:=HR2.out.froz 2
   have f3:=HR2.out.froz 3
   go_wp2
   have hR:=((((HR2.out.set 0 x0).set 1 x1).set 2 x2).set 3 x3)
   refine arms_ret1 (p:=2) rfl rfl rfl hR fun a b c d=>⟨a,b,c,d,rfl,?_⟩
   have h0:w.heap.size≤w.heap.size+1:=Nat.le_succ _
   exact(((HRB.out.setCell (p:=⟨w.heap.size+1,0,none⟩) h0 _).setCell (p:=⟨w.heap.size+1,1,none⟩) h0 _).setCell (p:=⟨w.heap.size+1,2,none⟩) h0 _).setCell (p:=⟨w.heap.size+1,3,none⟩) h0 _
end Go.Proofs.YtlenbcmgjancmaaGreatDoor
namespace Go.Proofs.YtlenbcmgjancmaaGreatDoor
end Go.Proofs.YtlenbcmgjancmaaGreatDoor
namespace Go.Proofs.YtlenbcmgjancmaaGreatDoor
def abT:ByteArray:=⟨#[97,98,32,99,100,101]⟩
def xT:ByteArray:=⟨#[120]⟩
theorem ab_flow:flowS abT.data.toList=[([97],1),([98],1),([32],1),([99],1),([100],1),([101],1)]:=by kernel_rfl
theorem x_flow:flowS xT.data.toList=[([120],1)]:=by kernel_rfl
theorem ab_least:leastS 0 (flowS abT.data.toList)=3:=by rw [ab_flow];decide
theorem ab_most:leastS 2 (flowS abT.data.toList)=6:=by rw [ab_flow];decide
theorem x_least:leastS 0 (flowS xT.data.toList)=1:=by rw [x_flow];decide
theorem x_most:leastS 2 (flowS xT.data.toList)=1:=by rw [x_flow];decide
theorem ab_tall6:tallS 0 6 abT=1:=by unfold tallS;rw [ab_flow];simp [rowsS,linesN,lineR,cntR,wideS]
theorem ab_tall3:tallS 0 3 abT=2:=by unfold tallS;rw [ab_flow];simp [rowsS,linesN,lineR,cntR,wideS,fitS,advS,lastB,blankC]
theorem x_tall1:tallS 0 1 xT=1:=by unfold tallS;rw [x_flow];simp [rowsS,linesN,lineR,cntR,wideS]
end Go.Proofs.YtlenbcmgjancmaaGreatDoor
