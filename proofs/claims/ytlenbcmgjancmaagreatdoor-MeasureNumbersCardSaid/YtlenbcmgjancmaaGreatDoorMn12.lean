import Derived.Test.YtlenbcmgjancmaaGreatDoorMn11
import Derived.Test.YtlenbcmgjancmaaGreatDoorMn02
import Derived.Laws.EntriesVeiled
set_option linter.unusedVariables false
set_option linter.unusedSimpArgs false
namespace Go.Proofs.YtlenbcmgjancmaaGreatDoor
open Go.RowKit
def RdC (w:World) (g o:Nat) (cs:List Cl):Prop:=∀ (i:Nat) (c:Cl),cs[i]?=some c→w.cell? ⟨g,o+i*2,none⟩=some (.string (mkS c.1))∧w.cell? ⟨g,o+i*2+1,none⟩=some (.int .i64 c.2)
theorem RdC.below {w w':World} {g o B:Nat} {cs:List Cl} (h:RdC w g o cs) (hb:Below B w w') (hg:g<B):RdC w' g o cs:=fun i c hc=>⟨(hb.cell (p:=⟨g,o+i*2,none⟩) hg).trans (h i c hc).1,(hb.cell (p:=⟨g,o+i*2+1,none⟩) hg).trans (h i c hc).2⟩
theorem RdC.drop {w:World} {g o:Nat} {cs:List Cl} (h:RdC w g o cs) (k:Nat):RdC w g (o+k*2) (cs.drop k):=fun i c hc=>by
 rw [List.getElem?_drop] at hc
 have:=h (k+i) c hc
 rw [show o+k*2+i*2=o+(k+i)*2 by omega];exact this
def SeeC (w:World) (A:Option Addr) (n:Nat) (cs:List Cl):Prop:=cs.length=n∧(0<n→∃ g o,A=some ⟨g,o,none⟩∧g<w.heap.size∧RdC w g o cs)
theorem SeeC.below {w w':World} {A:Option Addr} {n:Nat} {cs:List Cl} (h:SeeC w A n cs) (hb:Below w.heap.size w w'):SeeC w' A n cs :=
 ⟨h.1,fun hn=>by obtain⟨g,o,e,hg,hR⟩:=h.2 hn;exact⟨g,o,e,Nat.lt_of_lt_of_le hg hb.size,hR.below hb hg⟩⟩
theorem wideS_take (l:List Cl) (k:Nat) (c:Cl) (h:l[k]?=some c):wideS (l.take (k+1))=wideS (l.take k)+c.2:=by
 obtain⟨h1,h2⟩:=List.getElem?_eq_some_iff.1 h
 rw [List.take_succ_eq_append_getElem h1,wideS_append,h2];simp [wideS]
theorem wideS_le (l:List Cl) (h:∀ c ∈ l,c.2≤2):wideS l≤2*l.length:=by
 induction l with
 |nil=>simp [wideS]
 |cons c l ih=>
  have:=ih fun x hx=>h x (List.mem_cons_of_mem _ hx)
  have:=h c (by simp)
  rw [wideS_cons,List.length_cons];omega
set_option maxRecDepth 100000 in
set_option maxHeartbeats 1000000 in
theorem wide_any (A:Option Addr) (c n:Nat) (cs:List Cl) (w:World) (hS:SeeC w A n cs) (hm:n≤10000000000) (h2:∀ c ∈ cs,c.2≤2) :
  Calls Tryz.prog 77 #[.slice A n c] w (VBel (.int .i64 (wideS cs)) w):=by
 have HS:=zH hS
 have H2:=zH h2
 clear hS h2
 go_enter Tryz.func77,Tryz.ntmps77
 go_wp2
 go_loopw [3,8] (fun v i wr=>∃ k:Nat,i=.int .i64 k∧k≤n∧v=.int .i64 (wideS (cs.take k))∧Below w.heap.size w wr) (fun _ i _=>n - (intOf i).toNat)
 case atStart=>exact⟨0,rfl,by omega,rfl,Below.refl _ _⟩
 case round=>
  obtain⟨k,rfl,hk,rfl,hbe⟩:=hrel
  have HBE:=zH hbe
  by_cases hlt:k<n
  ·obtain⟨g,o,rfl,hg,hR⟩:=HS.out.2 (by omega)
   have hsl:=HS.out.1
   obtain⟨y,hy⟩:∃ y,cs[k]?=some y:=⟨_,List.getElem?_eq_getElem (by omega)⟩
   have hR':=(hR.below hbe hg) k y hy
   have hc0:=hR'.1
   have hc1:=hR'.2
   have HT:Hid (wideS (cs.take (k+1))=wideS (cs.take k)+y.2):=zH (wideS_take cs k y hy)
   have hy2:y.2≤2:=H2.out y (List.mem_of_getElem? hy)
   have hwb:wideS (cs.take k)≤2*k:=by
    have:=wideS_le (cs.take k) fun x hx=>H2.out x (List.mem_of_mem_take hx)
    have hl:(cs.take k).length≤k:=List.length_take_le _ _
    omega
   obtain⟨a,ha⟩:∃ a,wideS (cs.take k)=a:=⟨_,rfl⟩
   obtain⟨y1,y2⟩:=y
   rw [ha] at HT hwb ⊢
   have hgr:g<wr.heap.size:=Nat.lt_of_lt_of_le hg hbe.size
   clear hbe hR hR' hy ha hsl
   go_wp2
   go_roundw
   case rel=>exact⟨k+1,by go_num,by omega,by rw [HT.out];go_num,HBE.out.alloc HBE.out.size _⟩
   case measure=>simp [intOf];omega
  ·obtain rfl:k=n:=by omega
   have HT:Hid (cs.take k=cs):=zH (List.take_of_length_le (by rw [HS.out.1];exact Nat.le_refl _))
   clear hbe
   go_wp2
   go_ret
   exact⟨by rw [HT.out];rfl,HBE.out⟩
theorem fitS_step (l:List Cl) (k w:Nat) (c:Cl) (h:l[k]?=some c):fitS (l.drop k) w=if w<c.2 then 0 else 1+fitS (l.drop (k+1)) (w - c.2):=by
 obtain⟨h1,h2⟩:=List.getElem?_eq_some_iff.1 h
 rw [List.drop_eq_getElem_cons h1,h2];rfl
set_option maxRecDepth 100000 in
set_option maxHeartbeats 1000000 in
theorem fit_any (A:Option Addr) (c n w0:Nat) (cs:List Cl) (w:World) (hS:SeeC w A n cs) (hm:n≤10000000000) (hw:w0≤10000000000) (h2:∀ c ∈ cs,c.2≤2) :
  Calls Tryz.prog 79 #[.slice A n c,.int .i64 w0] w (VBel (.int .i64 (fitS cs w0)) w):=by
 have HS:=zH hS
 have H2:=zH h2
 clear hS h2
 go_enter Tryz.func79,Tryz.ntmps79
 go_wp2
 go_loopw [1,9] (fun v i wr=>∃ k w1:Nat,i=.int .i64 k∧k≤n∧v=.int .i64 w1∧w1≤w0∧Hid (fitS cs w0=k+fitS (cs.drop k) w1)∧Below w.heap.size w wr) (fun _ i _=>n - (intOf i).toNat)
 case atStart=>exact⟨0,w0,rfl,by omega,rfl,by omega,by simp [Hid],Below.refl _ _⟩
 case round=>
  obtain⟨k,w1,rfl,hk,rfl,hw1,HF,hbe⟩:=hrel
  have HBE:=zH hbe
  by_cases hlt:k<n
  ·obtain⟨g,o,rfl,hg,hR⟩:=HS.out.2 (by omega)
   have hsl:=HS.out.1
   obtain⟨y,hy⟩:∃ y,cs[k]?=some y:=⟨_,List.getElem?_eq_getElem (by omega)⟩
   have hR':=(hR.below hbe hg) k y hy
   have hc0:=hR'.1
   have hc1:=hR'.2
   have HT:=zH (fitS_step cs k w1 y hy)
   have hy2:y.2≤2:=H2.out y (List.mem_of_getElem? hy)
   obtain⟨y1,y2⟩:=y
   have hgr:g<wr.heap.size:=Nat.lt_of_lt_of_le hg hbe.size
   clear hbe hR hR' hy hsl
   by_cases hov:w1<y2
   ·have HE:Hid (fitS cs w0=k):=zH (by rw [HF.out,HT.out,if_pos hov];rfl)
    have hov':(w1:Int) - (y2:Int)<0:=by omega
    go_wp2
    go_ret
    exact⟨by rw [HE.out];rfl,HBE.out.alloc HBE.out.size _⟩
   ·have HE:Hid (fitS cs w0=(k+1)+fitS (cs.drop (k+1)) (w1 - y2)):=zH (by rw [HF.out,HT.out,if_neg hov,Nat.add_assoc])
    have hov':¬ (w1:Int) - (y2:Int)<0:=by omega
    go_wp2
    go_roundw
    case rel=>exact⟨k+1,w1 - y2,by go_num,by omega,by congr 1;omega,by omega,HE.out,HBE.out.alloc HBE.out.size _⟩
    case measure=>simp [intOf];omega
  ·obtain rfl:k=n:=by omega
   have HT:Hid (fitS cs w0=k):=zH (by rw [HF.out,List.drop_eq_nil_of_le (by rw [HS.out.1];exact Nat.le_refl _)];simp [fitS])
   clear hbe
   go_wp2
   go_ret
   exact⟨by rw [HT.out];rfl,HBE.out⟩
theorem ba_toList {t:ByteArray} {l:List UInt8} (h:t.toList=l):t=⟨l.toArray⟩:=by
 rw [ByteArray.toList_eq] at h
 cases t;simp at h;simp [← h]
theorem mkS_inj {a b:List Nat} (ha:∀ x ∈ a,x<256) (hb:∀ x ∈ b,x<256) (h:mkS a=mkS b):a=b:=by
 have h1:toBytes a=toBytes b:=by
  have:=congrArg (fun s:ByteArray=>s.data.toList) h
  simpa [mkS] using this
 have h2:=congrArg (List.map UInt8.toNat) h1
 have e:∀ l:List Nat,(∀ x ∈ l,x<256)→(toBytes l).map UInt8.toNat=l:=by
  intro l hl
  simp only [toBytes,List.map_map]
  conv=>rhs;rw [← List.map_id l]
  refine List.map_congr_left fun x hx=>?_
  have:=hl x hx
  simp;omega
 rw [e a ha,e b hb] at h2
 exact h2
theorem blank_mk {c:Cl} (h:∀ x ∈ c.1,x<256):mkS c.1=⟨#[32]⟩↔blankC c=true:=by
 have e:(⟨#[32]⟩:ByteArray)=mkS [32]:=rfl
 rw [e]
 constructor
 ·intro hh;have:=mkS_inj h (by simp) hh;simp [blankC,this]
 ·intro hh;have:c.1=[32]:=by simpa [blankC] using hh
  rw [this]
theorem line_mk {c:Cl} (h:∀ x ∈ c.1,x<256):mkS c.1=⟨#[10]⟩↔c.1=[10]:=by
 have e:(⟨#[10]⟩:ByteArray)=mkS [10]:=rfl
 rw [e]
 exact⟨fun hh=>mkS_inj h (by simp) hh,fun hh=>by rw [hh]⟩
theorem lastB_step (l:List Cl) (n:Nat) (c:Cl) (h:l[n]?=some c):lastB l (n+1)=if blankC c=true then some n else lastB l n:=by
 simp only [lastB,h,Option.map_some,Option.getD_some]
def wayV (l:List Cl) (k:Nat):Value:=match lastB l (k+1) with|some j=>.tuple #[.int .i64 j,.int .i64 1]|none=>.tuple #[.int .i64 k,.int .i64 0]
set_option maxRecDepth 100000 in
set_option maxHeartbeats 1000000 in
theorem ways1_any (A:Option Addr) (c n k:Nat) (cs:List Cl) (w:World) (hS:SeeC w A n cs) (hm:n≤10000000000) (hk:k<n) (h2:∀ c ∈ cs,∀ x ∈ c.1,x<256) :
  Calls Tryz.prog 117 #[.slice A n c,.int .i64 k] w (VRet (wayV cs k) w):=by
 obtain⟨g,o,rfl,hg,hR⟩:=hS.2 (by omega)
 have HL:=zH hS.1
 have HR:=zH hR
 have H2:=zH h2
 clear hS h2 hR
 go_enter Tryz.func117,Tryz.ntmps117
 go_wp2
 go_loop [6] (fun v=>∃ m:Nat,v=.int .i64 ((m:Int) - 1)∧m≤k+1∧Hid (lastB cs (k+1)=lastB cs m)) (fun v=>(intOf v+1).toNat)
 case atStart=>exact⟨k+1,by congr 1;omega,by omega,rfl⟩
 case round=>
  obtain⟨m,rfl,hmk,HF⟩:=hrel
  cases m with
  |zero=>
   have HE:Hid (wayV cs k=.tuple #[.int .i64 k,.int .i64 0]):=zH (by unfold wayV;rw [HF.out];rfl)
   go_wp2
   go_ret2
   exact⟨by rw [HE.out];rfl,rfl⟩
  |succ m=>
   obtain⟨y,hy⟩:∃ y,cs[m]?=some y:=⟨_,List.getElem?_eq_getElem (by have:=HL.out;omega)⟩
   have hc0:=(HR.out m y hy).1
   have hbl:=blank_mk (H2.out y (List.mem_of_getElem? hy))
   have hlb:=lastB_step cs m y hy
   rw [show ((m+1:Nat):Int) - 1=(m:Int) by omega]
   obtain⟨t,ht⟩:∃ t,mkS y.1=t:=⟨_,rfl⟩
   rw [ht] at hc0 hbl
   by_cases hb:blankC y=true
   ·have HE:Hid (wayV cs k=.tuple #[.int .i64 m,.int .i64 1]):=zH (by unfold wayV;rw [HF.out,hlb,if_pos hb])
    have ht2:t=⟨#[32]⟩:=hbl.2 hb
    subst ht2
    clear hbl hlb hb ht hy
    go_wp2
    go_ret2
    exact⟨by rw [HE.out];rfl,rfl⟩
   ·have HE:Hid (lastB cs (k+1)=lastB cs m):=zH (by rw [HF.out,hlb,if_neg hb])
    have ht3:¬ t=⟨#[32]⟩:=fun h=>hb (hbl.1 h)
    have ht2:(t.toList == [32])=false:=by simp;exact fun h=>ht3 (ba_toList h)
    clear hbl hlb hb ht hy
    go_wp2
    go_round
    case rel=>exact⟨m,rfl,by omega,HE.out⟩
    case measure=>simp [intOf]
theorem ways2_any (A:Option Addr) (c n k:Nat) (w:World):Calls Tryz.prog 118 #[.slice A n c,.int .i64 k] w (VRet (.tuple #[.int .i64 k,.int .i64 0]) w):=by
 go_enter Tryz.func118,Tryz.ntmps118
 go_wp2
 go_ret2
 exact⟨rfl,rfl⟩
theorem ways_any (w:World):Calls Tryz.prog 81 #[] w (VBel (.agg #[.func (.func 117) #[] #[],.func (.func 118) #[] #[]]) w):=by
 go_enter Tryz.func81,Tryz.ntmps81
 go_wp2
 exact bodyPost_ret (v:=.agg #[.func (.func 117) #[] #[],.func (.func 118) #[] #[]]) (by simp [results,Tryz.results81,go_sem]) rfl ⟨rfl,(Below.refl _ _).alloc (Nat.le_refl _) _⟩
end Go.Proofs.YtlenbcmgjancmaaGreatDoor
