import Derived.Test.YtlenbcmgjancmaaGreatDoorMn19
import Derived.Test.YtlenbcmgjancmaaGreatDoorMn18
import Derived.Test.YtlenbcmgjancmaaGreatDoorMn17
import Derived.Deep.DeepCutAuto
import Derived.Deep.QuietTactic
set_option linter.unusedVariables false
set_option linter.unusedSimpArgs false
namespace Go.Proofs.YtlenbcmgjancmaaGreatDoor
section
variable {α:Type}
theorem sumF_append (f:α→Int) (l m:List α):sumF f (l ++ m)=sumF f l+sumF f m:=by
 induction l with
 |nil=>simp [sumF]
 |cons x l ih=>simp only [List.cons_append,sumF];rw [ih];omega
theorem sumF_range {f:α→Int} {l:List α} {B:Int} (h:∀ x ∈ l,0≤f x∧f x≤B):0≤sumF f l∧sumF f l≤B*l.length:=by
 induction l with
 |nil=>simp [sumF]
 |cons x l ih=>
  have h1:=h x (by simp)
  have h2:=ih fun y hy=>h y (by simp [hy])
  rw [List.length_cons]
  have:B*((l.length+1:Nat):Int)=B*l.length+B:=by push_cast;rw [Int.mul_add,Int.mul_one]
  simp only [sumF];omega
theorem sumF_mem {f:α→Int} {l:List α} (h:∀ x ∈ l,0≤f x) {x:α} (hx:x ∈ l):f x≤sumF f l:=by
 obtain⟨s,t,rfl⟩:=List.append_of_mem hx
 rw [sumF_append]
 have h1:=sumF_nonneg (f:=f) (l:=s) fun y hy=>h y (by simp [hy])
 have h2:=sumF_nonneg (f:=f) (l:=t) fun y hy=>h y (by simp [hy])
 simp only [sumF];omega
end
abbrev gi (l:List Itm) (i:Int):Itm:=gd l i.toNat
structure FS where
 rest:Int
 weight:Int
 most:Int
 opn:List Int
 bd:Bool
def fill1 (l:List Itm) (sz:List Int) (i:Nat) (s:FS):FS :=
 let it:=gd l i
 if it.k=3 then ⟨s.rest,s.weight+it.n,s.most+it.mx,s.opn ++ [(i:Int)],s.bd && decide (0<it.mx)⟩ else { s with rest:=s.rest - gd sz i }
def fill0 (l:List Itm) (sz:List Int) (room:Int):Nat→FS
 | 0=>⟨room,0,0,[],true⟩
 |i+1=>fill1 l sz i (fill0 l sz room i)
def setMax (l:List Itm):List Int→List Int→List Int
 | [],sz=>sz
 |i :: o,sz=>setMax l o (sz.set i.toNat (gi l i).mx)
abbrev aboveF (l:List Itm) (rest weight:Int) (i:Int):Int:=max 0 (rest*(gi l i).n - weight*boundS (gi l i))
abbrev belowF (l:List Itm) (rest weight:Int) (i:Int):Int:=max 0 (weight*(gi l i).mn - rest*(gi l i).n)
structure RS where
 stay:List Int
 left:Int
 heavy:Int
 sz:List Int
abbrev isUp (l:List Itm) (rest weight a b:Int) (i:Int):Prop:=b≤a∧weight*boundS (gi l i)≤rest*(gi l i).n
abbrev isDn (l:List Itm) (rest weight a b:Int) (i:Int):Prop:=a≤b∧rest*(gi l i).n≤weight*(gi l i).mn
def round1 (l:List Itm) (rest weight a b:Int) (s:RS) (i:Int):RS :=
 if isUp l rest weight a b i then ⟨s.stay,s.left - (gi l i).mx,s.heavy - (gi l i).n,s.sz.set i.toNat (gi l i).mx⟩
 else if isDn l rest weight a b i then ⟨s.stay,s.left - (gi l i).mn,s.heavy - (gi l i).n,s.sz.set i.toNat (gi l i).mn⟩
 else { s with stay:=s.stay ++ [i] }
def roundS (l:List Itm) (rest weight a b:Int):List Int→RS→RS
 | [],s=>s
 |i :: o,s=>roundS l rest weight a b o (round1 l rest weight a b s i)
structure GS where
 opn:List Int
 rest:Int
 weight:Int
 sz:List Int
def rounds (l:List Itm):Nat→GS→GS
 | 0,s=>s
 |f+1,s=>
  if s.opn=[] then s
  else if sumF (aboveF l s.rest s.weight) s.opn=0∧sumF (belowF l s.rest s.weight) s.opn=0 then s
  else
   let r:=roundS l s.rest s.weight (sumF (aboveF l s.rest s.weight) s.opn) (sumF (belowF l s.rest s.weight) s.opn) s.opn ⟨[],s.rest,s.weight,s.sz⟩
   rounds l f ⟨r.stay,r.left,r.heavy,r.sz⟩
def fzB (l:List Itm) (rest weight a b:Int) (i:Int):Bool:=decide (isUp l rest weight a b i∨isDn l rest weight a b i)
def szV (l:List Itm) (rest weight a b:Int) (i:Int):Int:=if isUp l rest weight a b i then (gi l i).mx else (gi l i).mn
theorem roundS_eq (l:List Itm) (rest weight a b:Int):∀ (o:List Int) (s:RS),(roundS l rest weight a b o s).stay=s.stay ++ o.filter (fun i=>!fzB l rest weight a b i)∧(roundS l rest weight a b o s).left=s.left - sumF (szV l rest weight a b) (o.filter (fzB l rest weight a b))∧(roundS l rest weight a b o s).heavy=s.heavy - sumF (fun i=>(gi l i).n) (o.filter (fzB l rest weight a b))
 | [],s=>by simp [roundS,sumF]
 |i :: o,s=>by
  have ih:=roundS_eq l rest weight a b o (round1 l rest weight a b s i)
  simp only [roundS]
  rw [ih.1,ih.2.1,ih.2.2]
  unfold round1
  by_cases h1:isUp l rest weight a b i
  ·have hf:fzB l rest weight a b i=true:=by unfold fzB;exact decide_eq_true (.inl h1)
   have hs:szV l rest weight a b i=(gi l i).mx:=by unfold szV;rw [if_pos h1]
   rw [if_pos h1]
   simp only [List.filter_cons,hf,if_true,Bool.not_true,Bool.false_eq_true,if_false,sumF,hs]
   refine⟨trivial,by omega,by omega⟩
  ·by_cases h2:isDn l rest weight a b i
   ·have hf:fzB l rest weight a b i=true:=by unfold fzB;exact decide_eq_true (.inr h2)
    have hs:szV l rest weight a b i=(gi l i).mn:=by unfold szV;rw [if_neg h1]
    rw [if_neg h1,if_pos h2]
    simp only [List.filter_cons,hf,if_true,Bool.not_true,Bool.false_eq_true,if_false,sumF,hs]
    refine⟨trivial,by omega,by omega⟩
   ·have hf:fzB l rest weight a b i=false:=by unfold fzB;exact decide_eq_false (by rintro(h|h);exact h1 h;exact h2 h)
    rw [if_neg h1,if_neg h2]
    simp only [List.filter_cons,hf,if_true,Bool.not_false,Bool.false_eq_true,if_false]
    exact⟨by simp,by simp,by simp⟩
def FItm (i:Itm):Prop:=0≤i.mn∧i.mn≤4096∧0≤i.mx∧i.mx≤4096∧(0<i.mx→i.mn≤i.mx)∧(i.k=3→1≤i.n∧i.n≤1000)
theorem Itm.ok.fitm {i:Itm} (h:i.ok):FItm i:=by
 obtain⟨h1,h2,h3,h4⟩:=h
 exact⟨h1,h2,by omega,by omega,by omega,by omega⟩
def SzOk (n:Nat) (sz:List Int):Prop:=sz.length=n∧∀ x ∈ sz,0≤x∧x≤4096
theorem SzOk.set {n:Nat} {sz:List Int} (h:SzOk n sz) (i:Nat) {x:Int} (hx:0≤x∧x≤4096):SzOk n (sz.set i x) :=
 ⟨by simpa using h.1,fun y hy=>by
  rcases List.mem_or_eq_of_mem_set hy with hy|rfl
  ·exact h.2 y hy
  ·exact hx⟩
theorem round1_sz {l:List Itm} (hl:∀ x ∈ l,FItm x) {rest weight a b:Int} {s:RS} {i:Int} (hi:0≤i∧i<l.length) {n:Nat} (h:SzOk n s.sz):SzOk n (round1 l rest weight a b s i).sz:=by
 have h1:i.toNat<l.length:=by omega
 have hm:=hl (gi l i) (by simp [gi,gd,List.getElem?_eq_getElem h1])
 unfold round1
 split
 ·exact h.set _ ⟨hm.2.2.1,hm.2.2.2.1⟩
 ·split
  ·exact h.set _ ⟨hm.1,hm.2.1⟩
  ·exact h
theorem roundS_sz {l:List Itm} (hl:∀ x ∈ l,FItm x) {rest weight a b:Int} {n:Nat}:∀ (o:List Int) (s:RS),(∀ i ∈ o,0≤i∧i<(l.length:Int))→SzOk n s.sz→SzOk n (roundS l rest weight a b o s).sz
 | [],_,_,h=>h
 |i :: o,s,hi,h=>by
  simp only [roundS]
  exact roundS_sz hl o _ (fun j hj=>hi j (by simp [hj])) (round1_sz hl (hi i (by simp)) h)
structure FI (l:List Itm) (s:GS):Prop where
 op:∀ i ∈ s.opn,0≤i∧i<l.length∧(gi l i).k=3
 ol:s.opn.length≤l.length
 w:s.weight=sumF (fun i=>(gi l i).n) s.opn
 rest:sumF (fun i=>(gi l i).mn) s.opn≤s.rest
 rt:s.rest≤4096
 sz:SzOk l.length s.sz
theorem gi_mem {l:List Itm} {i:Int} (h:0≤i∧i<l.length):gi l i ∈ l:=by
 have h1:i.toNat<l.length:=by omega
 simp [gi,gd,List.getElem?_eq_getElem h1]
theorem round_inv {l:List Itm} (hl:∀ x ∈ l,FItm x) {s:GS} (h:FI l s) (hgo:¬ (sumF (aboveF l s.rest s.weight) s.opn=0∧sumF (belowF l s.rest s.weight) s.opn=0)) :
  let r:=roundS l s.rest s.weight (sumF (aboveF l s.rest s.weight) s.opn) (sumF (belowF l s.rest s.weight) s.opn) s.opn ⟨[],s.rest,s.weight,s.sz⟩
  FI l ⟨r.stay,r.left,r.heavy,r.sz⟩∧r.stay.length<s.opn.length:=by
 obtain⟨e1,e2,e3⟩:=roundS_eq l s.rest s.weight (sumF (aboveF l s.rest s.weight) s.opn) (sumF (belowF l s.rest s.weight) s.opn) s.opn ⟨[],s.rest,s.weight,s.sz⟩
 have e4:=roundS_sz (n:=l.length) hl (rest:=s.rest) (weight:=s.weight) (a:=sumF (aboveF l s.rest s.weight) s.opn) (b:=sumF (belowF l s.rest s.weight) s.opn) s.opn ⟨[],s.rest,s.weight,s.sz⟩ (fun i hi=>⟨(h.op i hi).1,(h.op i hi).2.1⟩) h.sz
 generalize hA:sumF (aboveF l s.rest s.weight) s.opn=A at *
 generalize hB:sumF (belowF l s.rest s.weight) s.opn=B at *
 generalize roundS l s.rest s.weight A B s.opn ⟨[],s.rest,s.weight,s.sz⟩=r at *
 simp only [List.nil_append] at e1
 have hit:∀ i ∈ s.opn,FItm (gi l i):=fun i hi=>hl _ (gi_mem ⟨(h.op i hi).1,(h.op i hi).2.1⟩)
 have hN:∀ i ∈ s.opn,1≤(gi l i).n∧(gi l i).n≤1000:=fun i hi=>(hit i hi).2.2.2.2.2 (h.op i hi).2.2
 have hm:∀ i ∈ s.opn,(gi l i).mn≤boundS (gi l i):=fun i hi=>by
  have:=hit i hi
  unfold boundS
  split
  ·exact this.2.2.2.2.1 (by assumption)
  ·have:=this.2.1;omega
 have hnf:∀ x ∈ s.opn,fzB l s.rest s.weight A B x=false→¬ (B≤A∧s.weight*boundS (gi l x)≤s.rest*(gi l x).n)∧¬ (A≤B∧s.rest*(gi l x).n≤s.weight*(gi l x).mn):=fun x _ hx=>by
  unfold fzB at hx
  have:=of_decide_eq_false hx
  exact⟨fun h=>this (.inl h),fun h=>this (.inr h)⟩
 have hlt:=fill_less s.opn (fun i=>(gi l i).n) (fun i=>(gi l i).mn) (fun i=>boundS (gi l i)) (fzB l s.rest s.weight A B) s.rest s.weight A B hA.symm hB.symm hnf hgo
 have hst:=fill_step s.opn (fun i=>(gi l i).n) (fun i=>(gi l i).mn) (fun i=>boundS (gi l i)) (szV l s.rest s.weight A B) (fzB l s.rest s.weight A B) s.rest s.weight A B h.w (fun i hi=>(hN i hi).1) hm h.rest hA.symm hB.symm (fun x hx hz=>by
  unfold fzB at hz
  have hz:=of_decide_eq_true hz
  by_cases hu:isUp l s.rest s.weight A B x
  ·refine .inl ⟨hu.1,hu.2,?_⟩
   unfold szV
   rw [if_pos hu]
   by_cases hp:0<(gi l x).mx
   ·simp only [boundS];rw [if_pos hp]
   ·exfalso
    have h2:=hu.2
    simp only [boundS] at h2
    rw [if_neg hp] at h2
    have hwx:(gi l x).n≤s.weight:=by rw [h.w];exact sumF_mem (f:=fun i=>(gi l i).n) (fun y hy=>by have:=(hN y hy).1;omega) hx
    have hx1:=(hN x hx).1
    have hrt:=h.rt
    have h4:s.rest*(gi l x).n≤4096*(gi l x).n:=Int.mul_le_mul_of_nonneg_right hrt (by omega)
    omega
  ·rcases hz with hz|hz
   ·exact absurd hz hu
   ·refine .inr ⟨hz.1,hz.2,hu,?_⟩
    unfold szV
    rw [if_neg hu]) hnf
 have hsv:∀ x ∈ s.opn.filter (fzB l s.rest s.weight A B),0≤szV l s.rest s.weight A B x:=fun x hx=>by
  have hx:=(List.mem_filter.1 hx).1
  have:=hit x hx
  unfold szV
  split
  ·exact this.2.2.1
  ·exact this.1
 have hs0:=sumF_nonneg hsv
 have hf:=sumF_filter (fun i=>(gi l i).n) (fzB l s.rest s.weight A B) s.opn
 refine⟨⟨?_,?_,?_,?_,?_,e4⟩,by rw [e1];exact hlt⟩
 ·intro i hi
  dsimp only at hi
  rw [e1] at hi
  exact h.op i (List.mem_filter.1 hi).1
 ·dsimp only
  rw [e1];have:=h.ol;omega
 ·dsimp only
  rw [e1,e3]
  have hw:=h.w
  dsimp only at hf hw ⊢
  omega
 ·dsimp only
  rw [e1,e2];exact hst
 ·dsimp only
  rw [e2];have:=h.rt;dsimp only;omega
theorem rounds_end {l:List Itm} {f:Nat} {s:GS} (h:s.opn=[]∨(sumF (aboveF l s.rest s.weight) s.opn=0∧sumF (belowF l s.rest s.weight) s.opn=0)):rounds l f s=s:=by
 cases f with
 |zero=>rfl
 |succ f=>
  simp only [rounds]
  split
  ·rfl
  ·rcases h with h|h
   ·contradiction
   ·rw [if_pos h]
theorem rounds_inv {l:List Itm} (hl:∀ x ∈ l,FItm x):∀ (f:Nat) (s:GS),FI l s→FI l (rounds l f s)
 | 0,s,h=>h
 |f+1,s,h=>by
  simp only [rounds]
  split
  ·exact h
  ·split
   ·exact h
   ·rename_i hgo
    exact rounds_inv hl f _ (round_inv hl h hgo).1
def assign:List Int→List Int→List Int→List Int
 |i :: o,x :: r,sz=>assign o r (sz.set i.toNat x)
 |_,_,sz=>sz
def shO (l:List Itm) (rest weight:Int) (o:List Int):List Int:=o.map fun i=>rest*(gi l i).n / weight
def shR (l:List Itm) (rest weight:Int) (o:List Int):List Int:=o.map fun i=>rest*(gi l i).n % weight
def tailS (l:List Itm) (g:GS):List Int :=
 assign g.opn (if g.opn=[] then [] else toppedS (shO l g.rest g.weight g.opn) (shR l g.rest g.weight g.opn) (g.rest - sumL (shO l g.rest g.weight g.opn)).toNat) g.sz
def fillE (l:List Itm) (sz:List Int) (s0:FS):List Int :=
 if s0.bd=true∧s0.most≤s0.rest then setMax l s0.opn sz else tailS l (rounds l l.length ⟨s0.opn,s0.rest,s0.weight,sz⟩)
def fillS (l:List Itm) (sz:List Int) (room:Int):List Int:=fillE l sz (fill0 l sz room l.length)
theorem fill0_w (l:List Itm) (sz:List Int) (room:Int):∀ k,k≤l.length→(fill0 l sz room k).weight=sumF (fun i=>(gi l i).n) (fill0 l sz room k).opn
 | 0,_=>rfl
 |k+1,hk=>by
  have ih:=fill0_w l sz room k (by omega)
  have e1:(fill0 l sz room (k+1))=fill1 l sz k (fill0 l sz room k):=rfl
  rw [e1]
  unfold fill1
  by_cases hk3:(gd l k).k=3
  ·simp only [hk3,if_true]
   rw [sumF_append,ih]
   simp [sumF,gi]
  ·simp only [if_neg hk3]
   exact ih
end Go.Proofs.YtlenbcmgjancmaaGreatDoor
namespace Go.Proofs.YtlenbcmgjancmaaGreatDoor
open Classical in
/-- An item as Sizes takes it: right, or none. -/
noncomputable def normI (it:Itm):Itm:=if it.ok then it else ⟨1,0,0,0,0⟩
def wantS (room:Int) (it:Itm):Int:=if it.k=2 then intoS (it.n*room / it.d) it else if it.k=3 then it.mn else intoS it.n it
noncomputable def sizesS (items:List Itm) (extent gap:Int):List Int :=
 if items.length=0∨4096<items.length then []
 else
  let room:=max 0 (sideS extent - sideS gap*((items.length:Int) - 1))
  let l:=items.map normI
  let mins:=l.map Itm.mn
  let wants:=l.map (wantS room)
  if room<sumL mins then shareS room mins
  else if 0<sumL wants - room then List.zipWith (· - ·) wants (shareS (sumL wants - room) (List.zipWith (· - ·) wants mins))
  else fillS l wants room
theorem normI_fitm (it:Itm):FItm (normI it):=by
 unfold normI
 split
 ·exact Itm.ok.fitm (by assumption)
 ·exact⟨by decide,by decide,by decide,by decide,by decide,by decide⟩
theorem intoS_range {n:Int} {it:Itm} (h:FItm it) (hn:n≤4096):it.mn≤intoS n it∧intoS n it≤4096:=by
 obtain⟨h1,h2,h3,h4,h5,_⟩:=h
 unfold intoS
 split
 ·have:=h5 (by assumption);omega
 ·omega
theorem fill0_room {l:List Itm} {room0:Int} {wants:List Int} (hw:wants=l.map (wantS room0)) (room:Int):∀ k,k≤l.length→
  (fill0 l wants room k).rest - sumF (fun i=>(gi l i).mn) (fill0 l wants room k).opn=room - sumL (wants.take k)
 | 0,_=>by simp [fill0,sumF,sumL]
 |k+1,hk=>by
  have ih:=fill0_room hw room k (by omega)
  have hx:l[k]?=some (gd l k):=by simp [gd,List.getElem?_eq_getElem (show k<l.length by omega)]
  have hwk:wants[k]?=some (wantS room0 (gd l k)):=by rw [hw,List.getElem?_map,hx];rfl
  have hwg:gd wants k=wantS room0 (gd l k):=by simp [gd,hwk]
  rw [take_succ_sum hwk]
  have e1:(fill0 l wants room (k+1))=fill1 l wants k (fill0 l wants room k):=rfl
  rw [e1]
  unfold fill1
  by_cases h3:(gd l k).k=3
  ·simp only [h3,if_true]
   rw [sumF_append]
   have hm:wantS room0 (gd l k)=(gd l k).mn:=by unfold wantS;rw [if_neg (by omega),if_pos h3]
   rw [hm]
   simp only [sumF,gi,Int.toNat_natCast]
   simp only [gi] at ih
   omega
  ·simp only [if_neg h3]
   rw [hwg]
   omega
theorem fill0_min {l:List Itm} {room0:Int} {wants:List Int} (hw:wants=l.map (wantS room0)) {room:Int} (h:sumL wants≤room) :
  sumF (fun i=>(gi l i).mn) (fill0 l wants room l.length).opn≤(fill0 l wants room l.length).rest:=by
 have h1:=fill0_room hw room l.length (Nat.le_refl _)
 rw [List.take_of_length_le (by rw [hw];simp)] at h1
 omega
end Go.Proofs.YtlenbcmgjancmaaGreatDoor
namespace Go.Proofs.YtlenbcmgjancmaaGreatDoor
structure Spn where
 c:Int
 r:Int
 cs:Int
 rs:Int
instance:Inhabited Spn:=⟨⟨0,0,0,0⟩⟩
def ovl (s t:Spn):Bool:=decide (t.c<s.c+s.cs) && (decide (s.c<t.c+t.cs) && (decide (t.r<s.r+s.rs) && decide (s.r<t.r+t.rs)))
theorem ovl_true {s t:Spn}:ovl s t=true↔t.c<s.c+s.cs∧s.c<t.c+t.cs∧t.r<s.r+s.rs∧s.r<t.r+t.rs:=by
 unfold ovl;simp only [Bool.and_eq_true,decide_eq_true_eq]
structure SOk (cols M:Int) (t:Spn):Prop where
 c0:0≤t.c
 r0:0≤t.r
 cs:1≤t.cs
 cc:t.c+t.cs≤cols
 rs:1≤t.rs
 r4:t.rs≤4096
 m:t.r+t.rs≤M
theorem SOk.mono {cols M M':Int} {t:Spn} (h:SOk cols M t) (hm:M≤M'):SOk cols M' t:={ h with m:=Int.le_trans h.m hm }
def hitS (tk:List Spn) (s:Spn):Option Spn:=tk.find? (ovl s)
def acrossF (cols:Int) (tk:List Spn):Nat→Spn→Spn
 | 0,s=>{ s with c:=0 }
 |f+1,s=>if s.c+s.cs≤cols then (match hitS tk s with|none=>s|some t=>acrossF cols tk f { s with c:=t.c+t.cs }) else { s with c:=0 }
theorem across_out {cols:Int} {tk:List Spn} {f:Nat} {s:Spn} (h:cols<s.c+s.cs):acrossF cols tk f s={ s with c:=0 }:=by
 cases f with
 |zero=>rfl
 |succ f=>unfold acrossF;rw [if_neg (by omega)]
theorem across_free {cols:Int} {tk:List Spn} {f:Nat} {s:Spn} (h:s.c+s.cs≤cols) (hn:hitS tk s=none) (hf:f ≠ 0):acrossF cols tk f s=s:=by
 obtain⟨f,rfl⟩:=Nat.exists_eq_succ_of_ne_zero hf
 unfold acrossF;rw [if_pos h,hn]
theorem across_hit {cols:Int} {tk:List Spn} {f:Nat} {s t:Spn} (h:s.c+s.cs≤cols) (hn:hitS tk s=some t):acrossF cols tk (f+1) s=acrossF cols tk f { s with c:=t.c+t.cs }:=by
 rw [acrossF,if_pos h,hn]
theorem hit_some {tk:List Spn} {s t:Spn} (h:hitS tk s=some t):t ∈ tk∧ovl s t=true:=⟨List.mem_of_find?_eq_some h,by simpa using List.find?_some h⟩
theorem across_ok {cols M:Int} {tk:List Spn} (hk:∀ t ∈ tk,SOk cols M t):∀ (f:Nat) (s:Spn),1≤s.cs→s.cs≤cols→0≤s.c→0≤(acrossF cols tk f s).c∧(acrossF cols tk f s).c+s.cs≤cols∧(acrossF cols tk f s).r=s.r∧(acrossF cols tk f s).cs=s.cs∧(acrossF cols tk f s).rs=s.rs
 | 0,s,h1,h2,h3=>⟨Int.le_refl 0,by simpa [acrossF] using h2,rfl,rfl,rfl⟩
 |f+1,s,h1,h2,h3=>by
  unfold acrossF
  split
  ·split
   ·exact⟨h3,by assumption,rfl,rfl,rfl⟩
   ·rename_i t ht
    have ho:=hk t (hit_some ht).1
    have:=across_ok hk f { s with c:=t.c+t.cs } h1 h2 (by have:=ho.c0;have:=ho.cs;simp only;omega)
    exact this
  ·exact⟨Int.le_refl 0,by simpa using h2,rfl,rfl,rfl⟩
def pass:List Spn→Spn→Bool→Spn × Bool
 | [],s,m=>(s,m)
 |t :: l,s,m=>if ovl s t=true then pass l { s with r:=t.r+t.rs } true else pass l s m
theorem pass_drop {tk:List Spn} {k:Nat} {t s:Spn} {m:Bool} (h:tk[k]?=some t):pass (tk.drop k) s m=if ovl s t=true then pass (tk.drop (k+1)) { s with r:=t.r+t.rs } true else pass (tk.drop (k+1)) s m:=by
 obtain⟨h1,rfl⟩:=List.getElem?_eq_some_iff.1 h
 rw [List.drop_eq_getElem_cons h1]
 rfl
theorem pass_le {M:Int}:∀ (tk:List Spn) (s:Spn) (m:Bool),(∀ t ∈ tk,t.r+t.rs≤M)→(pass tk s m).1.c=s.c∧(pass tk s m).1.cs=s.cs∧(pass tk s m).1.rs=s.rs∧s.r≤(pass tk s m).1.r∧(s.r≤M→(pass tk s m).1.r≤M)∧((pass tk s m).2=true→m=true∨s.r<(pass tk s m).1.r)∧((pass tk s m).2=false→(pass tk s m).1=s∧m=false)
 | [],s,m,_=>by simp [pass]
 |t :: l,s,m,h=>by
  have ht:=h t (by simp)
  have hl:∀ t ∈ l,t.r+t.rs≤M:=fun x hx=>h x (by simp [hx])
  unfold pass
  split
  ·rename_i ho
   have ho:=ovl_true.1 ho
   obtain⟨a1,a2,a3,a4,a5,a6,a7⟩:=pass_le l { s with r:=t.r+t.rs } true hl
   dsimp only at a1 a2 a3 a4 a5
   refine⟨a1,a2,a3,by omega,fun _=>a5 ht,fun _=>.inr (by omega),fun hf=>?_⟩
   have:=(a7 hf).2
   cases this
  ·exact pass_le l s m hl
def downF (tk:List Spn):Nat→Spn→Spn
 | 0,s=>s
 |f+1,s=>if (pass tk s false).2=true then downF tk f (pass tk s false).1 else (pass tk s false).1
theorem pass_past {M:Int}:∀ (tk:List Spn) (s:Spn) (m:Bool),(∀ t ∈ tk,t.r+t.rs≤M)→M≤s.r→pass tk s m=(s,m)
 | [],s,m,_,_=>rfl
 |t :: l,s,m,h,hM=>by
  unfold pass
  have ht:=h t (by simp)
  rw [if_neg (by rw [ovl_true];omega)]
  exact pass_past l s m (fun x hx=>h x (by simp [hx])) hM
theorem down_round {M:Int} {tk:List Spn} (hk:∀ t ∈ tk,t.r+t.rs≤M) {f:Nat} {s s':Spn} {b:Bool} (hf:M<s.r+f) (hp:pass tk s false=(s',b)):if b=true then (∃ g,f=g+1∧downF tk f s=downF tk g s'∧M<s'.r+g∧s.r<s'.r) else downF tk f s=s':=by
 cases f with
 |zero=>
  rw [pass_past tk s false hk (by omega)] at hp
  cases hp
  rfl
 |succ f=>
  have hl:=pass_le tk s false hk
  rw [hp] at hl
  cases b with
  |true=>
   have:=(hl.2.2.2.2.2.1 rfl)
   have h2:s.r<s'.r:=by rcases this with h|h;(cases h);(exact h)
   refine⟨f,rfl,?_,by push_cast at hf;omega,h2⟩
   rw [downF,hp];rfl
  |false=>rw [if_neg (by simp),downF,hp];rfl
theorem down_ok {M:Int} {tk:List Spn} (hk:∀ t ∈ tk,t.r+t.rs≤M):∀ (f:Nat) (s:Spn),s.r≤M→s.r≤(downF tk f s).r∧(downF tk f s).r≤M∧(downF tk f s).c=s.c∧(downF tk f s).cs=s.cs∧(downF tk f s).rs=s.rs
 | 0,s,h=>⟨Int.le_refl _,h,rfl,rfl,rfl⟩
 |f+1,s,h=>by
  have hl:=pass_le tk s false hk
  unfold downF
  split
  ·obtain⟨a1,a2,a3,a4,a5⟩:=down_ok hk f (pass tk s false).1 (hl.2.2.2.2.1 h)
   exact⟨Int.le_trans hl.2.2.2.1 a1,a2,a3.trans hl.1,a4.trans hl.2.1,a5.trans hl.2.2.1⟩
  ·exact⟨hl.2.2.2.1,hl.2.2.2.2.1 h,hl.1,hl.2.1,hl.2.2.1⟩
abbrev inRows (row rows:Int) (t:Spn):Prop:=t.r<row+rows∧row<t.r+t.rs
def stripE (row rows:Int):List Spn→Int→Int
 | [],e=>e
 |t :: l,e=>if inRows row rows t then stripE row rows l (if e=0∨t.r+t.rs<e then t.r+t.rs else e) else stripE row rows l e
def markF:Nat→Nat→List Bool→List Bool
 | 0,_,l=>l
 |k+1,c,l=>markF k (c+1) (l.set c true)
def stripT (cols:Int) (row rows:Int):List Spn→List Bool→List Bool
 | [],l=>l
 |t :: tl,l=>if inRows row rows t then stripT cols row rows tl (markF (min (t.c+t.cs) cols - t.c).toNat t.c.toNat l) else stripT cols row rows tl l
theorem markF_len:∀ (k c:Nat) (l:List Bool),(markF k c l).length=l.length
 | 0,_,_=>rfl
 |k+1,c,l=>by unfold markF;rw [markF_len];simp
theorem stripT_len (cols row rows:Int):∀ (tk:List Spn) (l:List Bool),(stripT cols row rows tk l).length=l.length
 | [],_=>rfl
 |t :: tk,l=>by unfold stripT;split<;>rw [stripT_len];rw [markF_len]
theorem stripT_drop {cols row rows:Int} {tk:List Spn} {k:Nat} {t:Spn} {l:List Bool} (h:tk[k]?=some t):stripT cols row rows (tk.drop k) l=if inRows row rows t then stripT cols row rows (tk.drop (k+1)) (markF (min (t.c+t.cs) cols - t.c).toNat t.c.toNat l) else stripT cols row rows (tk.drop (k+1)) l:=by
 obtain⟨h1,rfl⟩:=List.getElem?_eq_some_iff.1 h
 rw [List.drop_eq_getElem_cons h1]
 rfl
theorem stripE_drop {row rows:Int} {tk:List Spn} {k:Nat} {t:Spn} {e:Int} (h:tk[k]?=some t):stripE row rows (tk.drop k) e=if inRows row rows t then stripE row rows (tk.drop (k+1)) (if e=0∨t.r+t.rs<e then t.r+t.rs else e) else stripE row rows (tk.drop (k+1)) e:=by
 obtain⟨h1,rfl⟩:=List.getElem?_eq_some_iff.1 h
 rw [List.drop_eq_getElem_cons h1]
 rfl
theorem stripE_ok {cols M row rows:Int}:∀ (tk:List Spn) (e:Int),(∀ t ∈ tk,SOk cols M t)→(e=0∨(row<e∧e≤M))→stripE row rows tk e=0∨(row<stripE row rows tk e∧stripE row rows tk e≤M)
 | [],e,_,h=>h
 |t :: tk,e,hk,h=>by
  have ht:=hk t (by simp)
  have hl:∀ t ∈ tk,SOk cols M t:=fun x hx=>hk x (by simp [hx])
  unfold stripE
  split
  ·rename_i hi
   refine stripE_ok tk _ hl ?_
   have:=ht.m
   split
   ·exact .inr ⟨hi.2,this⟩
   ·exact h
  ·exact stripE_ok tk e hl h
theorem stripE_keep {cols M row rows:Int}:∀ (tk:List Spn) (e:Int),(∀ t ∈ tk,SOk cols M t)→0<e→0<stripE row rows tk e
 | [],e,_,h=>h
 |t :: tk,e,hk,h=>by
  have ht:=hk t (by simp)
  have hl:∀ t ∈ tk,SOk cols M t:=fun x hx=>hk x (by simp [hx])
  unfold stripE
  split
  ·refine stripE_keep tk _ hl ?_
   have:=ht.r0
   have:=ht.rs
   split<;>omega
  ·exact stripE_keep tk e hl h
theorem stripE_zero {cols M row rows:Int}:∀ (tk:List Spn),(∀ t ∈ tk,SOk cols M t)→stripE row rows tk 0=0→∀ l,stripT cols row rows tk l=l
 | [],_,_,l=>rfl
 |t :: tk,hk,h,l=>by
  have ht:=hk t (by simp)
  have hl:∀ t ∈ tk,SOk cols M t:=fun x hx=>hk x (by simp [hx])
  unfold stripE at h
  unfold stripT
  split at h
  ·have:=stripE_keep (row:=row) (rows:=rows) tk (if (0:Int)=0∨t.r+t.rs<0 then t.r+t.rs else 0) hl (by rw [if_pos (.inl rfl)];have:=ht.r0;have:=ht.rs;omega)
   omega
  ·rename_i hi
   rw [if_neg hi]
   exact stripE_zero tk hl h l
def freeAt (l:List Bool) (c n:Nat):Bool:=(List.range n).all fun i=>!(gd l (c+i))
def seekF (cols n:Int) (l:List Bool):Nat→Nat→Option Nat
 | 0,_=>none
 |f+1,c=>if (c:Int)+n≤cols then (if freeAt l c n.toNat=true then some c else seekF cols n l f (c+1)) else none
def behindF (cols:Int) (tk:List Spn) (s:Spn):Nat→Int→Nat→Spn
 | 0,row,col=>{ s with r:=row,c:=col }
 |f+1,row,col=>
  match seekF cols s.cs (stripT cols row s.rs tk (List.replicate cols.toNat false)) (cols.toNat+1) col with
  |some c=>{ s with r:=row,c:=c }
  |none=>if 0<col then behindF cols tk s f (row+1) 0 else behindF cols tk s f (stripE row s.rs tk 0) 0
theorem seek_some {cols n:Int} {l:List Bool}:∀ (f c d:Nat),seekF cols n l f c=some d→c≤d∧(d:Int)+n≤cols
 | 0,c,d,h=>by simp [seekF] at h
 |f+1,c,d,h=>by
  unfold seekF at h
  split at h
  ·split at h
   ·cases h;exact⟨Nat.le_refl _,by assumption⟩
   ·have:=seek_some f (c+1) d h;omega
  ·cases h
theorem free_none {k c n:Nat}:freeAt (List.replicate k false) c n=true:=by
 unfold freeAt
 rw [List.all_eq_true]
 intro i _
 simp only [gd,List.getElem?_replicate]
 split<;>rfl
theorem free_true {l:List Bool} {c n:Nat} (h:∀ i,i<n→gd l (c+i)=false):freeAt l c n=true:=by
 unfold freeAt
 rw [List.all_eq_true]
 intro i hi
 rw [h i (List.mem_range.1 hi)]
 rfl
theorem free_false {l:List Bool} {c n i:Nat} (hi:i<n) (h:gd l (c+i)=true):freeAt l c n=false:=by
 unfold freeAt
 rw [List.all_eq_false]
 exact⟨i,List.mem_range.2 hi,by rw [h];simp⟩
theorem seek_zero {cols M row rows n:Int} {tk:List Spn} (hk:∀ t ∈ tk,SOk cols M t) (hn:n≤cols) (h:seekF cols n (stripT cols row rows tk (List.replicate cols.toNat false)) (cols.toNat+1) 0=none):row<stripE row rows tk 0∧stripE row rows tk 0≤M:=by
 rcases stripE_ok (row:=row) (rows:=rows) tk 0 hk (.inl rfl) with h0|h0
 ·rw [stripE_zero tk hk h0] at h
  unfold seekF at h
  rw [if_pos (by simpa using hn),if_pos free_none] at h
  cases h
 ·exact h0
abbrev bmeas (M row:Int) (col:Nat):Int:=2*(M+1 - row)+(if col=0 then 0 else 1)
theorem behind_round {cols M:Int} {tk:List Spn} (hk:∀ t ∈ tk,SOk cols M t) {s:Spn} (h2:s.cs≤cols) {f:Nat} {row:Int} {col:Nat} (h0:0≤row) (hr:row≤M+1) (hc:0<col→row≤M) (hf:bmeas M row col<f) :
  match seekF cols s.cs (stripT cols row s.rs tk (List.replicate cols.toNat false)) (cols.toNat+1) col with
  |some c=>behindF cols tk s f row col={ s with r:=row,c:=c }∧(c:Int)+s.cs≤cols
  |none=>∃ g row',f=g+1∧behindF cols tk s f row col=behindF cols tk s g row' 0∧row<row'∧row'≤M+1∧bmeas M row' 0<g∧bmeas M row' 0<bmeas M row col∧row'=(if 0<col then row+1 else stripE row s.rs tk 0):=by
 have hm:0≤bmeas M row col:=by unfold bmeas;split<;>omega
 obtain⟨g,rfl⟩:∃ g,f=g+1:=⟨f - 1,by omega⟩
 have e:behindF cols tk s (g+1) row col=(match seekF cols s.cs (stripT cols row s.rs tk (List.replicate cols.toNat false)) (cols.toNat+1) col with
  |some c=>{ s with r:=row,c:=c }
  |none=>if 0<col then behindF cols tk s g (row+1) 0 else behindF cols tk s g (stripE row s.rs tk 0) 0):=rfl
 rw [e]
 split
 ·rename_i c hs
  exact⟨rfl,(seek_some _ _ _ hs).2⟩
 ·rename_i hs
  have hbm:bmeas M row col=2*(M+1 - row)+(if col=0 then 0 else 1):=rfl
  by_cases hcol:0<col
  ·have:=hc hcol
   rw [if_neg (by omega)] at hbm
   refine⟨g,row+1,rfl,by rw [if_pos hcol],by omega,by omega,?_,?_,by rw [if_pos hcol]⟩
   ·simp only [bmeas,if_true];push_cast at hf;omega
   ·simp only [bmeas,if_true];rw [if_neg (by omega)];omega
  ·obtain rfl:col=0:=by omega
   have:=seek_zero hk h2 hs
   rw [if_pos rfl] at hbm
   refine⟨g,_,rfl,by rw [if_neg hcol],this.1,by omega,?_,?_,by rw [if_neg hcol]⟩
   ·simp only [bmeas,if_true];push_cast at hf;omega
   ·simp only [bmeas,if_true];omega
theorem behind_ok {cols M:Int} {tk:List Spn} (hk:∀ t ∈ tk,SOk cols M t) {s:Spn} (h2:s.cs≤cols):∀ (f:Nat) (row:Int) (col:Nat),0≤row→row≤M+1→(0<col→row≤M)→bmeas M row col<f→
  0≤(behindF cols tk s f row col).c∧(behindF cols tk s f row col).c+s.cs≤cols∧0≤(behindF cols tk s f row col).r∧(behindF cols tk s f row col).r≤M+1∧(behindF cols tk s f row col).cs=s.cs∧(behindF cols tk s f row col).rs=s.rs:=by
 intro f
 induction f with
 |zero=>
  intro row col h0 hr hc hf
  have hm:0≤bmeas M row col:=by unfold bmeas;split<;>omega
  omega
 |succ f ih=>
  intro row col h0 hr hc hf
  have:=behind_round hk h2 h0 hr hc hf
  split at this
  ·rw [this.1]
   exact⟨by simp only;omega,this.2,h0,hr,rfl,rfl⟩
  ·obtain⟨g,row',hg,e,h3,h4,h5,_,_⟩:=this
   cases hg
   rw [e]
   exact ih row' 0 (by omega) h4 (by omega) h5
def fuelG:Nat:=200000000
def clampG (cols:Int) (s:Spn):Spn :=
 ⟨within3S s.c (-1) (cols - within3S s.cs 1 cols),within3S s.r (-1) 4096,within3S s.cs 1 cols,within3S s.rs 1 4096⟩
structure SIn (cols:Int) (s:Spn):Prop where
 c0 : -1≤s.c
 r0 : -1≤s.r
 r1:s.r≤4096
 cs:1≤s.cs
 cc:s.c+s.cs≤cols
 c2:s.cs≤cols
 rs:1≤s.rs
 r4:s.rs≤4096
theorem clampG_ok {cols:Int} (h:1≤cols) (s:Spn):SIn cols (clampG cols s):=by
 unfold clampG within3S
 constructor<;>dsimp only<;>omega
abbrev setP (s:Spn):Prop:=0≤s.c∧0≤s.r
structure GB where
 tk:List Spn
 row:Int
 col:Int
def putG (cols:Int) (b:GB) (s:Spn):Spn :=
 if 0≤s.r then acrossF cols b.tk fuelG { s with c:=0 }
 else if 0≤s.c then downF b.tk fuelG { s with r:=0 }
 else behindF cols b.tk s fuelG b.row b.col.toNat
def flow1 (cols:Int) (b:GB) (s:Spn):GB :=
 if setP s then b
 else ⟨b.tk ++ [putG cols b s],if s.r<0∧s.c<0 then (putG cols b s).r else b.row,if s.r<0∧s.c<0 then (putG cols b s).c else b.col⟩
def flow0 (cols:Int) (b:GB) (s:Spn):Spn:=if setP s then s else putG cols b s
def flowF (cols:Int):List Spn→GB→List Spn
 | [],_=>[]
 |s :: l,b=>flow0 cols b s :: flowF cols l (flow1 cols b s)
def flowB (cols:Int):List Spn→GB→GB
 | [],b=>b
 |s :: l,b=>flowB cols l (flow1 cols b s)
def gflow (spans:List Spn) (n:Int):List Spn :=
 if 4096<spans.length then []
 else flowF (within3S n 1 64) (spans.map (clampG (within3S n 1 64))) ⟨(spans.map (clampG (within3S n 1 64))).filter (fun s=>decide (setP s)),0,0⟩
structure GBOk (cols M:Int) (b:GB):Prop where
 tk:∀ t ∈ b.tk,SOk cols M t
 row:0≤b.row∧b.row≤M
 col:0≤b.col∧b.col≤cols
theorem putG_ok {cols M:Int} (hM:8192≤M∧M≤50000000) (hc:1≤cols∧cols≤64) {b:GB} (h:GBOk cols M b) {s:Spn} (hs:SIn cols s):SOk cols (M+4097) (putG cols b s):=by
 unfold putG
 have hF:(fuelG:Int)=200000000:=rfl
 split
 ·have:=across_ok h.tk fuelG { s with c:=0 } hs.cs hs.c2 (Int.le_refl 0)
  obtain⟨a1,a2,a3,a4,a5⟩:=this
  dsimp only at a2 a3 a4 a5
  have:=hs.cs
  have:=hs.rs
  have:=hs.r4
  have:=hs.r1
  exact⟨a1,by omega,by omega,by omega,by omega,by omega,by omega⟩
 ·split
  ·have:=down_ok (M:=M) (fun t ht=>(h.tk t ht).m) fuelG { s with r:=0 } (by dsimp only;omega)
   obtain⟨a1,a2,a3,a4,a5⟩:=this
   dsimp only at a1 a2 a3 a4 a5
   have:=hs.cs
   have:=hs.rs
   have:=hs.r4
   have:=hs.cc
   exact⟨by omega,by omega,by omega,by omega,by omega,by omega,by omega⟩
  ·have hr:=h.row
   have hcl:=h.col
   have:=behind_ok h.tk hs.c2 fuelG b.row b.col.toNat hr.1 (by omega) (fun _=>hr.2) (by unfold bmeas;split<;>omega)
   obtain⟨a1,a2,a3,a4,a5,a6⟩:=this
   have:=hs.cs
   have:=hs.rs
   have:=hs.r4
   exact⟨by omega,by omega,by omega,by omega,by omega,by omega,by omega⟩
theorem flow1_ok {cols M:Int} (hM:8192≤M∧M≤50000000) (hc:1≤cols∧cols≤64) {b:GB} (h:GBOk cols M b) {s:Spn} (hs:SIn cols s):GBOk cols (M+4097) (flow1 cols b s):=by
 have hp:=putG_ok hM hc h hs
 have hr:=h.row
 have hcl:=h.col
 have htk:∀ t ∈ b.tk,SOk cols (M+4097) t:=fun t ht=>(h.tk t ht).mono (by omega)
 unfold flow1
 split
 ·exact⟨htk,by omega,by omega⟩
 ·generalize putG cols b s=q at *
  have:=hp.c0
  have:=hp.cc
  have:=hp.cs
  have:=hp.r0
  have:=hp.rs
  have:=hp.m
  refine⟨fun t ht=>?_,?_,?_⟩
  ·rcases List.mem_append.1 ht with ht|ht
   ·exact htk t ht
   ·rw [List.mem_singleton.1 ht];exact hp
  ·dsimp only;split<;>omega
  ·dsimp only;split<;>omega
theorem flow0_ok {cols M:Int} (hM:8192≤M∧M≤50000000) (hc:1≤cols∧cols≤64) {b:GB} (h:GBOk cols M b) {s:Spn} (hs:SIn cols s):SOk cols (M+4097) (flow0 cols b s):=by
 unfold flow0
 split
 ·rename_i hp
  have:=hs.rs
  have:=hs.r4
  have:=hs.r1
  exact⟨hp.1,hp.2,hs.cs,hs.cc,hs.rs,hs.r4,by omega⟩
 ·exact putG_ok hM hc h hs
theorem flowF_len (cols:Int):∀ (l:List Spn) (b:GB),(flowF cols l b).length=l.length
 | [],_=>rfl
 |s :: l,b=>by simp only [flowF,List.length_cons];rw [flowF_len]
theorem flowF_append (cols:Int):∀ (l m:List Spn) (b:GB),flowF cols (l ++ m) b=flowF cols l b ++ flowF cols m (flowB cols l b)
 | [],_,_=>rfl
 |s :: l,m,b=>by simp only [List.cons_append,flowF,flowB];rw [flowF_append]
theorem flowB_append (cols:Int):∀ (l m:List Spn) (b:GB),flowB cols (l ++ m) b=flowB cols m (flowB cols l b)
 | [],_,_=>rfl
 |s :: l,m,b=>by simp only [List.cons_append,flowB];rw [flowB_append]
theorem flowB_ok {cols:Int} (hc:1≤cols∧cols≤64):∀ (l:List Spn) (b:GB) (M:Int),(∀ s ∈ l,SIn cols s)→GBOk cols M b→8192≤M→M+4097*l.length≤50000000→GBOk cols (M+4097*l.length) (flowB cols l b)
 | [],b,M,_,h,_,_=>by simpa [flowB] using h
 |s :: l,b,M,hs,h,h1,h2=>by
  rw [List.length_cons] at h2 ⊢
  push_cast at h2 ⊢
  have:=flowB_ok hc l (flow1 cols b s) (M+4097) (fun x hx=>hs x (by simp [hx])) (flow1_ok ⟨h1,by omega⟩ hc h (hs s (by simp))) (by omega) (by omega)
  simp only [flowB]
  rwa [show M+4097*((l.length:Int)+1)=M+4097+4097*l.length by omega]
theorem flowF_ok {cols:Int} (hc:1≤cols∧cols≤64):∀ (l:List Spn) (b:GB) (M:Int),(∀ s ∈ l,SIn cols s)→GBOk cols M b→8192≤M→M+4097*l.length≤50000000→∀ t ∈ flowF cols l b,SOk cols (M+4097*l.length) t
 | [],b,M,_,h,_,_,t,ht=>by simp [flowF] at ht
 |s :: l,b,M,hs,h,h1,h2,t,ht=>by
  rw [List.length_cons] at h2 ⊢
  push_cast at h2 ⊢
  have hm:∀ x ∈ l,SIn cols x:=fun x hx=>hs x (by simp [hx])
  simp only [flowF,List.mem_cons] at ht
  rcases ht with rfl|ht
  ·exact(flow0_ok ⟨h1,by omega⟩ hc h (hs s (by simp))).mono (by omega)
  ·have:=flowF_ok hc l (flow1 cols b s) (M+4097) hm (flow1_ok ⟨h1,by omega⟩ hc h (hs s (by simp))) (by omega) (by omega) t ht
   exact this.mono (by omega)
end Go.Proofs.YtlenbcmgjancmaaGreatDoor
namespace Go.Proofs.YtlenbcmgjancmaaGreatDoor
structure Ned where
 a:Int
 s:Int
 z:Int
instance:Inhabited Ned:=⟨⟨0,0,0⟩⟩
abbrev ltN (x y:Ned):Bool:=decide (x.s - y.s<0)
def autosF:Nat→List Itm→List Nat
 |_,[]=>[]
 |i,it :: l=>if it.k=0 then i :: autosF (i+1) l else autosF (i+1) l
theorem autosF_mem:∀ (l:List Itm) (i j:Nat),j ∈ autosF i l→i≤j∧j<i+l.length
 | [],i,j,h=>by simp [autosF] at h
 |it :: l,i,j,h=>by
  unfold autosF at h
  rw [List.length_cons]
  split at h
  ·rcases List.mem_cons.1 h with rfl|h
   ·omega
   ·have:=autosF_mem l (i+1) j h;omega
  ·have:=autosF_mem l (i+1) j h;omega
theorem autosF_len:∀ (l:List Itm) (i:Nat),(autosF i l).length≤l.length
 | [],i=>by simp [autosF]
 |it :: l,i=>by
  unfold autosF
  have:=autosF_len l (i+1)
  split<;>simp<;>omega
theorem autosF_app:∀ (l m:List Itm) (i:Nat),autosF i (l ++ m)=autosF i l ++ autosF (i+l.length) m
 | [],m,i=>by simp [autosF]
 |it :: l,m,i=>by
  have ih:=autosF_app l m (i+1)
  rw [List.cons_append,List.length_cons,show i+(l.length+1)=i+1+l.length by omega]
  simp only [autosF]
  rw [ih]
  split<;>simp
def partS (lack:Int) (m:Nat):Int:=lack / m+if 0<lack % m then 1 else 0
def giveS:Int→List Nat→List Int→List Int
 |_,[],h=>h
 |lack,i :: l,h=>if lack≤0 then h else giveS (lack - partS lack (l.length+1)) l (h.set i (gd h i+partS lack (l.length+1)))
theorem partS_range {lack:Int} {m:Nat} (h:0<lack) (hm:0<m):0≤partS lack m∧partS lack m≤lack:=by
 unfold partS
 have h1:0≤lack / (m:Int):=Int.ediv_nonneg (by omega) (by omega)
 have h2:(m:Int)*(lack / m)+lack % m=lack:=Int.mul_ediv_add_emod lack m
 have h3:lack / (m:Int)≤(m:Int)*(lack / m):=by
  have:1*(lack / (m:Int))≤(m:Int)*(lack / m):=Int.mul_le_mul_of_nonneg_right (by omega) h1
  omega
 have h4:0≤lack % (m:Int):=Int.emod_nonneg _ (by omega)
 split<;>omega
theorem giveS_len:∀ (l:List Nat) (lack:Int) (h:List Int),(giveS lack l h).length=h.length
 | [],_,_=>rfl
 |i :: l,lack,h=>by
  unfold giveS
  split
  ·rfl
  ·rw [giveS_len l];simp
theorem giveS_range {B:Int}:∀ (l:List Nat) (lack:Int) (h:List Int),(∀ x ∈ h,0≤x∧x≤B)→l.Nodup→(∀ i ∈ l,i<h.length)→∀ C:Int,0≤C→lack≤C→∀ (j:Nat) (x:Int),(giveS lack l h)[j]?=some x→0≤x∧x≤B+C
 | [],_,h,hb,_,_,C,hC,_,j,x,hx=>by
  have:=hb x (List.mem_of_getElem? hx)
  omega
 |i :: l,lack,h,hb,hn,hi,C,hC,hl,j,x,hx=>by
  unfold giveS at hx
  split at hx
  ·have:=hb x (List.mem_of_getElem? hx)
   omega
  ·have hp:=partS_range (lack:=lack) (m:=l.length+1) (by omega) (by omega)
   generalize partS lack (l.length+1)=p at *
   by_cases hji:j=i
   ·subst hji
    have key:∀ (l:List Nat) (lack:Int) (h:List Int),j ∉ l→(giveS lack l h)[j]?=h[j]?:=by
     intro l
     induction l with
     |nil=>intros;rfl
     |cons i l ih=>
      intro lack h hj
      unfold giveS
      split
      ·rfl
      ·rw [ih _ _ (fun e=>hj (by simp [e])),List.getElem?_set_ne (fun e=>hj (by simp [e]))]
    rw [key l _ _ (List.nodup_cons.1 hn).1] at hx
    have hj:=hi j (by simp)
    rw [List.getElem?_set_self hj] at hx
    have:=hb (gd h j) (by simp [gd,List.getElem?_eq_getElem hj])
    cases hx
    omega
   ·have h2:=giveS_range (B:=B) l (lack - p) (h.set i (gd h i+p))
    by_cases hC2:True
    ·have e:(giveS (lack - p) l (h.set i (gd h i+p)))[j]?=(giveS (lack - p) l (h.set i (gd h i)))[j]?:=by
      have key:∀ (l:List Nat) (lack:Int) (h h':List Int),i ∉ l→(∀ q,q ≠ i→h[q]?=h'[q]?)→h.length=h'.length→∀ q,q ≠ i→(giveS lack l h)[q]?=(giveS lack l h')[q]?:=by
       intro l
       induction l with
       |nil=>intro lack h h' _ hh _ q hq;exact hh q hq
       |cons a l ih=>
        intro lack h h' hil hh hlen q hq
        unfold giveS
        split
        ·exact hh q hq
        ·have ha:a ≠ i:=fun e=>hil (by simp [e])
         have eg:gd h a=gd h' a:=by simp [gd,hh a ha]
         refine ih _ _ _ (fun e=>hil (by simp [e])) (fun q hq=>?_) (by simp [hlen]) q hq
         rw [eg]
         by_cases haq:a=q
         ·subst haq
          by_cases hlt:a<h.length
          ·rw [List.getElem?_set_self hlt,List.getElem?_set_self (by omega)]
          ·rw [List.getElem?_eq_none (by simp;omega),List.getElem?_eq_none (by simp;omega)]
         ·rw [List.getElem?_set_ne haq,List.getElem?_set_ne haq,hh q hq]
      refine key l _ _ _ (List.nodup_cons.1 hn).1 (fun q hq=>?_) (by simp) j hji
      rw [List.getElem?_set_ne (Ne.symm hq),List.getElem?_set_ne (Ne.symm hq)]
     rw [e] at hx
     have hii:=hi i (by simp)
     have hset:h.set i (gd h i)=h:=by
      apply List.ext_getElem?
      intro q
      by_cases hq:i=q
      ·subst hq;rw [List.getElem?_set_self hii];simp [gd,List.getElem?_eq_getElem hii]
      ·rw [List.getElem?_set_ne hq]
     rw [hset] at hx
     exact giveS_range l (lack - p) h hb (List.nodup_cons.1 hn).2 (fun q hq=>hi q (by simp [hq])) C hC (by omega) j x hx
    ·exact absurd trivial hC2
theorem autosF_nodup:∀ (l:List Itm) (i:Nat),(autosF i l).Nodup
 | [],_=>List.nodup_nil
 |it :: l,i=>by
  unfold autosF
  split
  ·refine List.nodup_cons.2 ⟨fun h=>?_,autosF_nodup l (i+1)⟩
   have:=autosF_mem l (i+1) i h;omega
  ·exact autosF_nodup l (i+1)
def broughtL:List Itm→List Int→Int
 |it :: l,h :: hs=>intoS h it+broughtL l hs
 |_,_=>0
theorem broughtL_app:∀ (l:List Itm) (h:List Int) (m:List Itm) (k:List Int),h.length=l.length→broughtL (l ++ m) (h ++ k)=broughtL l h+broughtL m k
 | [],[],m,k,_=>by simp [broughtL]
 | [],_ :: _,_,_,e=>by simp at e
 |_ :: _,[],_,_,e=>by simp at e
 |it :: l,x :: h,m,k,e=>by
  simp only [List.cons_append,broughtL]
  rw [broughtL_app l h m k (by simpa using e)]
  omega
def spreadS (items:List Itm) (has:List Int) (size gap:Int):List Int :=
 if items.any (fun it=>it.k == 3)=true then has
 else giveS (size - gap*((items.length:Int) - 1) - broughtL items has) (autosF 0 items) has
theorem spreadS_len (items:List Itm) (has:List Int) (size gap:Int):(spreadS items has size gap).length=has.length:=by
 unfold spreadS
 split
 ·rfl
 ·exact giveS_len _ _ _
theorem broughtL_nonneg:∀ (l:List Itm) (h:List Int),(∀ it ∈ l,FItm it)→0≤broughtL l h
 | [],_,_=>by simp [broughtL]
 |_ :: _,[],_=>by simp [broughtL]
 |it :: l,x :: h,hf=>by
  have h1:=hf it (by simp)
  have h2:=broughtL_nonneg l h (fun y hy=>hf y (by simp [hy]))
  obtain⟨k1,k2,k3,k4,k5,_⟩:=h1
  simp only [broughtL]
  unfold intoS
  split
  ·have:=k5 (by assumption);omega
  ·omega
theorem spreadS_range {items:List Itm} {has:List Int} {size gap B:Int} (hf:∀ it ∈ items,FItm it) (hl:has.length=items.length) (hb:∀ x ∈ has,0≤x∧x≤B) (hs:0≤size∧size≤4096) (hg:0≤gap) (hn:items ≠ []):∀ x ∈ spreadS items has size gap,0≤x∧x≤B+4096:=by
 intro x hx
 unfold spreadS at hx
 split at hx
 ·have:=hb x hx;omega
 ·obtain⟨j,hj⟩:=List.mem_iff_getElem?.1 hx
  have h0:=broughtL_nonneg items has hf
  have h1:0≤gap*((items.length:Int) - 1):=Int.mul_nonneg hg (by have:=List.length_pos_iff.2 hn;omega)
  exact giveS_range (B:=B) _ _ has hb (autosF_nodup items 0) (fun i hi=>by have:=autosF_mem items 0 i hi;omega) 4096 (by omega) (by omega) j x hj
def needS (N:Int) (n:Ned):Option Ned:=if n.a<0∨N≤n.a∨n.s<1 then none else some ⟨n.a,min n.s (N - n.a),within3S n.z 0 4096⟩
def hasS (it:Itm):Int:=if it.k=1 then intoS it.n it else it.mn
def ones1 (items:List Itm):List Ned→List Int→List Int
 | [],h=>h
 |n :: l,h=>
  match needS items.length n with
  |none=>ones1 items l h
  |some m=>if 1<m.s then ones1 items l h else if (gd items m.a.toNat).k=0 then ones1 items l (h.set m.a.toNat (max (gd h m.a.toNat) m.z)) else ones1 items l h
def wides (N:Int):List Ned→List Ned
 | []=>[]
 |n :: l=>
  match needS N n with
  |none=>wides N l
  |some m=>if 1<m.s then m :: wides N l else wides N l
def segS (l:List Int) (a:Nat) (s:List Int):List Int:=l.take a ++ s ++ l.drop (a+s.length)
theorem segS_len {l s:List Int} {a:Nat} (h:a+s.length≤l.length):(segS l a s).length=l.length:=by
 unfold segS
 simp only [List.length_append,List.length_take,List.length_drop]
 omega
def spreads (items:List Itm) (gap:Int):List Ned→List Int→List Int
 | [],h=>h
 |n :: l,h=>spreads items gap l (segS h n.a.toNat (spreadS ((items.drop n.a.toNat).take n.s.toNat) ((h.drop n.a.toNat).take n.s.toNat) n.z gap))
def fixI (it:Itm) (h:Int):Itm:=if it.k=0 then ⟨1,min h 4096,0,it.mn,it.mx⟩ else it
noncomputable def hasAll (items:List Itm) (needs:List Ned) (gap:Int):List Int :=
 spreads items gap (stableS ltN (wides items.length needs)) (ones1 items needs (items.map hasS))
noncomputable def tracksG (items:List Itm) (needs:List Ned) (extent gap:Int):List Int :=
 if 4096<items.length then []
 else sizesS (List.zipWith fixI (items.map normI) (hasAll (items.map normI) needs (within3S gap 0 4096))) (within3S extent 0 4096) (within3S gap 0 4096)
def beginsF (gap:Int):Int→List Int→List Int
 |a,[]=>[a]
 |a,n :: l=>a :: beginsF gap (a+within3S n 0 4096+gap) l
theorem beginsF_len (gap:Int):∀ (l:List Int) (a:Int),(beginsF gap a l).length=l.length+1
 | [],_=>rfl
 |n :: l,a=>by unfold beginsF;rw [List.length_cons,beginsF_len gap l];rfl
def stretchS (at':List Int) (gap from' many:Int):Option (Int × Int) :=
 let n:Int:=(at'.length:Int) - 1
 let m1:=max many 1
 let m2:=if from'<0 then m1+from' else m1
 let f:=if from'<0 then 0 else from'
 if n≤f∨m2<1 then none
 else
  let m:=min m2 (n - f)
  some (gd at' f.toNat,gd at' (f+m).toNat - gap - gd at' f.toNat)
structure Rct where
 x:Int
 y:Int
 w:Int
 h:Int
instance:Inhabited Rct:=⟨⟨0,0,0,0⟩⟩
def rectS (x y:List Int) (gap:Int) (s:Spn):Rct :=
 match stretchS x gap s.c s.cs,stretchS y gap s.r s.rs with
 |some a,some b=>⟨a.1,b.1,a.2,b.2⟩
 |_,_=>⟨0,0,0,0⟩
def rectsG (cols rows:List Int) (gap:Int) (spans:List Spn):List Rct :=
 if 4096<cols.length∨4096<rows.length∨4096<spans.length then []
 else spans.map (rectS (beginsF (within3S gap 0 4096) 0 cols) (beginsF (within3S gap 0 4096) 0 rows) (within3S gap 0 4096))
end Go.Proofs.YtlenbcmgjancmaaGreatDoor
namespace Go.Proofs.YtlenbcmgjancmaaGreatDoor
open Go.RowKit
section
variable {V α:Type}
def flatC (c:α→List V):List α→List V
 | []=>[]
 |x :: l=>c x ++ flatC c l
def setMany:List V→Nat→List V→List V
 |cs,_,[]=>cs
 |cs,o,v :: vs=>setMany (cs.set o v) (o+1) vs
theorem setMany_behind (a:List V):∀ (vs cs:List V) (o:Nat),setMany (a ++ cs) (a.length+o) vs=a ++ setMany cs o vs
 | [],_,_=>rfl
 |v :: vs,cs,o=>by
  rw [setMany,setMany,List.set_append_right _ _ (by omega),show a.length+o - a.length=o by omega,Nat.add_assoc]
  exact setMany_behind a vs (cs.set o v) (o+1)
theorem setMany_ahead:∀ (vs a:List V) (cs d:List V),a.length=vs.length→setMany (d ++ (a ++ cs)) d.length vs=d ++ (vs ++ cs)
 | [],a,cs,d,h=>by
  obtain rfl:a=[]:=List.length_eq_zero_iff.1 (by simpa using h)
  rfl
 |v :: vs,[],cs,d,h=>by simp at h
 |v :: vs,x :: a,cs,d,h=>by
  rw [setMany,List.set_append_right _ _ (Nat.le_refl _),Nat.sub_self]
  have:=setMany_ahead vs a cs (d ++ [v]) (by simpa using h)
  simp only [List.cons_append,List.set_cons_zero,List.length_append,List.length_cons,List.length_nil,List.append_assoc,List.nil_append] at this ⊢
  exact this
theorem flatC_len {c:α→List V} {m:Nat} (hc:∀ x,(c x).length=m):∀ l:List α,(flatC c l).length=l.length*m
 | []=>by simp [flatC]
 |x :: l=>by simp only [flatC,List.length_append,List.length_cons];rw [flatC_len hc l,hc,Nat.succ_mul,Nat.add_comm]
theorem flatC_get {c:α→List V} {m:Nat} (hc:∀ x,(c x).length=m):∀ (l:List α) (i j:Nat) (x:α),l[i]?=some x→j<m→(flatC c l)[i*m+j]?=(c x)[j]?
 | [],i,j,x,h,_=>by simp at h
 |y :: l,0,j,x,h,hj=>by
  simp at h
  subst h
  rw [flatC,Nat.zero_mul,Nat.zero_add,List.getElem?_append_left (by rw [hc];exact hj)]
 |y :: l,i+1,j,x,h,hj=>by
  rw [flatC,List.getElem?_append_right (by rw [hc,Nat.succ_mul];omega),hc,show (i+1)*m+j - m=i*m+j by rw [Nat.succ_mul];omega]
  exact flatC_get hc l i j x (by simpa using h) hj
theorem flatC_set {c:α→List V} {m:Nat} (hc:∀ x,(c x).length=m) (x:α):∀ (l:List α) (i:Nat),i<l.length→flatC c (l.set i x)=setMany (flatC c l) (i*m) (c x)
 | [],i,h=>by simp at h
 |y :: l,0,_=>by
  have:=setMany_ahead (c x) (c y) (flatC c l) [] (by rw [hc,hc])
  simp only [List.nil_append,List.length_nil] at this
  rw [List.set_cons_zero,flatC,flatC,Nat.zero_mul]
  exact this.symm
 |y :: l,i+1,h=>by
  have ih:=flatC_set hc x l i (by simpa using h)
  have:=setMany_behind (c y) (c x) (flatC c l) (i*m)
  rw [hc] at this
  rw [List.set_cons_succ,flatC,flatC,ih,show (i+1)*m=m+i*m by rw [Nat.succ_mul,Nat.add_comm]]
  exact this.symm
theorem flatC_app (c:α→List V):∀ (l k:List α),flatC c (l ++ k)=flatC c l ++ flatC c k
 | [],_=>rfl
 |x :: l,k=>by simp only [List.cons_append,flatC];rw [flatC_app c l k,List.append_assoc]
theorem flatC_rep [Inhabited V] {c:α→List V} {m:Nat} (hc:∀ x,(c x).length=m) (hm:0<m) (z:α) (n q:Nat) (hq:q<n*m):(flatC c (List.replicate n z))[q]?=(c z)[q % m]?:=by
 have h1:q / m<n:=(Nat.div_lt_iff_lt_mul hm).2 hq
 have:=flatC_get hc (List.replicate n z) (q / m) (q % m) z (by rw [List.getElem?_replicate,if_pos h1]) (Nat.mod_lt _ hm)
 rwa [Nat.div_add_mod'] at this
def partZ (z:α) (l:List α) (k:Nat):List α:=l.take k ++ List.replicate (l.length - k) z
theorem partZ_len {z:α} {l:List α} {k:Nat} (h:k≤l.length):(partZ z l k).length=l.length:=by simp [partZ,List.length_take];omega
theorem partZ_zero (z:α) (l:List α):partZ z l 0=List.replicate l.length z:=by simp [partZ]
theorem partZ_full {z:α} {l:List α} {k:Nat} (h:k=l.length):partZ z l k=l:=by subst h;simp [partZ]
theorem partZ_get {z:α} {l:List α} {k:Nat} (h:k<l.length):(partZ z l k)[k]?=some z:=by
 unfold partZ
 rw [List.getElem?_append_right (by rw [List.length_take];omega),List.length_take,Nat.min_eq_left (by omega),Nat.sub_self,List.getElem?_replicate,if_pos (by omega)]
theorem partZ_set {z:α} {l:List α} {k:Nat} {x:α} (h:l[k]?=some x):(partZ z l k).set k x=partZ z l (k+1):=by
 obtain⟨h1,rfl⟩:=List.getElem?_eq_some_iff.1 h
 unfold partZ
 have hk:(l.take k).length=k:=by rw [List.length_take];omega
 rw [List.set_append_right _ _ (by rw [hk];exact Nat.le_refl _),hk,Nat.sub_self,show l.length - k=(l.length - (k+1))+1 by omega,List.replicate_succ,List.set_cons_zero,List.take_succ_eq_append_getElem h1,List.append_assoc]
 rfl
end
def Itm.cells (i:Itm):List Value:=[.int .i8 i.k,.int .i64 i.n,.int .i64 i.d,.int .i64 i.mn,.int .i64 i.mx]
theorem Itm.cells_len (i:Itm):i.cells.length=5:=rfl
abbrev itm0:Itm:=⟨0,0,0,0,0⟩
abbrev ArrT (W:World) (b:Nat) (l:List Itm):Prop:=Arr W b (flatC Itm.cells l) 40
section
variable {W:World} {b:Nat} {l:List Itm}
theorem ArrT.at (h:ArrT W b l) {i:Nat} {x:Itm} (hi:l[i]?=some x):ItmAt W b (i*5) x:=by
 have g:=fun j hj=>flatC_get Itm.cells_len l i j x hi hj
 exact⟨h.cell (j:=i*5) (by have:=g 0 (by omega);simpa [Itm.cells] using this),h.cell (j:=i*5+1) (by rw [g 1 (by omega)];rfl),h.cell (j:=i*5+2) (by rw [g 2 (by omega)];rfl),h.cell (j:=i*5+3) (by rw [g 3 (by omega)];rfl),h.cell (j:=i*5+4) (by rw [g 4 (by omega)];rfl)⟩
theorem ArrT.put (h:ArrT W b l) {i:Nat} (hi:i<l.length) (x:Itm) :
  ArrT (((((W.setCell ⟨b,i*5,none⟩ (.int .i8 x.k)).setCell ⟨b,i*5+1,none⟩ (.int .i64 x.n)).setCell ⟨b,i*5+2,none⟩ (.int .i64 x.d)).setCell ⟨b,i*5+3,none⟩ (.int .i64 x.mn)).setCell ⟨b,i*5+4,none⟩ (.int .i64 x.mx)) b (l.set i x):=by
 have:=((((h.set (i*5) (.int .i8 x.k)).set (i*5+1) (.int .i64 x.n)).set (i*5+2) (.int .i64 x.d)).set (i*5+3) (.int .i64 x.mn)).set (i*5+4) (.int .i64 x.mx)
 unfold ArrT
 rw [flatC_set Itm.cells_len x l i hi]
 exact this
theorem ArrT.to (h:ArrT W b l) {l':List Itm} (e:l=l'):ArrT W b l':=e ▸ h
theorem ArrT.sl (h:ArrT W b l) (hl:l.length≤4398046511104) (c:Nat):SlT W (.slice (some ⟨b,0,none⟩) l.length c) l :=
 ⟨_,c,rfl,hl,fun i x hi=>⟨b,0,rfl,h.lt,by rw [Nat.zero_add];exact h.at hi⟩⟩
end
theorem made_flat {α:Type} {c:α→List Value} {m:Nat} (hc:∀ x,(c x).length=m) (hm:0<m) (z:α) (n:Nat):(madeCells (c z).toArray (n*m)).toList=flatC c (List.replicate n z):=by
 apply List.ext_getElem?
 intro q
 by_cases hq:q<n*m
 ·rw [flatC_rep hc hm z n q hq]
  have h1:q % m<(c z).length:=by rw [hc];exact Nat.mod_lt _ hm
  simp [madeCells,hq,hc,List.getElem?_eq_getElem h1,getElem!_def]
 ·rw [List.getElem?_eq_none (by simp [madeCells];omega),List.getElem?_eq_none (by rw [flatC_len hc,List.length_replicate];omega)]
theorem ArrT.made (W:World) (n:Nat):ArrT (W.alloc (.cells (madeCells #[.int .i8 0,.int .i64 0,.int .i64 0,.int .i64 0,.int .i64 0] (n*5)) 40)) W.heap.size (List.replicate n itm0):=by
 unfold ArrT Arr
 rw [heap_alloc_new,← made_flat Itm.cells_len (by omega) itm0 n]
 rfl
theorem mk_items (N:Nat) (hN:N≤4096) (w:World):(Instr.makeSlice 44 (.int .i64 N) (.int .i64 N)).run Tryz.prog w=.ok (.slice (some ⟨w.heap.size,0,none⟩) N N) (w.alloc (.cells (madeCells #[.int .i8 0,.int .i64 0,.int .i64 0,.int .i64 0,.int .i64 0] (N*5)) 40)):=by
 obtain⟨i0,hi,hz0,hz1,hz2⟩:=info_parts (P:=Tryz.prog) (show (Tryz.prog.info? 40).map (fun i=>(i.zero,i.size,i.bytes))=some (some (.agg #[.int .i8 0,.int .i64 0,.int .i64 0,.int .i64 0,.int .i64 0]),5,40) by kernel_rfl)
 have:=run_make (P:=Tryz.prog) w 44 40 i0 _ Tryz.underlying44 hi hz0 .i64 .i64 N N (by omega) (Int.le_refl _) (by rw [hz2];omega) (by omega)
 rw [hz1] at this
 simpa [Value.cells] using this
end Go.Proofs.YtlenbcmgjancmaaGreatDoor
namespace Go.Proofs.YtlenbcmgjancmaaGreatDoor
open Go.RowKit
def sumS (l:List Int) (gap:Int):Int:=gap*max 0 ((l.length:Int) - 1)+sumL l
def greatS:List Int→Int→Int
 | [],m=>m
 |x :: l,m=>greatS l (max m x)
theorem greatS_drop {l:List Int} {a:Nat} {x m:Int} (h:l[a]?=some x):greatS (l.drop a) m=greatS (l.drop (a+1)) (max m x):=by
 obtain⟨h1,rfl⟩:=List.getElem?_eq_some_iff.1 h
 rw [List.drop_eq_getElem_cons h1]
 rfl
set_option maxRecDepth 100000 in
set_option maxHeartbeats 4000000 in
theorem greatest_any (v:Value) (l:List Int) (w:World) (hv:SlI w v l) (hl:l.length≤1048576) :
  Calls Tryz.prog 37 #[v] w (VRet (.int .i64 (greatS l 0)) w):=by
 obtain⟨p,c,rfl,_,hx⟩:=hv
 have HX:=zH hx
 clear hx
 go_enter Tryz.func37,Tryz.ntmps37
 go_wp2
 go_loopw [8,3] (fun i s wr=>∃ (a:Nat) (m:Int),i=.int .i64 a∧a≤l.length∧s=.int .i64 m∧wr=w∧greatS (l.drop a) m=greatS l 0) (fun i _ _=>l.length - (intOf i).toNat)
 case atStart=>exact⟨0,0,rfl,by omega,rfl,by first|rfl|trivial,rfl⟩
 case round=>
  obtain⟨a,m,rfl,hle,rfl,rfl,hG⟩:=hrel
  have HG:=zH hG
  clear hG
  by_cases hlt:a<l.length
  ·have hltI:(a:Int)<(l.length:Int):=by omega
   obtain⟨x,hx⟩:∃ x,l[a]?=some x:=⟨_,List.getElem?_eq_getElem hlt⟩
   obtain⟨g,o,rfl,hg,hc⟩:=HX.out a x hx
   have HS:=zH (greatS_drop (m:=m) hx)
   clear hx
   go_wp2
   go_roundw
   case rel=>exact⟨a+1,max m x,by first|rfl|go_num,by omega,rfl,by first|rfl|trivial,by rw [← HS.out,HG.out]⟩
   case measure=>simp [intOf]<;>omega
  ·have hlt':decide ((a:Int)<(l.length:Int))=false:=decide_eq_false (by omega)
   obtain rfl:a=l.length:=by omega
   have HE:Hid (m=greatS l 0):=zH (by rw [← HG.out,List.drop_length];rfl)
   go_wp2
   go_ret
   exact⟨by rw [← HE.out];rfl,rfl⟩
end Go.Proofs.YtlenbcmgjancmaaGreatDoor
namespace Go.Proofs.YtlenbcmgjancmaaGreatDoor
open Go.RowKit
def lineS (bd:Int):Int:=if bd=0 then 0 else 2
def fxS (x:ND):Int:=if x.kd=11 then 0 else x.p1+x.p3+lineS x.bd
def fyS (x:ND):Int:=if x.kd=11 then 0 else x.p0+x.p2+lineS x.bd
set_option maxRecDepth 100000 in
set_option maxHeartbeats 4000000 in
theorem frame_any (w:World) (g o:Nat) (x:ND) (kv cv:Value) (h:NodeV w g o x kv cv) (hp0:0≤x.p0∧x.p0≤4096) (hp1:0≤x.p1∧x.p1≤4096) (hp2:0≤x.p2∧x.p2≤4096) (hp3:0≤x.p3∧x.p3≤4096) :
  Calls Tryz.prog 24 #[.pointer (some ⟨g,o,none⟩)] w (VBel (.tuple #[.int .i64 (fxS x),.int .i64 (fyS x)]) w):=by
 have a1:=h.kd
 have a16:=h.p0
 have a17:=h.p1
 have a18:=h.p2
 have a19:=h.p3
 have a20:=h.bd
 clear h
 by_cases hk:x.kd=11
 ·have HX:Hid (fxS x=0):=zH (by unfold fxS;rw [if_pos hk])
  have HY:Hid (fyS x=0):=zH (by unfold fyS;rw [if_pos hk])
  rw [hk] at a1
  go_enter Tryz.func24,Tryz.ntmps24
  go_wp2
  go_ret2
  exact⟨by rw [HX.out,HY.out];rfl,by(repeat (first|exact Below.refl _ _|assumption|refine below_drewN ?_ _|refine Below.drew ?_|(refine Below.alloc ?_ ?bs _;(case bs=>first|omega|(simp;done)|(simp;omega)))|(refine Below.setCell ?_ ?bs _;(case bs=>first|omega|(simp;done)|(simp;omega)))))⟩
 ·have e1:(x.kd == 11)=false:=by rw [beq_eq_false_iff_ne];exact hk
  by_cases hb:x.bd=0
  ·have HX:Hid (fxS x=x.p1+x.p3+0):=zH (by unfold fxS lineS;rw [if_neg hk,if_pos hb])
   have HY:Hid (fyS x=x.p0+x.p2+0):=zH (by unfold fyS lineS;rw [if_neg hk,if_pos hb])
   rw [hb] at a20
   go_enter Tryz.func24,Tryz.ntmps24
   go_upto_region 6 with (fail)
   go_quiet (fail)
   go_wp2
   go_ret2
   exact⟨by rw [HX.out,HY.out];simp,by(repeat (first|exact Below.refl _ _|assumption|refine below_drewN ?_ _|refine Below.drew ?_|(refine Below.alloc ?_ ?bs _;(case bs=>first|omega|(simp;done)|(simp;omega)))|(refine Below.setCell ?_ ?bs _;(case bs=>first|omega|(simp;done)|(simp;omega)))))⟩
  ·have HX:Hid (fxS x=x.p1+x.p3+2):=zH (by unfold fxS lineS;rw [if_neg hk,if_neg hb])
   have HY:Hid (fyS x=x.p0+x.p2+2):=zH (by unfold fyS lineS;rw [if_neg hk,if_neg hb])
   have e2:(x.bd == 0)=false:=by rw [beq_eq_false_iff_ne];exact hb
   go_enter Tryz.func24,Tryz.ntmps24
   go_upto_region 6 with (fail)
   go_quiet (fail)
   go_wp2
   go_ret2
   exact⟨by rw [HX.out,HY.out];rfl,by(repeat (first|exact Below.refl _ _|assumption|refine below_drewN ?_ _|refine Below.drew ?_|(refine Below.alloc ?_ ?bs _;(case bs=>first|omega|(simp;done)|(simp;omega)))|(refine Below.setCell ?_ ?bs _;(case bs=>first|omega|(simp;done)|(simp;omega)))))⟩
def barS (x:ND):Int:=if (bits .and .u8 x.fl 2 != 0)=true then 1 else 0
set_option maxRecDepth 100000 in
set_option maxHeartbeats 4000000 in
theorem bar_any (w:World) (g o:Nat) (x:ND) (kv cv:Value) (h:NodeV w g o x kv cv):Calls Tryz.prog 62 #[.pointer (some ⟨g,o,none⟩)] w (VBel (.int .i64 (barS x)) w):=by
 have a1:=h.fl
 clear h
 obtain⟨r,hr⟩:∃ r,barS x=r:=⟨_,rfl⟩
 rw [hr]
 unfold barS at hr
 go_enter Tryz.func62,Tryz.ntmps62
 go_wp2
 all_goals
  go_ret
  refine⟨?_,by(repeat (first|exact Below.refl _ _|assumption|refine below_drewN ?_ _|refine Below.drew ?_|(refine Below.alloc ?_ ?bs _;(case bs=>first|omega|(simp;done)|(simp;omega)))|(refine Below.setCell ?_ ?bs _;(case bs=>first|omega|(simp;done)|(simp;omega)))))⟩
  subst hr
  simp_all
end Go.Proofs.YtlenbcmgjancmaaGreatDoor
