import Derived.Test.YtlenbcmgjancmaaGreatDoorProg
set_option linter.unusedVariables false
set_option linter.unusedSimpArgs false
namespace Go.Proofs.YtlenbcmgjancmaaGreatDoor
variable {α:Type}
def sumF (f:α→Int):List α→Int
 | []=>0
 |x :: l=>f x+sumF f l
theorem sumF_congr {f g:α→Int} {l:List α} (h:∀ x ∈ l,f x=g x):sumF f l=sumF g l:=by
 induction l with
 |nil=>rfl
 |cons x l ih=>simp only [sumF];rw [h x (by simp),ih fun y hy=>h y (by simp [hy])]
theorem sumF_le {f g:α→Int} {l:List α} (h:∀ x ∈ l,f x≤g x):sumF f l≤sumF g l:=by
 induction l with
 |nil=>exact Int.le_refl _
 |cons x l ih=>
  have h1:=h x (by simp)
  have h2:=ih fun y hy=>h y (by simp [hy])
  simp only [sumF];omega
theorem sumF_sub (f g:α→Int) (l:List α):sumF (fun x=>f x - g x) l=sumF f l - sumF g l:=by
 induction l with
 |nil=>rfl
 |cons x l ih=>simp only [sumF];omega
theorem sumF_mul (c:Int) (f:α→Int) (l:List α):sumF (fun x=>c*f x) l=c*sumF f l:=by
 induction l with
 |nil=>simp [sumF]
 |cons x l ih=>simp only [sumF];rw [ih,Int.mul_add]
theorem sumF_nonneg {f:α→Int} {l:List α} (h:∀ x ∈ l,0≤f x):0≤sumF f l:=by
 induction l with
 |nil=>exact Int.le_refl _
 |cons x l ih=>
  have h1:=h x (by simp)
  have h2:=ih fun y hy=>h y (by simp [hy])
  simp only [sumF];omega
theorem sumF_nonpos {f:α→Int} {l:List α} (h:∀ x ∈ l,f x≤0):sumF f l≤0:=by
 induction l with
 |nil=>exact Int.le_refl _
 |cons x l ih=>
  have h1:=h x (by simp)
  have h2:=ih fun y hy=>h y (by simp [hy])
  simp only [sumF];omega
theorem sumF_filter (f:α→Int) (p:α→Bool) (l:List α):sumF f (l.filter p)+sumF f (l.filter fun x=>!p x)=sumF f l:=by
 induction l with
 |nil=>rfl
 |cons x l ih=>
  cases h:p x<;>simp only [List.filter_cons,h,sumF,if_true,Bool.false_eq_true,if_false,Bool.not_true,Bool.not_false]<;>omega
theorem sumF_parts (f g:α→Int) (p:α→Bool) (l:List α):sumF (fun x=>if p x=true then f x else g x) l=sumF f (l.filter p)+sumF g (l.filter fun x=>!p x):=by
 induction l with
 |nil=>rfl
 |cons x l ih=>
  cases h:p x<;>simp only [List.filter_cons,h,sumF,if_true,Bool.false_eq_true,if_false,Bool.not_true,Bool.not_false]<;>omega
theorem fill_step (l:List α) (N m b s:α→Int) (fz:α→Bool) (rest w above below:Int) (hw:w=sumF N l) (hN:∀ x ∈ l,1≤N x) (hm:∀ x ∈ l,m x≤b x) (hr:sumF m l≤rest)
  (ha:above=sumF (fun x=>max 0 (rest*N x - w*b x)) l) (hb:below=sumF (fun x=>max 0 (w*m x - rest*N x)) l)
  (hf:∀ x ∈ l,fz x=true→(below≤above∧w*b x≤rest*N x∧s x=b x)∨(above≤below∧rest*N x≤w*m x∧¬ (below≤above∧w*b x≤rest*N x)∧s x=m x))
  (hn:∀ x ∈ l,fz x=false→¬ (below≤above∧w*b x≤rest*N x)∧¬ (above≤below∧rest*N x≤w*m x)) :
  sumF m (l.filter fun x=>!fz x)≤rest - sumF s (l.filter fz):=by
 cases l with
 |nil=>simpa [sumF] using hr
 |cons y l'=>
 generalize hl:y :: l'=l at *
 have hwp:0<w:=by
  rw [hw,← hl]
  have h1:=hN y (by simp [← hl])
  have h2:0≤sumF N l':=sumF_nonneg fun x hx=>by have:=hN x (by simp [← hl,hx]);omega
  simp only [sumF];omega
 have hmb:∀ x ∈ l,w*m x≤w*b x:=fun x hx=>Int.mul_le_mul_of_nonneg_left (hm x hx) (by omega)
 have key:0≤sumF (fun x=>rest*N x - w*(if fz x=true then s x else m x)) l:=by
  by_cases hc:below≤above
  ·have h1:sumF (fun x=>max 0 (rest*N x - w*b x) - max 0 (w*m x - rest*N x)) l≤sumF (fun x=>rest*N x - w*(if fz x=true then s x else m x)) l:=sumF_le fun x hx=>by
    have h3:=hmb x hx
    cases hz:fz x with
    |true=>
     rcases hf x hx hz with ⟨_,h5,h6⟩|⟨_,h5,h6,h7⟩
     ·simp only [if_true];rw [h6];omega
     ·simp only [if_true];rw [h7];omega
    |false=>
     have h4:=hn x hx hz
     have h5:¬ w*b x≤rest*N x:=fun h=>h4.1 ⟨hc,h⟩
     simp only [Bool.false_eq_true,if_false];omega
   rw [sumF_sub,← ha,← hb] at h1
   omega
  ·have h1:sumF (fun x=>rest*N x - w*(if fz x=true then s x else m x)) l=sumF (fun x=>rest*N x - w*m x) l:=sumF_congr fun x hx=>by
    cases hz:fz x with
    |true=>
     rcases hf x hx hz with ⟨h5,_,_⟩|⟨_,h5,h6,h7⟩
     ·omega
     ·simp only [if_true];rw [h7]
    |false=>simp
   rw [h1,sumF_sub,sumF_mul,sumF_mul,← hw,Int.mul_comm rest w,← Int.mul_sub]
   exact Int.mul_nonneg (by omega) (by omega)
 rw [sumF_sub,sumF_mul,sumF_mul,← hw,sumF_parts,Int.mul_comm rest w,← Int.mul_sub] at key
 have:=Int.le_of_mul_le_mul_left (a:=w) (b:=0) (c:=rest - (sumF s (l.filter fz)+sumF m (l.filter fun x=>!fz x))) (by simpa using key) hwp
 omega
theorem fill_less (l:List α) (N m b:α→Int) (fz:α→Bool) (rest w above below:Int)
  (ha:above=sumF (fun x=>max 0 (rest*N x - w*b x)) l) (hb:below=sumF (fun x=>max 0 (w*m x - rest*N x)) l)
  (hn:∀ x ∈ l,fz x=false→¬ (below≤above∧w*b x≤rest*N x)∧¬ (above≤below∧rest*N x≤w*m x)) (hgo:¬ (above=0∧below=0)) :
  (l.filter fun x=>!fz x).length<l.length:=by
 rcases Nat.lt_or_ge (l.filter fun x=>!fz x).length l.length with h|h
 ·exact h
 exfalso
 have hall:∀ x ∈ l,fz x=false:=by
  have h1:=List.filter_sublist (l:=l) (p:=fun x=>!fz x)
  have h2:=h1.eq_of_length_le h
  intro x hx
  rw [← h2] at hx
  simpa using (List.mem_filter.1 hx).2
 have ha0:0≤above:=by rw [ha];exact sumF_nonneg fun x _=>by omega
 have hb0:0≤below:=by rw [hb];exact sumF_nonneg fun x _=>by omega
 by_cases hc:below≤above
 ·have:above≤0:=by
   rw [ha]
   exact sumF_nonpos fun x hx=>by
    have:=(hn x hx (hall x hx)).1
    omega
  omega
 ·have:below≤0:=by
   rw [hb]
   exact sumF_nonpos fun x hx=>by
    have:=(hn x hx (hall x hx)).2
    omega
  omega
theorem floors_left (l:List α) (W:α→Int) (total all:Int) (hall:all=sumF W l) (hp:0<all) :
  0≤total - sumF (fun x=>total*W x / all) l∧total - sumF (fun x=>total*W x / all) l≤l.length:=by
 have h1:all*sumF (fun x=>total*W x / all) l≤all*total:=by
  rw [← sumF_mul]
  have:all*total=sumF (fun x=>total*W x) l:=by rw [sumF_mul,← hall,Int.mul_comm]
  rw [this]
  exact sumF_le fun x _=>Int.mul_ediv_self_le (by omega)
 have h2:all*total≤all*(sumF (fun x=>total*W x / all) l+l.length):=by
  have e:all*total=sumF (fun x=>total*W x) l:=by rw [sumF_mul,← hall,Int.mul_comm]
  have e2:all*(sumF (fun x=>total*W x / all) l+l.length)=sumF (fun x=>all*(total*W x / all)+all) l:=by
   clear h1 e hall
   induction l with
   |nil=>simp [sumF]
   |cons x l ih=>simp only [sumF,List.length_cons];rw [← ih];push_cast;simp only [Int.mul_add];omega
  rw [e,e2]
  exact sumF_le fun x _=>by
   have:=Int.lt_mul_ediv_self_add (x:=total*W x) (k:=all) (by omega)
   omega
 have h3:=Int.le_of_mul_le_mul_left h1 hp
 have h4:=Int.le_of_mul_le_mul_left h2 hp
 omega
end Go.Proofs.YtlenbcmgjancmaaGreatDoor
namespace Go.Proofs.YtlenbcmgjancmaaGreatDoor
section
variable {α:Type} [Inhabited α]
abbrev gd (l:List α) (i:Nat):α:=(l[i]?).getD default
def swp (l:List α) (i j:Nat):List α:=(l.set i (gd l j)).set j (gd l i)
theorem swp_len (l:List α) (i j:Nat):(swp l i j).length=l.length:=by simp [swp]
theorem gd_mem {l:List α} {i:Nat} (h:i<l.length):gd l i ∈ l:=by
 simp [gd,List.getElem?_eq_getElem h]
theorem swp_mem {l:List α} {i j:Nat} (hi:i<l.length) (hj:j<l.length) {x:α} (h:x ∈ swp l i j):x ∈ l:=by
 unfold swp at h
 rcases List.mem_or_eq_of_mem_set h with h|rfl
 ·rcases List.mem_or_eq_of_mem_set h with h|rfl
  ·exact h
  ·exact gd_mem hj
 ·exact gd_mem hi
def Kin (l m:List α):Prop:=m.length=l.length∧∀ x ∈ m,x ∈ l
omit [Inhabited α] in
theorem Kin.refl (l:List α):Kin l l:=⟨rfl,fun _ h=>h⟩
omit [Inhabited α] in
theorem Kin.trans {l m n:List α} (h:Kin l m) (k:Kin m n):Kin l n:=⟨k.1.trans h.1,fun x hx=>h.2 x (k.2 x hx)⟩
theorem sub_swp {l:List α} {i j:Nat} (hi:i<l.length) (hj:j<l.length):Kin l (swp l i j):=⟨swp_len l i j,fun _ h=>swp_mem hi hj h⟩
variable (lt:α→α→Bool)
def sink (a:Nat):Nat→List α→List α
 | 0,l=>l
 |j+1,l=>if a<j+1∧lt (gd l (j+1)) (gd l j)=true then sink a j (swp l (j+1) j) else l
theorem sub_sink (a:Nat):∀ (j:Nat) (l:List α),j<l.length→Kin l (sink lt a j l)
 | 0,l,_=>Kin.refl l
 |j+1,l,h=>by
  simp only [sink]
  split
  ·have h1:Kin l (swp l (j+1) j):=sub_swp h (by omega)
   exact h1.trans (sub_sink a j _ (by rw [swp_len];omega))
  ·exact Kin.refl l
def insF (a:Nat):Nat→Nat→List α→List α
 | 0,_,l=>l
 |k+1,i,l=>insF a k (i+1) (sink lt a i l)
theorem sub_ins (a:Nat):∀ (k i:Nat) (l:List α),i+k≤l.length→Kin l (insF lt a k i l)
 | 0,_,l,_=>Kin.refl l
 |k+1,i,l,h=>by
  have h1:=sub_sink lt a i l (by omega)
  exact h1.trans (sub_ins a k (i+1) _ (by rw [h1.1];omega))
def insS (a b:Nat) (l:List α):List α:=insF lt a (b - (a+1)) (a+1) l
def swr (a b:Nat):Nat→Nat→List α→List α
 | 0,_,l=>l
 |n+1,i,l=>swr a b n (i+1) (swp l (a+i) (b+i))
theorem sub_swr (a b:Nat):∀ (n i:Nat) (l:List α),a+i+n≤l.length→b+i+n≤l.length→Kin l (swr a b n i l)
 | 0,_,l,_,_=>Kin.refl l
 |n+1,i,l,h,h'=>by
  have h1:Kin l (swp l (a+i) (b+i)):=sub_swp (by omega) (by omega)
  exact h1.trans (sub_swr a b n (i+1) _ (by rw [h1.1];omega) (by rw [h1.1];omega))
def rotF (m:Nat):Nat→Nat→Nat→List α→List α
 | 0,_,_,l=>l
 |f+1,i,j,l=>if i=j then swr (m - i) m i 0 l else if j<i then rotF m f (i - j) j (swr (m - i) m j 0 l) else rotF m f i (j - i) (swr (m - i) (m+j - i) i 0 l)
theorem sub_rot (m:Nat):∀ (f i j:Nat) (l:List α),i≤m→m+j≤l.length→Kin l (rotF m f i j l)
 | 0,_,_,l,_,_=>Kin.refl l
 |f+1,i,j,l,hi,hj=>by
  simp only [rotF]
  split
  ·exact sub_swr _ _ _ _ _ (by omega) (by omega)
  ·split
   ·have h1:Kin l (swr (m - i) m j 0 l):=sub_swr _ _ _ _ _ (by omega) (by omega)
    exact h1.trans (sub_rot m f _ _ _ (by omega) (by rw [h1.1];omega))
   ·have h1:Kin l (swr (m - i) (m+j - i) i 0 l):=sub_swr _ _ _ _ _ (by omega) (by omega)
    exact h1.trans (sub_rot m f _ _ _ (by omega) (by rw [h1.1];omega))
def rotS (a m b:Nat) (l:List α):List α:=rotF m (b - a+1) (m - a) (b - m) l
def bs (p:Nat→Bool):Nat→Nat→Nat→Nat
 | 0,i,_=>i
 |f+1,i,j=>if i<j then (if p ((i+j) / 2)=true then bs p f ((i+j) / 2+1) j else bs p f i ((i+j) / 2)) else i
theorem bs_range (p:Nat→Bool):∀ (f i j:Nat),i≤j→i≤bs p f i j∧bs p f i j≤j
 | 0,i,j,h=>⟨Nat.le_refl _,h⟩
 |f+1,i,j,h=>by
  simp only [bs]
  split
  ·split
   ·have:=bs_range p f ((i+j) / 2+1) j (by omega);omega
   ·have:=bs_range p f i ((i+j) / 2) (by omega);omega
  ·omega
def upF:Nat→Nat→List α→List α
 | 0,_,l=>l
 |n+1,k,l=>upF n (k+1) (swp l k (k+1))
theorem sub_up:∀ (n k:Nat) (l:List α),n=0∨k+n<l.length→Kin l (upF n k l)
 | 0,_,l,_=>Kin.refl l
 |n+1,k,l,h=>by
  have h1:Kin l (swp l k (k+1)):=sub_swp (by omega) (by omega)
  exact h1.trans (sub_up n (k+1) _ (by rw [h1.1];omega))
def dnF (i:Nat):Nat→List α→List α
 | 0,l=>l
 |k+1,l=>if i<k+1 then dnF i k (swp l (k+1) k) else l
theorem sub_dn (i:Nat):∀ (k:Nat) (l:List α),k<l.length→Kin l (dnF i k l)
 | 0,l,_=>Kin.refl l
 |k+1,l,h=>by
  simp only [dnF]
  split
  ·have h1:Kin l (swp l (k+1) k):=sub_swp h (by omega)
   exact h1.trans (sub_dn i k _ (by rw [h1.1];omega))
  ·exact Kin.refl l
def symF (lt:α→α→Bool):Nat→Nat→Nat→Nat→List α→List α
 | 0,_,_,_,l=>l
 |f+1,a,m,b,l=>
  if m - a=1 then
   let i:=bs (fun h=>lt (gd l h) (gd l a)) (b - m) m b
   upF (i - 1 - a) a l
  else if b - m=1 then
   let i:=bs (fun h=>!lt (gd l m) (gd l h)) (m - a) a m
   dnF i m l
  else
   let mid:=(a+b) / 2
   let n:=mid+m
   let s:=if mid<m then bs (fun c=>!lt (gd l (n - 1 - c)) (gd l c)) (mid - (n - b)) (n - b) mid else bs (fun c=>!lt (gd l (n - 1 - c)) (gd l c)) (m - a) a m
   let e:=n - s
   let l1:=if s<m∧m<e then rotS s m e l else l
   let l2:=if a<s∧s<mid then symF lt f a s mid l1 else l1
   if mid<e∧e<b then symF lt f mid e b l2 else l2
theorem sym_s (lt:α→α→Bool) (l:List α) (a m b:Nat) (h1:a<m) (h2:m<b) :
  let mid:=(a+b) / 2
  let n:=mid+m
  let s:=if mid<m then bs (fun c=>!lt (gd l (n - 1 - c)) (gd l c)) (mid - (n - b)) (n - b) mid else bs (fun c=>!lt (gd l (n - 1 - c)) (gd l c)) (m - a) a m
  a≤s∧s≤mid∧s≤m∧m≤n - s∧mid≤n - s∧n - s≤b:=by
 dsimp only
 split
 ·have:=bs_range (fun c=>!lt (gd l ((a+b) / 2+m - 1 - c)) (gd l c)) ((a+b) / 2 - ((a+b) / 2+m - b)) ((a+b) / 2+m - b) ((a+b) / 2) (by omega)
  omega
 ·have:=bs_range (fun c=>!lt (gd l ((a+b) / 2+m - 1 - c)) (gd l c)) (m - a) a m (by omega)
  omega
theorem sub_sym (lt:α→α→Bool):∀ (f a m b:Nat) (l:List α),a<m→m<b→b≤l.length→Kin l (symF lt f a m b l)
 | 0,_,_,_,l,_,_,_=>Kin.refl l
 |f+1,a,m,b,l,h1,h2,h3=>by
  simp only [symF]
  split
  ·have:=bs_range (fun h=>lt (gd l h) (gd l a)) (b - m) m b (by omega)
   exact sub_up _ _ _ (by omega)
  ·split
   ·exact sub_dn _ _ _ (by omega)
   ·have hs:=sym_s lt l a m b h1 h2
    dsimp only at hs
    generalize (if (a+b) / 2<m then _ else _)=s at *
    obtain⟨k1,k2,k3,k4,k5,k6⟩:=hs
    have g1:Kin l (if s<m∧m<(a+b) / 2+m - s then rotS s m ((a+b) / 2+m - s) l else l):=by
     split
     ·exact sub_rot _ _ _ _ _ (by omega) (by omega)
     ·exact Kin.refl l
    generalize (if s<m∧m<(a+b) / 2+m - s then rotS s m ((a+b) / 2+m - s) l else l)=l1 at *
    have g2:Kin l1 (if a<s∧s<(a+b) / 2 then symF lt f a s ((a+b) / 2) l1 else l1):=by
     split
     ·exact sub_sym lt f _ _ _ _ (by omega) (by omega) (by rw [g1.1];omega)
     ·exact Kin.refl l1
    generalize (if a<s∧s<(a+b) / 2 then symF lt f a s ((a+b) / 2) l1 else l1)=l2 at *
    refine g1.trans (g2.trans ?_)
    split
    ·exact sub_sym lt f _ _ _ _ (by omega) (by omega) (by rw [g2.1,g1.1];omega)
    ·exact Kin.refl l2
def blk (lt:α→α→Bool) (n:Nat):Nat→Nat→List α→List α
 | 0,a,l=>insS lt a n l
 |f+1,a,l=>if a+20≤n then blk lt n f (a+20) (insS lt a (a+20) l) else insS lt a n l
def mrg (lt:α→α→Bool) (n s:Nat):Nat→Nat→List α→List α
 | 0,a,l=>if a+s<n then symF lt n a (a+s) n l else l
 |f+1,a,l=>if a+2*s≤n then mrg lt n s f (a+2*s) (symF lt n a (a+s) (a+2*s) l) else if a+s<n then symF lt n a (a+s) n l else l
def mrgs (lt:α→α→Bool) (n:Nat):Nat→Nat→List α→List α
 | 0,_,l=>l
 |f+1,s,l=>if s<n then mrgs lt n f (2*s) (mrg lt n s n 0 l) else l
def stableS (lt:α→α→Bool) (l:List α):List α:=mrgs lt l.length l.length 20 (blk lt l.length l.length 0 l)
theorem kin_blk (lt:α→α→Bool) (n:Nat):∀ (f a:Nat) (l:List α),a+1≤n∨a≤n→n≤l.length→Kin l (blk lt n f a l)
 | 0,a,l,h,h'=>by
  simp only [blk,insS]
  rcases Nat.lt_or_ge n (a+1) with h2|h2
  ·rw [show n - (a+1)=0 by omega];exact Kin.refl l
  ·exact sub_ins lt a _ _ _ (by omega)
 |f+1,a,l,h,h'=>by
  simp only [blk]
  split
  ·have h1:Kin l (insS lt a (a+20) l):=sub_ins lt a _ _ _ (by omega)
   exact h1.trans (kin_blk lt n f (a+20) _ (by omega) (by rw [h1.1];omega))
  ·simp only [insS]
   rcases Nat.lt_or_ge n (a+1) with h2|h2
   ·rw [show n - (a+1)=0 by omega];exact Kin.refl l
   ·exact sub_ins lt a _ _ _ (by omega)
theorem kin_mrg (lt:α→α→Bool) (n s:Nat) (hs:0<s):∀ (f a:Nat) (l:List α),n≤l.length→Kin l (mrg lt n s f a l)
 | 0,a,l,h=>by
  simp only [mrg]
  split
  ·exact sub_sym lt _ _ _ _ _ (by omega) (by omega) (by omega)
  ·exact Kin.refl l
 |f+1,a,l,h=>by
  simp only [mrg]
  split
  ·have h1:Kin l (symF lt n a (a+s) (a+2*s) l):=sub_sym lt _ _ _ _ _ (by omega) (by omega) (by omega)
   exact h1.trans (kin_mrg lt n s hs f _ _ (by rw [h1.1];omega))
  ·split
   ·exact sub_sym lt _ _ _ _ _ (by omega) (by omega) (by omega)
   ·exact Kin.refl l
theorem kin_mrgs (lt:α→α→Bool) (n:Nat):∀ (f s:Nat) (l:List α),0<s→n≤l.length→Kin l (mrgs lt n f s l)
 | 0,_,l,_,_=>Kin.refl l
 |f+1,s,l,hs,h=>by
  simp only [mrgs]
  split
  ·have h1:Kin l (mrg lt n s n 0 l):=kin_mrg lt n s hs n 0 l h
   exact h1.trans (kin_mrgs lt n f (2*s) _ (by omega) (by rw [h1.1];omega))
  ·exact Kin.refl l
theorem kin_stable (lt:α→α→Bool) (l:List α):Kin l (stableS lt l):=by
 have h1:Kin l (blk lt l.length l.length 0 l):=kin_blk lt _ _ _ l (by omega) (Nat.le_refl _)
 exact h1.trans (kin_mrgs lt _ _ _ _ (by omega) (by rw [h1.1];omega))
end
end Go.Proofs.YtlenbcmgjancmaaGreatDoor
