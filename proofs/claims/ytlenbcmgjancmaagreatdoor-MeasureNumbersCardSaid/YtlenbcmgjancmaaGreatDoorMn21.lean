import Derived.Test.YtlenbcmgjancmaaGreatDoorMn20
import Derived.Test.YtlenbcmgjancmaaGreatDoorMn18
import Derived.Deep.DeepCutAuto
import Derived.Deep.RegionHeld3
set_option linter.unusedVariables false
set_option linter.unusedSimpArgs false
namespace Go.Proofs.YtlenbcmgjancmaaGreatDoor
abbrev nd0:ND:=⟨0,ByteArray.empty,ByteArray.empty,[],default,default,0,0,0,0,0,0,0,0,ByteArray.empty,0,0,0,0,0,[],0,0,0,0,0⟩
def ndF (ns:List ND) (k:Int):ND:=(ns[k.toNat]?).getD nd0
theorem ndF_eq {ns:List ND} {i:Nat} {x:ND} (h:ns[i]?=some x):ndF ns (i:Int)=x:=by unfold ndF;rw [Int.toNat_natCast,h];rfl
abbrev FN:=Int→Int→Int→Int
def wishS (it:Itm) (v:Int):Int:=intoS (if it.k=1 then it.n else v) it
def lwS (ns:List ND) (f:FN) (k:Int):Int:=wishS (ndF ns k).wd (f k 0 0)
def mwS (ns:List ND) (f:FN) (k:Int):Int:=wishS (ndF ns k).wd (f k 1 0)
def highS (ns:List ND) (f:FN) (k w:Int):Int:=wishS (ndF ns k).ht (f k 2 (sideS w))
def acrossW (ns:List ND) (f:FN) (how iw k:Int):Int :=
 if (ndF ns k).wd.k=0∧how ≠ 5 then mwS ns f k else if (ndF ns k).wd.k=1 then (ndF ns k).wd.n else if (ndF ns k).wd.k=2 then (ndF ns k).wd.n*iw / (ndF ns k).wd.d else iw
def acrossM (ns:List ND) (f:FN) (how iw k:Int):Int:=min (intoS (acrossW ns f how iw k) (ndF ns k).wd) iw
def autoI (it:Itm):Itm:=if it.k=2∨it.k=3 then ⟨0,0,0,it.mn,it.mx⟩ else it
def alongI (ns:List ND) (f:FN) (k:Int):Itm :=
 if (ndF ns k).wd.k=0 then ⟨1,mwS ns f k,0,min (lwS ns f k) (mwS ns f k),(ndF ns k).wd.mx⟩ else (ndF ns k).wd
noncomputable def alongS (ns:List ND) (f:FN) (x:ND) (iw:Int):List Int:=sizesS (x.kids.map (alongI ns f)) iw x.gap
def tallRow (hi:Int→Int→Int):List Int→List Int→Int→Int
 |w :: ws,k :: ks,m=>tallRow hi ws ks (max m (hi k w))
 |_,_,m=>m
def placeI (ns:List ND) (k:Int):Spn:=⟨max (ndF ns k).x0 0 - 1,max (ndF ns k).x1 0 - 1,(ndF ns k).x2,(ndF ns k).x3⟩
def placesM (ns:List ND) (x:ND):List Spn:=gflow (x.kids.map (placeI ns)) x.cols.length
noncomputable def tracksM (ns:List ND) (x:ND) (cols:List Itm) (h:Int→Int) (iw:Int):List Int :=
 tracksG cols (List.zipWith (fun (s:Spn) k=>(⟨s.c,s.cs,h k⟩:Ned)) (placesM ns x) x.kids) iw x.gap
def manyS:List Spn→Int→Int
 | [],m=>m
 |s :: l,m=>manyS l (min (max m (s.r+s.rs)) 4096)
noncomputable def rowsM (ns:List ND) (f:FN) (x:ND) (iw:Int):List Int :=
 tracksG (List.replicate (manyS (placesM ns x) 0).toNat itm0)
  (List.zipWith (fun (s:Spn) (q:Int × Rct)=>(⟨s.r,s.rs,highS ns f q.1 q.2.w⟩:Ned)) (placesM ns x) (x.kids.zip (rectsG (tracksM ns x x.cols (mwS ns f) iw) (List.replicate (manyS (placesM ns x) 0).toNat 1) x.gap (placesM ns x)))) 4096 x.gap
def blankB (b:UInt8):Bool:=b == 32 || b == 9 || b == 10 || b == 13
def wordsF:List UInt8→Bool→Nat→Nat
 | [],_,n=>n
 |b :: l,was,n=>wordsF l (!blankB b) (if blankB b=false∧was=false then n+1 else n)
structure TabF where
 ls:ND→Int
 ms:ND→Int
 hs:ND→Int→Int
def kid0 (x:ND) (h:Int→Int):Int :=
 match x.kids with
 | []=>0
 |k :: _=>h k
noncomputable def leastW (T:TabF) (ns:List ND) (f:FN) (x:ND):Int :=
 if x.kd=1 then leastS x.md (flowS x.tx.data.toList)
 else if x.kd=2 then sumS (x.kids.map (lwS ns f)) x.gap
 else if x.kd=3∨x.kd=5 then greatS (x.kids.map (lwS ns f)) 0
 else if x.kd=4 then sumS (tracksM ns x (x.cols.map autoI) (lwS ns f) 4096) x.gap
 else if x.kd=6 then 1+barS x
 else if x.kd=8 then T.ls x
 else 1
noncomputable def mostW (T:TabF) (ns:List ND) (f:FN) (x:ND):Int :=
 if x.kd=1 then leastS 2 (flowS x.tx.data.toList)
 else if x.kd=2 then sumS (x.kids.map (mwS ns f)) x.gap
 else if x.kd=3∨x.kd=5 then greatS (x.kids.map (mwS ns f)) 0
 else if x.kd=4 then sumS (tracksM ns x (x.cols.map autoI) (mwS ns f) 4096) x.gap
 else if x.kd=6 then kid0 x (fun k=>f k 1 0)+barS x
 else if x.kd=8 then T.ms x
 else if x.kd=10 then max 1 (wordsF x.tx.data.toList false 0:Nat)
 else if x.kd=11 then 1
 else 10
noncomputable def tallW (T:TabF) (ns:List ND) (f:FN) (x:ND) (iw:Int):Int :=
 if x.kd=1 then tallS x.md iw.toNat x.tx
 else if x.kd=2 then tallRow (highS ns f) (alongS ns f x iw) x.kids 0
 else if x.kd=3 then sumS (x.kids.map fun k=>highS ns f k (acrossM ns f x.cr iw k)) x.gap
 else if x.kd=5 then greatS (x.kids.map fun k=>highS ns f k (acrossM ns f x.al iw k)) 0
 else if x.kd=4 then sumS (rowsM ns f x iw) x.gap
 else if x.kd=6 then kid0 x (fun k=>f k 2 (sideS (max (max (f k 0 0) (iw - barS x)) 0)))
 else if x.kd=8 then T.hs x iw
 else if x.kd=10 then 4
 else 1
noncomputable def workS (T:TabF) (ns:List ND) (f:FN) (n y w:Int):Int :=
 if y=0 then sideS (leastW T ns f (ndF ns n)+fxS (ndF ns n))
 else if y=1 then sideS (mostW T ns f (ndF ns n)+fxS (ndF ns n))
 else sideS (tallW T ns f (ndF ns n) (max 0 (w - fxS (ndF ns n)))+fyS (ndF ns n))
noncomputable def numF (T:TabF) (ns:List ND):Nat→FN
 | 0=>fun _ _ _=>0
 |q+1=>workS T ns (numF T ns q)
noncomputable def measF (T:TabF) (ns:List ND):FN:=numF T ns ns.length
section
variable {T:TabF} {ns:List ND} {f g:FN}
theorem lw_agree {k:Int} (h:f k=g k):lwS ns f k=lwS ns g k:=by unfold lwS;rw [h]
theorem mw_agree {k:Int} (h:f k=g k):mwS ns f k=mwS ns g k:=by unfold mwS;rw [h]
theorem high_agree {k:Int} (h:f k=g k):highS ns f k=highS ns g k:=by funext w;unfold highS;rw [h]
theorem across_agree {k:Int} (h:f k=g k) (how iw:Int):acrossM ns f how iw k=acrossM ns g how iw k:=by unfold acrossM acrossW;rw [mw_agree h]
theorem along_agree {k:Int} (h:f k=g k):alongI ns f k=alongI ns g k:=by unfold alongI;rw [mw_agree h,lw_agree h]
theorem tallRow_agree {hi hj:Int→Int→Int}:∀ (ws ks:List Int) (m:Int),(∀ k ∈ ks,hi k=hj k)→tallRow hi ws ks m=tallRow hj ws ks m
 | [],_,_,_=>by simp [tallRow]
 |_ :: _,[],_,_=>by simp [tallRow]
 |w :: ws,k :: ks,m,h=>by
  simp only [tallRow]
  rw [h k (by simp),tallRow_agree ws ks _ (fun z hz=>h z (by simp [hz]))]
theorem zip_agree {α β γ:Type} {u v:α→β→γ}:∀ (l:List α) (m:List β),(∀ a,∀ b ∈ m,u a b=v a b)→List.zipWith u l m=List.zipWith v l m
 | [],_,_=>by simp
 |_ :: _,[],_=>by simp
 |a :: l,b :: m,h=>by
  simp only [List.zipWith_cons_cons]
  rw [h a b (by simp),zip_agree l m (fun a z hz=>h a z (by simp [hz]))]
theorem tracks_agree {x:ND} {cols:List Itm} {h h':Int→Int} {iw:Int} (e:∀ k ∈ x.kids,h k=h' k):tracksM ns x cols h iw=tracksM ns x cols h' iw:=by
 unfold tracksM
 rw [zip_agree _ _ (fun (s:Spn) k hk=>by rw [e k hk])]
theorem rows_agree {x:ND} {iw:Int} (e:∀ k ∈ x.kids,f k=g k):rowsM ns f x iw=rowsM ns g x iw:=by
 unfold rowsM
 rw [tracks_agree (h:=mwS ns f) (h':=mwS ns g) (fun k hk=>mw_agree (e k hk))]
 rw [zip_agree _ _ (fun (s:Spn) (q:Int × Rct) hq=>by rw [high_agree (e q.1 (List.of_mem_zip hq).1)])]
theorem kid0_agree {x:ND} {h h':Int→Int} (e:∀ k ∈ x.kids,h k=h' k):kid0 x h=kid0 x h':=by
 unfold kid0
 split
 ·rfl
 ·rename_i k l hk
  exact e k (by rw [hk];simp)
theorem least_agree {x:ND} (e:∀ k ∈ x.kids,f k=g k):leastW T ns f x=leastW T ns g x:=by
 unfold leastW
 rw [List.map_congr_left (fun k hk=>lw_agree (ns:=ns) (e k hk)),tracks_agree (fun k hk=>lw_agree (ns:=ns) (e k hk))]
theorem most_agree {x:ND} (e:∀ k ∈ x.kids,f k=g k):mostW T ns f x=mostW T ns g x:=by
 unfold mostW
 rw [List.map_congr_left (fun k hk=>mw_agree (ns:=ns) (e k hk)),tracks_agree (fun k hk=>mw_agree (ns:=ns) (e k hk)),kid0_agree (fun k hk=>by rw [e k hk])]
theorem tall_agree {x:ND} {iw:Int} (e:∀ k ∈ x.kids,f k=g k):tallW T ns f x iw=tallW T ns g x iw:=by
 unfold tallW
 have h1:alongS ns f x iw=alongS ns g x iw:=by
  unfold alongS
  rw [List.map_congr_left (fun k hk=>along_agree (ns:=ns) (e k hk))]
 have h2:∀ how,(x.kids.map fun k=>highS ns f k (acrossM ns f how iw k))=(x.kids.map fun k=>highS ns g k (acrossM ns g how iw k)):=fun how=>
  List.map_congr_left fun k hk=>by rw [high_agree (e k hk),across_agree (e k hk)]
 rw [h1,h2,h2,rows_agree e,tallRow_agree _ _ _ (fun k hk=>high_agree (ns:=ns) (e k hk)),kid0_agree (fun k hk=>by rw [e k hk])]
theorem work_agree {n:Int} (e:∀ k ∈ (ndF ns n).kids,f k=g k):workS T ns f n=workS T ns g n:=by
 funext y w
 unfold workS
 rw [least_agree e,most_agree e,tall_agree e]
def KidsOk (ns:List ND):Prop:=∀ (i:Nat) x,ns[i]?=some x→∀ k ∈ x.kids,(i:Int)<k∧k<ns.length
theorem num_same (hk:KidsOk ns):∀ (q q' i:Nat),i<ns.length→ns.length - i≤q→ns.length - i≤q'→numF T ns q (i:Int)=numF T ns q' (i:Int)
 | 0,_,_,h,h1,_=>by omega
 |_+1,0,_,h,_,h2=>by omega
 |q+1,q'+1,i,h,h1,h2=>by
  have hx:ns[i]?=some ns[i]:=List.getElem?_eq_getElem h
  simp only [numF]
  refine work_agree fun k hkk=>?_
  rw [ndF_eq hx] at hkk
  have:=hk i _ hx k hkk
  obtain⟨j,rfl⟩:∃ j:Nat,k=j:=⟨k.toNat,by omega⟩
  exact num_same hk q q' j (by omega) (by omega) (by omega)
theorem meas_work (hk:KidsOk ns) {i:Nat} (hi:i<ns.length):measF T ns (i:Int)=workS T ns (measF T ns) (i:Int):=by
 have h:measF T ns (i:Int)=numF T ns (ns.length+1) (i:Int):=num_same hk _ _ i hi (by omega) (by omega)
 rw [h]
 rfl
theorem work_range (n y w:Int):0≤workS T ns f n y w∧workS T ns f n y w≤4096:=by
 unfold workS
 split
 ·exact sideS_range _
 ·split<;>exact sideS_range _
theorem num_range:∀ (q:Nat) (n y w:Int),0≤numF T ns q n y w∧numF T ns q n y w≤4096
 | 0,_,_,_=>⟨Int.le_refl 0,by simp [numF]⟩
 |_+1,n,y,w=>work_range n y w
theorem meas_range (n y w:Int):0≤measF T ns n y w∧measF T ns n y w≤4096:=num_range _ n y w
end
end Go.Proofs.YtlenbcmgjancmaaGreatDoor
namespace Go.Proofs.YtlenbcmgjancmaaGreatDoor
def preF (ns:List ND):Nat→Int→List Int
 | 0,_=>[]
 |q+1,n=>n :: ((ndF ns n).kids).flatMap (preF ns q)
def preL (ns:List ND):List Int:=preF ns ns.length 0
section
variable {ns:List ND}
theorem ndF_at {n:Int} (h0:0≤n) (h:n<ns.length):ns[n.toNat]?=some (ndF ns n):=by
 unfold ndF
 rw [List.getElem?_eq_getElem (by omega)]
 rfl
theorem TreeG.kid (h:TreeG ns) {n k:Int} (h0:0≤n) (hn:n<ns.length) (hk:k ∈ (ndF ns n).kids):n<k∧k<ns.length:=by
 have:=(h.node _ _ (ndF_at h0 hn)).ok.kids k hk
 omega
theorem pre_range (h:TreeG ns):∀ (q:Nat) (n j:Int),0≤n→n<ns.length→j ∈ preF ns q n→n≤j∧j<ns.length
 | 0,_,_,_,_,hj=>by simp [preF] at hj
 |q+1,n,j,h0,hn,hj=>by
  simp only [preF] at hj
  rcases List.mem_cons.1 hj with rfl|hj
  ·exact⟨Int.le_refl _,hn⟩
  ·obtain⟨k,hk,hjk⟩:=List.mem_flatMap.1 hj
   have h1:=h.kid h0 hn hk
   have:=pre_range h q k j (by omega) h1.2 hjk
   omega
theorem par_lt (h:TreeG ns) {a b:Nat} {x y:ND} (hx:ns[a]?=some x) (hy:ns[b]?=some y) (hab:a<b) {j:Int} (h1:j ∈ x.kids) (h2:j ∈ y.kids):False:=by
 have hs:kidsOf (ns.take (b+1)) ++ kidsOf (ns.drop (b+1))=kidsOf ns:=by
  unfold kidsOf
  rw [← List.flatMap_append,List.take_append_drop]
 have hnd:=h.nd
 rw [← hs,kids_step hy,List.nodup_append,List.nodup_append] at hnd
 exact hnd.1.2.2 _ (kid_in hx hab h1) _ h2 rfl
theorem par_uniq (h:TreeG ns) {a b j:Int} (ha:0≤a∧a<ns.length) (hb:0≤b∧b<ns.length) (h1:j ∈ (ndF ns a).kids) (h2:j ∈ (ndF ns b).kids):a=b:=by
 have hx:=ndF_at ha.1 ha.2
 have hy:=ndF_at hb.1 hb.2
 by_cases e:a=b
 ·exact e
 ·exfalso
  rcases Int.lt_or_gt_of_ne e with e|e
  ·exact par_lt h hx hy (by omega) h1 h2
  ·exact par_lt h hy hx (by omega) h2 h1
theorem kids_nd (h:TreeG ns) {a:Int} (ha:0≤a∧a<ns.length):(ndF ns a).kids.Nodup:=by
 have:=(List.pairwise_flatMap.1 h.nd).1 (ndF ns a) (List.mem_iff_getElem?.2 ⟨_,ndF_at ha.1 ha.2⟩)
 exact this
theorem sum_one (j:Int):∀ l:List Int,(l.map fun k=>if k=j then 1 else 0).sum=l.count j
 | []=>rfl
 |k :: l=>by
  rw [List.map_cons,List.sum_cons,sum_one j l,List.count_cons]
  by_cases e:k=j<;>simp [e,Nat.add_comm]
theorem sum_nil (l:List Int):(l.map fun _=>0).sum=0:=by
 induction l with
 |nil=>rfl
 |cons a l ih=>rw [List.map_cons,List.sum_cons,ih]
theorem no_pre (h:TreeG ns) {q:Nat} {n j:Int} (h0:0≤n) (hn:n<ns.length) (hj:j<n):(preF ns q n).count j=0 :=
 List.count_eq_zero.2 fun e=>by have:=pre_range h q n j h0 hn e;omega
theorem fl_count (f:Int→List Int) (x:Int) (l:List Int):(l.flatMap f).count x=(l.map fun k=>(f k).count x).sum:=by
 rw [List.count_flatMap];rfl
theorem pre_par (h:TreeG ns) {p j:Int} (hp:0≤p∧p<ns.length) (hj:j ∈ (ndF ns p).kids):∀ (q:Nat) (n:Int),0≤n→n<ns.length→ns.length - n≤(q:Int)→n ≠ j→(preF ns q n).count j=(preF ns q n).count p
 | 0,n,_,h1,h2,_=>by omega
 |q+1,n,h0,h1,h2,hnj=>by
  have hpj:=h.kid hp.1 hp.2 hj
  simp only [preF]
  rw [List.count_cons,List.count_cons,fl_count,fl_count]
  have e1:(n == j)=false:=by simpa using hnj
  rw [e1]
  by_cases hnp:n=p
  ·subst hnp
   have h4:((ndF ns n).kids.map fun k=>(preF ns q k).count n)=(ndF ns n).kids.map fun _=>0:=List.map_congr_left fun k hk=>by
    have:=h.kid hp.1 hp.2 hk
    exact no_pre h (by omega) this.2 this.1
   have h5:((ndF ns n).kids.map fun k=>(preF ns q k).count j)=(ndF ns n).kids.map fun k=>if k=j then 1 else 0:=List.map_congr_left fun k hk=>by
    have hkn:=h.kid hp.1 hp.2 hk
    by_cases e:k=j
    ·subst e
     rw [if_pos rfl]
     obtain⟨q',rfl⟩:∃ q',q=q'+1:=⟨q - 1,by omega⟩
     simp only [preF]
     rw [List.count_cons,fl_count]
     have:((ndF ns k).kids.map fun z=>(preF ns q' z).count k)=(ndF ns k).kids.map fun _=>0:=List.map_congr_left fun z hz=>by
      have:=h.kid (by omega) hkn.2 hz
      exact no_pre h (by omega) this.2 this.1
     rw [this,sum_nil]
     simp
    ·rw [if_neg e,pre_par h hp hj q k (by omega) hkn.2 (by omega) e]
     exact no_pre h (by omega) hkn.2 hkn.1
   rw [h4,h5,sum_nil,sum_one,(kids_nd h hp).count,if_pos hj]
   simp
  ·have e2:(n == p)=false:=by simpa using hnp
   rw [e2,List.map_congr_left fun k hk=>by
    have hkn:=h.kid h0 h1 hk
    exact pre_par h hp hj q k (by omega) hkn.2 (by omega) fun e=>hnp (par_uniq h ⟨h0,h1⟩ hp hk (by rw [e];exact hj))]
theorem pre_once (h:TreeG ns):∀ (m:Nat) (j:Nat),j≤m→j<ns.length→(preL ns).count (j:Int)=1:=by
 have hz:(preL ns).count (0:Int)=1:=by
  have hl:=h.len
  unfold preL
  obtain⟨q,hq⟩:∃ q,ns.length=q+1:=⟨ns.length - 1,by omega⟩
  rw [hq]
  simp only [preF]
  rw [List.count_cons,fl_count]
  have:((ndF ns 0).kids.map fun z=>(preF ns q z).count 0)=(ndF ns 0).kids.map fun _=>0:=List.map_congr_left fun z hz=>by
   have:=h.kid (by omega) (by omega) hz
   exact no_pre h (by omega) this.2 this.1
  rw [this,sum_nil]
  simp
 intro m
 induction m with
 |zero=>
  intro j hj hl
  obtain rfl:j=0:=by omega
  exact hz
 |succ m ih=>
  intro j hj hl
  by_cases h0:j=0
  ·subst h0;exact hz
  ·obtain⟨x,hx,hk⟩:=List.mem_flatMap.1 (h.cov j (by omega) hl)
   obtain⟨i,hi⟩:=List.mem_iff_getElem?.1 hx
   have hil:=(List.getElem?_eq_some_iff.1 hi).1
   have hij:=(h.node i x hi).ok.kids _ hk
   have:=pre_par h (p:=i) (j:=j) ⟨by omega,by omega⟩ (by rw [ndF_eq hi];exact hk) ns.length 0 (by omega) (by omega) (by omega) (by omega)
   unfold preL at ih ⊢
   rw [this]
   exact ih i (by omega) hil
def upTo (N:Nat):List Int:=(List.range N).map fun i:Nat=>(i:Int)
theorem upTo_mem {N:Nat} {a:Int}:a ∈ upTo N↔0≤a∧a<N:=by
 unfold upTo
 simp only [List.mem_map,List.mem_range]
 constructor
 ·rintro⟨i,hi,rfl⟩;omega
 ·rintro⟨h1,h2⟩;exact⟨a.toNat,by omega,by omega⟩
theorem upTo_nd (N:Nat):(upTo N).Nodup:=by
 unfold upTo
 exact List.pairwise_map.2 (List.nodup_range.imp fun h e=>h (by omega))
theorem pre_perm (h:TreeG ns):List.Perm (preL ns) (upTo ns.length):=by
 rw [List.perm_iff_count]
 intro a
 rw [(upTo_nd _).count]
 split
 ·rename_i ha
  rw [upTo_mem] at ha
  have:=pre_once h _ a.toNat (Nat.le_refl _) (by omega)
  rwa [show ((a.toNat:Nat):Int)=a by omega] at this
 ·rename_i ha
  refine List.count_eq_zero.2 fun e=>ha (upTo_mem.2 ?_)
  have hl:=h.len
  exact pre_range h _ 0 a (by omega) (by omega) e
theorem pre_len (h:TreeG ns):(preL ns).length=ns.length:=by rw [(pre_perm h).length_eq];simp [upTo]
theorem pre_nd (h:TreeG ns):(preL ns).Nodup:=(pre_perm h).nodup_iff.2 (upTo_nd _)
theorem pre_mem (h:TreeG ns) {a:Int}:a ∈ preL ns↔0≤a∧a<ns.length:=by rw [(pre_perm h).mem_iff,upTo_mem]
theorem pre_behind (h:TreeG ns):∀ (q:Nat) (r o k:Int),0≤r→r<ns.length→ns.length - r≤(q:Int)→o ∈ preF ns q r→k ∈ (ndF ns o).kids→List.Sublist [o,k] (preF ns q r)
 | 0,r,o,k,_,h1,h2,_,_=>by omega
 |q+1,r,o,k,h0,h1,h2,ho,hk=>by
  simp only [preF] at ho ⊢
  have self:∀ z ∈ (ndF ns r).kids,List.Sublist (preF ns q z) ((ndF ns r).kids.flatMap (preF ns q)):=fun z hz=>by
   obtain⟨a,b,e⟩:=List.append_of_mem hz
   rw [e,List.flatMap_append,List.flatMap_cons]
   exact(List.sublist_append_left _ _).trans (List.sublist_append_right _ _)
  rcases List.mem_cons.1 ho with rfl|ho
  ·have hkr:=h.kid h0 h1 hk
   refine List.Sublist.cons_cons _ (List.Sublist.trans ?_ (self k hk))
   obtain⟨q',rfl⟩:∃ q',q=q'+1:=⟨q - 1,by omega⟩
   simp only [preF]
   exact List.Sublist.cons_cons _ (List.nil_sublist _)
  ·obtain⟨z,hz,hoz⟩:=List.mem_flatMap.1 ho
   have hzr:=h.kid h0 h1 hz
   exact((pre_behind h q z o k (by omega) hzr.2 (by omega) hoz hk).trans (self z hz)).cons _
end
end Go.Proofs.YtlenbcmgjancmaaGreatDoor
namespace Go.Proofs.YtlenbcmgjancmaaGreatDoor
def renN (pl:Int→Int) (x:ND):ND:={ x with kids:=x.kids.map pl }
def renS (ns:List ND) (pl:Int→Int):List ND:=(preL ns).map fun o=>renN pl (ndF ns o)
def PlOk (ns:List ND) (pl:Int→Int):Prop:=∀ (i:Nat) o,(preL ns)[i]?=some o→pl o=i
section
variable {ns:List ND} {pl:Int→Int}
theorem ren_len (h:TreeG ns):(renS ns pl).length=ns.length:=by unfold renS;rw [List.length_map,pre_len h]
theorem pl_map (h:TreeG ns) (hp:PlOk ns pl):(preL ns).map pl=upTo ns.length:=by
 refine List.ext_getElem? fun i=>?_
 rw [List.getElem?_map]
 unfold upTo
 rw [List.getElem?_map]
 by_cases hi:i<ns.length
 ·have hl:=pre_len h
  rw [List.getElem?_range hi,List.getElem?_eq_getElem (by omega)]
  simp only [Option.map_some]
  rw [hp i _ (List.getElem?_eq_getElem (by omega))]
 ·rw [List.getElem?_eq_none (by rw [pre_len h];omega),List.getElem?_eq_none (by simpa using hi)]
  rfl
theorem pl_at (h:TreeG ns) (hp:PlOk ns pl) {o:Int} (ho:0≤o∧o<ns.length):∃ i:Nat,i<ns.length∧(preL ns)[i]?=some o∧pl o=i:=by
 obtain⟨i,hi⟩:=List.mem_iff_getElem?.1 ((pre_mem h).2 ho)
 have:=(List.getElem?_eq_some_iff.1 hi).1
 rw [pre_len h] at this
 exact⟨i,this,hi,hp i o hi⟩
theorem pl_inj (h:TreeG ns) (hp:PlOk ns pl) {a b:Int} (ha:0≤a∧a<ns.length) (hb:0≤b∧b<ns.length) (e:pl a=pl b):a=b:=by
 obtain⟨i,_,h1,h2⟩:=pl_at h hp ha
 obtain⟨j,_,h3,h4⟩:=pl_at h hp hb
 obtain rfl:i=j:=by omega
 exact Option.some.inj (h1.symm.trans h3)
theorem pl_behind (h:TreeG ns) (hp:PlOk ns pl) {o k:Int} (ho:0≤o∧o<ns.length) (hk:k ∈ (ndF ns o).kids):pl o<pl k:=by
 have hl:=h.len
 have hs:=pre_behind h ns.length 0 o k (by omega) (by omega) (by omega) ((pre_mem h).2 ho) hk
 have hm:List.Sublist [pl o,pl k] (upTo ns.length):=by
  rw [← pl_map h hp]
  exact hs.map pl
 have hw:(upTo ns.length).Pairwise (· < ·):=by
  unfold upTo
  exact List.pairwise_map.2 (List.pairwise_lt_range.imp fun h=>by omega)
 have:=hw.sublist hm
 simpa using this
theorem ren_at (h:TreeG ns) {i:Nat} {o:Int} (hi:(preL ns)[i]?=some o):(renS ns pl)[i]?=some (renN pl (ndF ns o)):=by
 unfold renS
 rw [List.getElem?_map,hi]
 rfl
theorem ren_ndF (h:TreeG ns) (hp:PlOk ns pl) {o:Int} (ho:0≤o∧o<ns.length):ndF (renS ns pl) (pl o)=renN pl (ndF ns o):=by
 obtain⟨i,_,h1,h2⟩:=pl_at h hp ho
 rw [h2]
 exact ndF_eq (ren_at h h1)
theorem ns_map (ns:List ND):(upTo ns.length).map (ndF ns)=ns:=by
 refine List.ext_getElem? fun i=>?_
 unfold upTo
 rw [List.map_map,List.getElem?_map]
 by_cases hi:i<ns.length
 ·rw [List.getElem?_range hi,List.getElem?_eq_getElem hi]
  simp only [Option.map_some,Function.comp]
  rw [ndF_eq (List.getElem?_eq_getElem hi)]
 ·rw [List.getElem?_eq_none (by simpa using hi),List.getElem?_eq_none (by omega)]
  rfl
theorem kids_range (h:TreeG ns) {k:Int} (hk:k ∈ kidsOf ns):0≤k∧k<ns.length:=by
 obtain⟨x,hx,hk⟩:=List.mem_flatMap.1 hk
 obtain⟨i,hi⟩:=List.mem_iff_getElem?.1 hx
 have:=(h.node i x hi).ok.kids _ hk
 omega
theorem ren_kids (h:TreeG ns):List.Perm (kidsOf (renS ns pl)) ((kidsOf ns).map pl):=by
 have e1:kidsOf (renS ns pl)=(preL ns).flatMap fun o=>(ndF ns o).kids.map pl:=by
  unfold kidsOf renS
  rw [List.flatMap_map]
  rfl
 have e2:(kidsOf ns).map pl=(upTo ns.length).flatMap fun o=>(ndF ns o).kids.map pl:=by
  have:kidsOf ns=(upTo ns.length).flatMap fun o=>(ndF ns o).kids:=by
   conv=>lhs;rw [← ns_map ns]
   unfold kidsOf
   rw [List.flatMap_map]
  rw [this,List.map_flatMap]
 rw [e1,e2]
 exact(pre_perm h).flatMap_right _
theorem ren_ids (h:TreeG ns):List.Perm (idsOf (renS ns pl)) (idsOf ns):=by
 have e1:idsOf (renS ns pl)=(preL ns).flatMap fun o=>idOf (ndF ns o):=by
  unfold idsOf renS
  rw [List.flatMap_map]
  rfl
 have e2:idsOf ns=(upTo ns.length).flatMap fun o=>idOf (ndF ns o):=by
  conv=>lhs;rw [← ns_map ns]
  unfold idsOf
  rw [List.flatMap_map]
 rw [e1,e2]
 exact(pre_perm h).flatMap_right _
theorem nd_map {f:Int→Int}:∀ l:List Int,l.Nodup→(∀ a ∈ l,∀ b ∈ l,f a=f b→a=b)→(l.map f).Nodup
 | [],_,_=>by simp
 |x :: l,h,hf=>by
  obtain⟨a,b⟩:=List.nodup_cons.1 h
  rw [List.map_cons,List.nodup_cons]
  refine⟨fun e=>?_,nd_map l b fun u hu v hv=>hf u (by simp [hu]) v (by simp [hv])⟩
  obtain⟨y,hy,e⟩:=List.mem_map.1 e
  exact a (hf y (by simp [hy]) x (by simp) e ▸ hy)
theorem pre_zero (h:TreeG ns):(preL ns)[0]?=some 0:=by
 have hl:=h.len
 unfold preL
 obtain⟨q,hq⟩:∃ q,ns.length=q+1:=⟨ns.length - 1,by omega⟩
 rw [hq]
 rfl
theorem ren_good (h:TreeG ns) (hp:PlOk ns pl):TreeG (renS ns pl):=by
 have hl:=ren_len (pl:=pl) h
 have hpl:=pre_len h
 have hat:∀ (i:Nat) (x:ND),(renS ns pl)[i]?=some x→∃ o,(preL ns)[i]?=some o∧(0≤o∧o<ns.length)∧x=renN pl (ndF ns o):=by
  intro i x hx
  have hi:i<ns.length:=by have:=(List.getElem?_eq_some_iff.1 hx).1;omega
  have ho:(preL ns)[i]?=some (preL ns)[i]:=List.getElem?_eq_getElem (by omega)
  exact⟨_,ho,(pre_mem h).1 (List.getElem_mem _),Option.some.inj (hx.symm.trans (ren_at h ho))⟩
 refine⟨by rw [hl];exact h.len,fun i x hx=>?_,?_,fun n h0 hn=>?_,?_,?_⟩
 ·obtain⟨o,ho,hr,rfl⟩:=hat i x hx
  have hg:=h.node _ _ (ndF_at hr.1 hr.2)
  have hi:=hp i o ho
  refine⟨⟨hg.ok.k1,hg.ok.k11,fun k hk=>?_,?_,?_,hg.ok.items,hg.ok.fields,hg.ok.tx⟩,hg.idg,hg.clg⟩
  ·obtain⟨z,hz,rfl⟩:=List.mem_map.1 (show k ∈ (ndF ns o).kids.map pl from hk)
   have h1:=pl_behind h hp hr hz
   have h2:=h.kid hr.1 hr.2 hz
   obtain⟨j,hj,_,e⟩:=pl_at h hp (o:=z) ⟨by omega,h2.2⟩
   rw [hl]
   omega
  ·show ((ndF ns o).kids.map pl).length≤_
   rw [List.length_map,hl]
   exact hg.ok.kl
  ·show ¬ KBad (ndF ns o).kd ((ndF ns o).kids.map pl).length
   rw [List.length_map]
   exact hg.ok.kb
 ·rw [(ren_kids h).nodup_iff]
  exact nd_map _ h.nd fun a ha b hb e=>pl_inj h hp (kids_range h ha) (kids_range h hb) e
 ·rw [hl] at hn
  rw [(ren_kids h).mem_iff]
  have ho:(preL ns)[n]?=some (preL ns)[n]:=List.getElem?_eq_getElem (by omega)
  have hr:=(pre_mem h).1 (List.getElem_mem (show n<(preL ns).length by omega))
  have hne:(preL ns)[n] ≠ 0:=fun e=>by
   have h1:=hp n _ ho
   have h2:=hp 0 _ (pre_zero h)
   rw [e,h2] at h1
   omega
  have:=h.cov (preL ns)[n].toNat (by omega) (by omega)
  rw [show (((preL ns)[n].toNat:Nat):Int)=(preL ns)[n] by omega] at this
  exact List.mem_map.2 ⟨_,this,hp n _ ho⟩
 ·rw [(ren_ids h).nodup_iff]
  exact h.idn
 ·obtain⟨D,d0,d1,d2⟩:=h.dep
  refine⟨fun i=>D (((preL ns)[i]?).getD 0).toNat,?_,fun i x hx k hk=>?_,fun i hi=>?_⟩
  ·show D (((preL ns)[0]?).getD 0).toNat=0
   rw [pre_zero h]
   exact d0
  ·obtain⟨o,ho,hr,rfl⟩:=hat i x hx
   obtain⟨z,hz,rfl⟩:=List.mem_map.1 (show k ∈ (ndF ns o).kids.map pl from hk)
   have h2:=h.kid hr.1 hr.2 hz
   obtain⟨j,hj,hjz,e⟩:=pl_at h hp (o:=z) ⟨by omega,h2.2⟩
   show D (((preL ns)[(pl z).toNat]?).getD 0).toNat=D (((preL ns)[i]?).getD 0).toNat+1
   rw [e,Int.toNat_natCast,hjz,ho]
   exact d1 _ _ (ndF_at hr.1 hr.2) z hz
  ·rw [hl] at hi
   have ho:(preL ns)[i]?=some (preL ns)[i]:=List.getElem?_eq_getElem (by omega)
   have hr:=(pre_mem h).1 (List.getElem_mem (show i<(preL ns).length by omega))
   show D (((preL ns)[i]?).getD 0).toNat<64
   rw [ho]
   exact d2 _ (by show (preL ns)[i].toNat<_;omega)
end
def TRen (T:TabF):Prop:=∀ (pl:Int→Int) (x:ND),T.ls (renN pl x)=T.ls x∧T.ms (renN pl x)=T.ms x∧T.hs (renN pl x)=T.hs x
section
variable {T:TabF} {ns ms:List ND} {f g:FN} {pl:Int→Int} {x:ND}
def Alike (ns ms:List ND) (f g:FN) (pl:Int→Int) (k:Int):Prop:=f k=g (pl k)∧ndF ms (pl k)=renN pl (ndF ns k)
theorem lw_al {k:Int} (h:Alike ns ms f g pl k):lwS ms g (pl k)=lwS ns f k:=by unfold lwS;rw [h.1,h.2];rfl
theorem mw_al {k:Int} (h:Alike ns ms f g pl k):mwS ms g (pl k)=mwS ns f k:=by unfold mwS;rw [h.1,h.2];rfl
theorem high_al {k:Int} (h:Alike ns ms f g pl k):highS ms g (pl k)=highS ns f k:=by funext w;unfold highS;rw [h.1,h.2];rfl
theorem across_al {k:Int} (h:Alike ns ms f g pl k) (how iw:Int):acrossM ms g how iw (pl k)=acrossM ns f how iw k:=by unfold acrossM acrossW;rw [mw_al h,h.2];rfl
theorem along_al {k:Int} (h:Alike ns ms f g pl k):alongI ms g (pl k)=alongI ns f k:=by unfold alongI;rw [mw_al h,lw_al h,h.2];rfl
theorem place_al {k:Int} (h:Alike ns ms f g pl k):placeI ms (pl k)=placeI ns k:=by unfold placeI;rw [h.2];rfl
theorem map_al {β:Type} {u v:Int→β} {l:List Int} (h:∀ k ∈ l,v (pl k)=u k):(l.map pl).map v=l.map u:=by
 rw [List.map_map]
 exact List.map_congr_left h
theorem tallRow_al {hi hj:Int→Int→Int}:∀ (ws ks:List Int) (m:Int),(∀ k ∈ ks,hj (pl k)=hi k)→tallRow hj ws (ks.map pl) m=tallRow hi ws ks m
 | [],_,_,_=>by simp [tallRow]
 |_ :: _,[],_,_=>by simp [tallRow]
 |w :: ws,k :: ks,m,h=>by
  simp only [tallRow,List.map_cons]
  rw [h k (by simp),tallRow_al ws ks _ (fun z hz=>h z (by simp [hz]))]
theorem places_al (h:∀ k ∈ x.kids,Alike ns ms f g pl k):placesM ms (renN pl x)=placesM ns x:=by
 unfold placesM
 show gflow ((x.kids.map pl).map (placeI ms)) x.cols.length=_
 rw [map_al fun k hk=>place_al (h k hk)]
theorem tracks_al {cols:List Itm} {u v:Int→Int} {iw:Int} (h:∀ k ∈ x.kids,Alike ns ms f g pl k) (e:∀ k ∈ x.kids,v (pl k)=u k):tracksM ms (renN pl x) cols v iw=tracksM ns x cols u iw:=by
 unfold tracksM
 rw [places_al h]
 show tracksG cols (List.zipWith _ _ (x.kids.map pl)) iw x.gap=_
 rw [List.zipWith_map_right,zip_agree _ _ (fun (s:Spn) k hk=>by rw [e k hk])]
theorem rows_al {iw:Int} (h:∀ k ∈ x.kids,Alike ns ms f g pl k):rowsM ms g (renN pl x) iw=rowsM ns f x iw:=by
 unfold rowsM
 rw [places_al h,tracks_al (u:=mwS ns f) h fun k hk=>mw_al (h k hk)]
 show tracksG _ (List.zipWith _ _ ((x.kids.map pl).zip (rectsG (tracksM ns x x.cols (mwS ns f) iw) _ x.gap _))) 4096 x.gap=_
 rw [List.zip_map_left,List.zipWith_map_right,zip_agree _ _ (fun (s:Spn) (q:Int × Rct) hq=>by
  show (⟨s.r,s.rs,highS ms g (pl q.1) q.2.w⟩:Ned)=⟨s.r,s.rs,highS ns f q.1 q.2.w⟩
  rw [high_al (h q.1 (List.of_mem_zip hq).1)])]
theorem kid0_al {u v:Int→Int} (e:∀ k ∈ x.kids,v (pl k)=u k):kid0 (renN pl x) v=kid0 x u:=by
 unfold kid0
 show (match x.kids.map pl with|[]=>0|k :: _=>v k)=_
 cases hk:x.kids with
 |nil=>rfl
 |cons k l=>exact e k (by rw [hk];simp)
theorem least_al (hT:TRen T) (h:∀ k ∈ x.kids,Alike ns ms f g pl k):leastW T ms g (renN pl x)=leastW T ns f x:=by
 unfold leastW
 have e1:((renN pl x).kids.map (lwS ms g))=x.kids.map (lwS ns f):=map_al fun k hk=>lw_al (h k hk)
 rw [e1,(hT pl x).1,tracks_al (u:=lwS ns f) h fun k hk=>lw_al (h k hk)]
 rfl
theorem most_al (hT:TRen T) (h:∀ k ∈ x.kids,Alike ns ms f g pl k):mostW T ms g (renN pl x)=mostW T ns f x:=by
 unfold mostW
 have e1:((renN pl x).kids.map (mwS ms g))=x.kids.map (mwS ns f):=map_al fun k hk=>mw_al (h k hk)
 rw [e1,(hT pl x).2.1,tracks_al (u:=mwS ns f) h fun k hk=>mw_al (h k hk),kid0_al (u:=fun k=>f k 1 0) fun k hk=>by rw [(h k hk).1]]
 rfl
theorem tall_al (hT:TRen T) {iw:Int} (h:∀ k ∈ x.kids,Alike ns ms f g pl k):tallW T ms g (renN pl x) iw=tallW T ns f x iw:=by
 unfold tallW
 have h1:alongS ms g (renN pl x) iw=alongS ns f x iw:=by
  unfold alongS
  have:(renN pl x).kids.map (alongI ms g)=x.kids.map (alongI ns f):=map_al fun k hk=>along_al (h k hk)
  rw [this]
  rfl
 have h2:∀ how,((renN pl x).kids.map fun k=>highS ms g k (acrossM ms g how iw k))=(x.kids.map fun k=>highS ns f k (acrossM ns f how iw k)):=fun how=>
  map_al fun k hk=>by rw [high_al (h k hk),across_al (h k hk)]
 have h3:tallRow (highS ms g) (alongS ns f x iw) (renN pl x).kids 0=tallRow (highS ns f) (alongS ns f x iw) x.kids 0:=tallRow_al _ _ _ fun k hk=>high_al (h k hk)
 rw [h1,h2,h2,h3,(hT pl x).2.2,rows_al h,kid0_al (u:=fun k=>f k 2 (sideS (max (max (f k 0 0) (iw - barS (renN pl x))) 0))) fun k hk=>by rw [(h k hk).1]]
 rfl
theorem work_al (hT:TRen T) {o:Int} (hn:ndF ms (pl o)=renN pl (ndF ns o)) (h:∀ k ∈ (ndF ns o).kids,Alike ns ms f g pl k):workS T ms g (pl o)=workS T ns f o:=by
 funext y w
 unfold workS
 rw [hn,least_al hT h,most_al hT h,tall_al hT h]
 rfl
end
theorem TreeG.kidsOk {ns:List ND} (h:TreeG ns):KidsOk ns:=fun i x hx k hk=>(h.node i x hx).ok.kids k hk
theorem ren_meas {T:TabF} (hT:TRen T) {ns:List ND} (h:TreeG ns) {pl:Int→Int} (hp:PlOk ns pl):∀ (m:Nat) (o:Int),0≤o→o<ns.length→ns.length - o≤(m:Int)→measF T (renS ns pl) (pl o)=measF T ns o
 | 0,o,_,h1,h2=>by omega
 |m+1,o,h0,h1,h2=>by
  have hg:=ren_good h hp
  obtain⟨i,hi,hio,e⟩:=pl_at h hp ⟨h0,h1⟩
  have e1:measF T (renS ns pl) (pl o)=workS T (renS ns pl) (measF T (renS ns pl)) (pl o):=by
   rw [e]
   exact meas_work hg.kidsOk (by rw [ren_len h];exact hi)
  have e2:measF T ns o=workS T ns (measF T ns) o:=by
   have:=meas_work (T:=T) h.kidsOk (i:=o.toNat) (by omega)
   rwa [show ((o.toNat:Nat):Int)=o by omega] at this
  rw [e1,e2]
  refine work_al hT (ren_ndF h hp ⟨h0,h1⟩) fun k hk=>?_
  have hkr:=h.kid h0 h1 hk
  exact⟨(ren_meas hT h hp m k (by omega) hkr.2 (by omega)).symm,ren_ndF h hp ⟨by omega,hkr.2⟩⟩
end Go.Proofs.YtlenbcmgjancmaaGreatDoor
namespace Go.Proofs.YtlenbcmgjancmaaGreatDoor
open Go.RowKit
end Go.Proofs.YtlenbcmgjancmaaGreatDoor
namespace Go.Proofs.YtlenbcmgjancmaaGreatDoor
open Go.RowKit
end Go.Proofs.YtlenbcmgjancmaaGreatDoor
namespace Go.Proofs.YtlenbcmgjancmaaGreatDoor
theorem count_set:∀ (l:List Bool) (i:Nat),l[i]?=some false→(l.set i true).count false+1=l.count false
 | [],i,h=>by simp at h
 |x :: l,0,h=>by
  simp at h
  subst h
  simp
 |x :: l,i+1,h=>by
  have:=count_set l i (by simpa using h)
  cases x<;>simp [List.count_cons] at this ⊢<;>omega
section
variable {P:Program} {ops:Array Oper} {Q:Exit→Act→World→Prop} {md:Region.Mode}
end
end Go.Proofs.YtlenbcmgjancmaaGreatDoor
namespace Go.Proofs.YtlenbcmgjancmaaGreatDoor
open Go.RowKit
set_option maxRecDepth 100000 in
theorem check_empty (w:World):Calls Tryz.prog 19 #[.agg #[.slice none 0 0]] w (VBel (.tuple #[.int .i64 100,.int .i64 0]) w):=by
 go_enter Tryz.func19,Tryz.ntmps19
 go_wp2
 go_ret2
 refine⟨rfl,?_⟩
 (repeat (first|exact Below.refl _ _|assumption|refine below_drewN ?_ _|refine Below.drew ?_|(refine Below.alloc ?_ ?bs _;(case bs=>first|omega|(simp;done)|(simp;omega)))|(refine Below.setCell ?_ ?bs _;(case bs=>first|omega|(simp;done)|(simp;omega)))))
set_option maxRecDepth 100000 in
theorem new_empty (w:World):Calls Tryz.prog 8 #[.agg #[.slice none 0 0]] w (VBel (.tuple #[.pointer none,.int .i64 100]) w):=by
 go_enter Tryz.func8,Tryz.ntmps8
 go_wp2_with (go_at_call 19;((with_reducible refine(check_empty _).mono ?_);rintro e1' w2 ⟨rfl,hb2⟩))
 go_ret2
 refine⟨rfl,Below.trans ?_ (hb2.mono ?_)⟩
 ·(repeat (first|exact Below.refl _ _|assumption|refine below_drewN ?_ _|refine Below.drew ?_|(refine Below.alloc ?_ ?bs _;(case bs=>first|omega|(simp;done)|(simp;omega)))|(refine Below.setCell ?_ ?bs _;(case bs=>first|omega|(simp;done)|(simp;omega)))))
 ·(try simp)<;>omega
set_option maxRecDepth 100000 in
theorem of_nil (w:World) (n y x:Int) (f:Value):Calls Tryz.prog 22 #[.pointer none,.agg #[.int .i64 n,.int .i64 y,.int .i64 x],f] w (VBel (.int .i64 0) w):=by
 go_enter Tryz.func22,Tryz.ntmps22
 go_upto_region 1 with (fail)
 go_quiet (fail)
 go_wp2
 go_ret
 refine⟨rfl,?_⟩
 (repeat (first|exact Below.refl _ _|assumption|refine below_drewN ?_ _|refine Below.drew ?_|(refine Below.alloc ?_ ?bs _;(case bs=>first|omega|(simp;done)|(simp;omega)))|(refine Below.setCell ?_ ?bs _;(case bs=>first|omega|(simp;done)|(simp;omega)))))
set_option maxRecDepth 100000 in
theorem least_nil (w:World) (n:Int):Calls Tryz.prog 11 #[.pointer none,.int .i64 n] w (VBel (.int .i64 0) w):=by
 go_enter Tryz.func11,Tryz.ntmps11
 go_wp2_with (go_at_call 22;((with_reducible refine(of_nil _ _ _ _ _).mono ?_);rintro e1' w2 ⟨rfl,hb2⟩))
 go_ret
 refine⟨rfl,Below.trans ?_ (hb2.mono ?_)⟩
 ·(repeat (first|exact Below.refl _ _|assumption|refine below_drewN ?_ _|refine Below.drew ?_|(refine Below.alloc ?_ ?bs _;(case bs=>first|omega|(simp;done)|(simp;omega)))|(refine Below.setCell ?_ ?bs _;(case bs=>first|omega|(simp;done)|(simp;omega)))))
 ·(try simp)<;>omega
set_option maxRecDepth 100000 in
theorem most_nil (w:World) (n:Int):Calls Tryz.prog 12 #[.pointer none,.int .i64 n] w (VBel (.int .i64 0) w):=by
 go_enter Tryz.func12,Tryz.ntmps12
 go_wp2_with (go_at_call 22;((with_reducible refine(of_nil _ _ _ _ _).mono ?_);rintro e1' w2 ⟨rfl,hb2⟩))
 go_ret
 refine⟨rfl,Below.trans ?_ (hb2.mono ?_)⟩
 ·(repeat (first|exact Below.refl _ _|assumption|refine below_drewN ?_ _|refine Below.drew ?_|(refine Below.alloc ?_ ?bs _;(case bs=>first|omega|(simp;done)|(simp;omega)))|(refine Below.setCell ?_ ?bs _;(case bs=>first|omega|(simp;done)|(simp;omega)))))
 ·(try simp)<;>omega
set_option maxRecDepth 100000 in
theorem tall_nil (w:World) (n x:Int) (hx : -9223372036854775808≤x∧x≤9223372036854775807):Calls Tryz.prog 10 #[.pointer none,.int .i64 n,.int .i64 x] w (VBel (.int .i64 0) w):=by
 have HS:=zH fun W=>side_any x hx W
 clear hx
 go_enter Tryz.func10,Tryz.ntmps10
 go_wp2_with (first|(go_at_call 21;((with_reducible refine(HS.out _).mono ?_);rintro e1' w3 ⟨rfl,rfl⟩))|(go_at_call 22;((with_reducible refine(of_nil _ _ _ _ _).mono ?_);rintro e1' w2 ⟨rfl,hb2⟩)))
 go_ret
 refine⟨rfl,Below.trans ?_ (hb2.mono ?_)⟩
 ·(repeat (first|exact Below.refl _ _|assumption|refine below_drewN ?_ _|refine Below.drew ?_|(refine Below.alloc ?_ ?bs _;(case bs=>first|omega|(simp;done)|(simp;omega)))|(refine Below.setCell ?_ ?bs _;(case bs=>first|omega|(simp;done)|(simp;omega)))))
 ·(try simp)<;>omega
end Go.Proofs.YtlenbcmgjancmaaGreatDoor
namespace Go.Proofs.YtlenbcmgjancmaaGreatDoor
open Go.RowKit
end Go.Proofs.YtlenbcmgjancmaaGreatDoor
namespace Go.Proofs.YtlenbcmgjancmaaGreatDoor
open Go.RowKit
abbrev KSd (w:World) (B:Nat) (v1 v2 v3:Value) (W:World):Prop:=W.cell? ⟨B,0,none⟩=some v1∧W.cell? ⟨B,1,none⟩=some v2∧W.cell? ⟨B,2,none⟩=some v3∧B<W.heap.size∧Below w.heap.size w W
theorem KSd.below {w:World} {B:Nat} {v1 v2 v3:Value} {W W':World} (h:KSd w B v1 v2 v3 W) (hb:Below W.heap.size W W'):KSd w B v1 v2 v3 W' :=
 ⟨(hb.cell (p:=⟨B,0,none⟩) h.2.2.2.1).trans h.1,(hb.cell (p:=⟨B,1,none⟩) h.2.2.2.1).trans h.2.1,(hb.cell (p:=⟨B,2,none⟩) h.2.2.2.1).trans h.2.2.1,Nat.lt_of_lt_of_le h.2.2.2.1 hb.size,h.2.2.2.2.trans (hb.mono h.2.2.2.2.size)⟩
theorem KSd.drew {w:World} {B:Nat} {v1 v2 v3:Value} {W:World} (h:KSd w B v1 v2 v3 W):KSd w B v1 v2 v3 W.drew:=⟨h.1,h.2.1,h.2.2.1,h.2.2.2.1,Below.drew h.2.2.2.2⟩
theorem KSd.alloc {w:World} {B:Nat} {v1 v2 v3:Value} {W:World} (h:KSd w B v1 v2 v3 W) (o:Obj):KSd w B v1 v2 v3 (W.alloc o):=h.below (Below.alloc (Below.refl _ _) (Nat.le_refl _) o)
end Go.Proofs.YtlenbcmgjancmaaGreatDoor
namespace Go.Proofs.YtlenbcmgjancmaaGreatDoor
open Go.RowKit
def CapPost (F:Nat) (v:Value) (w:World) (e:Ending) (w':World):Prop:=∃ b:Nat,e=.returned (.func (.func F) #[] #[.pointer (some ⟨b,0,none⟩)])∧Below w.heap.size w w'∧b<w'.heap.size∧w'.cell? ⟨b,0,none⟩=some v
set_option maxRecDepth 100000 in
theorem always_cap (n:Int) (w:World):Calls Tryz.prog 65 #[.int .i64 n] w (CapPost 100 (.int .i64 n) w):=by
 go_enter Tryz.func65,Tryz.ntmps65
 go_wp2
 go_ret
 refine⟨_,rfl,?_,?_,?_⟩
 ·(repeat (first|exact Below.refl _ _|assumption|refine below_drewN ?_ _|refine Below.drew ?_|(refine Below.alloc ?_ ?bs _;(case bs=>first|omega|(simp;done)|(simp;omega)))|(refine Below.setCell ?_ ?bs _;(case bs=>first|omega|(simp;done)|(simp;omega)))))
 ·simp
 ·go_simp
set_option maxRecDepth 100000 in
theorem high_cap (n:Int) (w:World):Calls Tryz.prog 66 #[.int .i64 n] w (CapPost 101 (.int .i64 n) w):=by
 go_enter Tryz.func66,Tryz.ntmps66
 go_wp2
 go_ret
 refine⟨_,rfl,?_,?_,?_⟩
 ·(repeat (first|exact Below.refl _ _|assumption|refine below_drewN ?_ _|refine Below.drew ?_|(refine Below.alloc ?_ ?bs _;(case bs=>first|omega|(simp;done)|(simp;omega)))|(refine Below.setCell ?_ ?bs _;(case bs=>first|omega|(simp;done)|(simp;omega)))))
 ·simp
 ·go_simp
set_option maxRecDepth 100000 in
theorem widest_cap (f:Fn) (w:World):Calls Tryz.prog 35 #[.func f #[] #[]] w (CapPost 36 (.func f #[] #[]) w):=by
 go_enter Tryz.func35,Tryz.ntmps35
 go_wp2
 go_ret
 refine⟨_,rfl,?_,?_,?_⟩
 ·(repeat (first|exact Below.refl _ _|assumption|refine below_drewN ?_ _|refine Below.drew ?_|(refine Below.alloc ?_ ?bs _;(case bs=>first|omega|(simp;done)|(simp;omega)))|(refine Below.setCell ?_ ?bs _;(case bs=>first|omega|(simp;done)|(simp;omega)))))
 ·simp
 ·go_simp
def Lst (l:List (Nat × Value)) (W:World):Prop:=∀ p ∈ l,p.1<W.heap.size∧W.cell? ⟨p.1,0,none⟩=some p.2
theorem lst_nil (W:World):Lst [] W:=fun p h=>by cases h
theorem Lst.drew {l:List (Nat × Value)} {W:World} (h:Lst l W):Lst l W.drew:=h
theorem Lst.below {l:List (Nat × Value)} {W W':World} (h:Lst l W) (hb:Below W.heap.size W W'):Lst l W':=fun p hp=>
 ⟨Nat.lt_of_lt_of_le (h p hp).1 hb.size,(hb.cell (p:=⟨p.1,0,none⟩) (h p hp).1).trans (h p hp).2⟩
theorem Lst.cons {l:List (Nat × Value)} {W W':World} (h:Lst l W) (hb:Below W.heap.size W W') {b:Nat} {v:Value} (hl:b<W'.heap.size) (hc:W'.cell? ⟨b,0,none⟩=some v):Lst ((b,v) :: l) W':=fun p hp=>by
 rcases List.mem_cons.1 hp with rfl|hp
 ·exact⟨hl,hc⟩
 ·exact h.below hb p hp
def CapAt (w:World) (bk i F:Nat) (v:Value):Prop:=∃ b:Nat,w.cell? ⟨bk,i,none⟩=some (.func (.func F) #[] #[.pointer (some ⟨b,0,none⟩)])∧w.cell? ⟨b,0,none⟩=some v
def FunAt (w:World) (bk i F:Nat):Prop:=w.cell? ⟨bk,i,none⟩=some (.func (.func F) #[] #[])
structure KindsAt (w:World) (bk:Nat):Prop where
 k3:FunAt w bk 3 48
 k4:FunAt w bk 4 49
 k5:FunAt w bk 5 50
 k6:FunAt w bk 6 51
 k7:FunAt w bk 7 52
 k8:FunAt w bk 8 53
 k9:CapAt w bk 9 36 (.func (.func 40) #[] #[])
 k10:CapAt w bk 10 36 (.func (.func 41) #[] #[])
 k11:FunAt w bk 11 42
 k12:FunAt w bk 12 55
 k13:FunAt w bk 13 58
 k14:FunAt w bk 14 59
 k15:CapAt w bk 15 36 (.func (.func 40) #[] #[])
 k16:CapAt w bk 16 36 (.func (.func 41) #[] #[])
 k17:FunAt w bk 17 42
 k18:FunAt w bk 18 61
 k19:FunAt w bk 19 63
 k20:FunAt w bk 20 64
 k21:CapAt w bk 21 100 (.int .i64 1)
 k22:CapAt w bk 22 100 (.int .i64 10)
 k23:CapAt w bk 23 101 (.int .i64 1)
 k24:FunAt w bk 24 67
 k25:FunAt w bk 25 69
 k26:FunAt w bk 26 72
 k27:CapAt w bk 27 100 (.int .i64 1)
 k28:CapAt w bk 28 100 (.int .i64 10)
 k29:CapAt w bk 29 101 (.int .i64 1)
 k30:CapAt w bk 30 100 (.int .i64 1)
 k31:FunAt w bk 31 74
 k32:CapAt w bk 32 101 (.int .i64 4)
 k33:CapAt w bk 33 100 (.int .i64 1)
 k34:CapAt w bk 34 100 (.int .i64 1)
 k35:CapAt w bk 35 101 (.int .i64 1)
def Keeps (w w':World):Prop:=∀ a v,w.cell? a=some v→w'.cell? a=some v
theorem KindsAt.keeps {w w':World} {bk:Nat} (h:KindsAt w bk) (k:Keeps w w'):KindsAt w' bk:=by
 have cap:∀ {i F v},CapAt w bk i F v→CapAt w' bk i F v:=fun ⟨b,h1,h2⟩=>⟨b,k _ _ h1,k _ _ h2⟩
 have fn:∀ {i F},FunAt w bk i F→FunAt w' bk i F:=fun h=>k _ _ h
 obtain⟨a3,a4,a5,a6,a7,a8,a9,a10,a11,a12,a13,a14,a15,a16,a17,a18,a19,a20,a21,a22,a23,a24,a25,a26,a27,a28,a29,a30,a31,a32,a33,a34,a35⟩:=h
 exact⟨fn a3,fn a4,fn a5,fn a6,fn a7,fn a8,cap a9,cap a10,fn a11,fn a12,fn a13,fn a14,cap a15,cap a16,fn a17,fn a18,fn a19,fn a20,cap a21,cap a22,cap a23,fn a24,fn a25,fn a26,cap a27,cap a28,cap a29,cap a30,fn a31,cap a32,cap a33,cap a34,cap a35⟩
def KAllPost (w:World) (e:Ending) (w':World):Prop:=∃ b:Nat,e=.returned (.slice (some ⟨b,0,none⟩) 12 12)∧w.heap.size≤b∧b<w'.heap.size∧Below w.heap.size w w'∧KindsAt w' b
theorem first_lst {l:List (Nat × Value)} {W W':World} (h:Lst l W) (hb:Below W.heap.size W W') {b:Nat} {v:Value} (hl:b<W'.heap.size) (hc:W'.cell? ⟨b,0,none⟩=some v):Lst ((b,v) :: l) W':=h.cons hb hl hc
set_option maxRecDepth 100000 in
set_option maxHeartbeats 8000000 in
theorem kinds_all (w:World):Calls Tryz.prog 20 #[] w (KAllPost w):=by
 go_enter Tryz.func20,Tryz.ntmps20
 go_upto_region 3 with (go_at_call 35;((with_reducible refine(widest_cap _ _).mono ?_);rintro e1' w2 ⟨b2,rfl,hb2,hl2,hc2⟩;have hz2:=hb2.size))
 rename_i w1 b1 hb1 hl1 hc1 hz1 K0 a0
 have HL0:=((lst_nil w).cons hb1 hl1 hc1).cons hb2 hl2 hc2
 have S0:KSd w w2.heap.size (.func (.func 36) #[] #[.pointer (some ⟨b1,0,none⟩)]) (.func (.func 36) #[] #[.pointer (some ⟨b2,0,none⟩)]) (.func (.func 42) #[] #[]) (w2.alloc (Obj.cells #[Value.func (.func 36) #[] #[.pointer (some ⟨b1,0,none⟩)],Value.func (.func 36) #[] #[.pointer (some ⟨b2,0,none⟩)],Value.func (Fn.func 42) #[] #[]] 71)):=by
  refine⟨by go_simp,by go_simp,by go_simp,by simp,?_⟩
  exact Below.alloc (hb1.trans (hb2.mono hz1)) (Nat.le_trans hz1 hz2) _
 have HL:=zH (HL0.below (Below.alloc (Below.refl _ w2) (Nat.le_refl _) (Obj.cells #[Value.func (.func 36) #[] #[.pointer (some ⟨b1,0,none⟩)],Value.func (.func 36) #[] #[.pointer (some ⟨b2,0,none⟩)],Value.func (Fn.func 42) #[] #[]] 71)))
 generalize hB:w2.heap.size=B at S0 ⊢
 generalize w2.alloc (Obj.cells #[Value.func (.func 36) #[] #[.pointer (some ⟨b1,0,none⟩)],Value.func (.func 36) #[] #[.pointer (some ⟨b2,0,none⟩)],Value.func (Fn.func 42) #[] #[]] 71)=W at S0 HL ⊢
 obtain⟨s1,s2,s3,s4,s5⟩:=S0
 clear hB hb1 hz1 hb2 hz2 HL0 hl1 hc1 hl2 hc2
 go_region_held3 (fun w'=>w'.cell? ⟨B,0,none⟩=some (.func (.func 36) #[] #[.pointer (some ⟨b1,0,none⟩)])∧w'.cell? ⟨B,1,none⟩=some (.func (.func 36) #[] #[.pointer (some ⟨b2,0,none⟩)])∧w'.cell? ⟨B,2,none⟩=some (.func (.func 42) #[] #[])∧B<w'.heap.size∧Below w.heap.size w w')
  ((first|(refine KSd.alloc ?_ _;(first|assumption|(refine⟨?_,?_,?_,?_,?_⟩<;>assumption)))|(refine KSd.drew ?_;(refine⟨?_,?_,?_,?_,?_⟩<;>assumption))|(refine KSd.below ?_ hb3;(first|assumption|(refine⟨?_,?_,?_,?_,?_⟩<;>assumption)))|(refine⟨?_,?_,?_,?_,?_⟩<;>assumption)))
  (first|(go_at_call 65;((with_reducible refine(always_cap _ _).mono ?_);rintro e1' w3 ⟨b3,rfl,hb3,hl3,hc3⟩;have hz3:=hb3.size;(try simp at hz3);(first|have HL:=zH (first_lst HL.out hb3 hl3 hc3)|have HL:=zH (first_lst HL.out.drew hb3 hl3 hc3))))|(go_at_call 66;((with_reducible refine(high_cap _ _).mono ?_);rintro e1' w3 ⟨b3,rfl,hb3,hl3,hc3⟩;have hz3:=hb3.size;(try simp at hz3);(first|have HL:=zH (first_lst HL.out hb3 hl3 hc3)|have HL:=zH (first_lst HL.out.drew hb3 hl3 hc3)))))
 all_goals
  go_wp2
  go_ret
  have s6:=s5.size
  have HLf:=fun o=>HL.out.below (Below.alloc (Below.refl _ w3) (Nat.le_refl _) o)
  refine⟨w3.heap.size,rfl,?_,?_,?_,?_⟩
  ·omega
  ·simp
  ·exact(show KSd w B (.func (.func 36) #[] #[.pointer (some ⟨b1,0,none⟩)]) (.func (.func 36) #[] #[.pointer (some ⟨b2,0,none⟩)]) (.func (.func 42) #[] #[]) _ by assumption).2.2.2.2
  ·constructor
   ·exact(World.cell?_alloc_new _ _ _ _).trans rfl
   ·exact(World.cell?_alloc_new _ _ _ _).trans rfl
   ·exact(World.cell?_alloc_new _ _ _ _).trans rfl
   ·exact(World.cell?_alloc_new _ _ _ _).trans rfl
   ·exact(World.cell?_alloc_new _ _ _ _).trans rfl
   ·exact(World.cell?_alloc_new _ _ _ _).trans rfl
   ·exact⟨_,(World.cell?_alloc_new _ _ _ _).trans rfl,(HLf _ (_,_) (by simp)).2⟩
   ·exact⟨_,(World.cell?_alloc_new _ _ _ _).trans rfl,(HLf _ (_,_) (by simp)).2⟩
   ·exact(World.cell?_alloc_new _ _ _ _).trans rfl
   ·exact(World.cell?_alloc_new _ _ _ _).trans rfl
   ·exact(World.cell?_alloc_new _ _ _ _).trans rfl
   ·exact(World.cell?_alloc_new _ _ _ _).trans rfl
   ·exact⟨_,(World.cell?_alloc_new _ _ _ _).trans rfl,(HLf _ (_,_) (by simp)).2⟩
   ·exact⟨_,(World.cell?_alloc_new _ _ _ _).trans rfl,(HLf _ (_,_) (by simp)).2⟩
   ·exact(World.cell?_alloc_new _ _ _ _).trans rfl
   ·exact(World.cell?_alloc_new _ _ _ _).trans rfl
   ·exact(World.cell?_alloc_new _ _ _ _).trans rfl
   ·exact(World.cell?_alloc_new _ _ _ _).trans rfl
   ·exact⟨_,(World.cell?_alloc_new _ _ _ _).trans rfl,(HLf _ (_,_) (by simp)).2⟩
   ·exact⟨_,(World.cell?_alloc_new _ _ _ _).trans rfl,(HLf _ (_,_) (by simp)).2⟩
   ·exact⟨_,(World.cell?_alloc_new _ _ _ _).trans rfl,(HLf _ (_,_) (by simp)).2⟩
   ·exact(World.cell?_alloc_new _ _ _ _).trans rfl
   ·exact(World.cell?_alloc_new _ _ _ _).trans rfl
   ·exact(World.cell?_alloc_new _ _ _ _).trans rfl
   ·exact⟨_,(World.cell?_alloc_new _ _ _ _).trans rfl,(HLf _ (_,_) (by simp)).2⟩
   ·exact⟨_,(World.cell?_alloc_new _ _ _ _).trans rfl,(HLf _ (_,_) (by simp)).2⟩
   ·exact⟨_,(World.cell?_alloc_new _ _ _ _).trans rfl,(HLf _ (_,_) (by simp)).2⟩
   ·exact⟨_,(World.cell?_alloc_new _ _ _ _).trans rfl,(HLf _ (_,_) (by simp)).2⟩
   ·exact(World.cell?_alloc_new _ _ _ _).trans rfl
   ·exact⟨_,(World.cell?_alloc_new _ _ _ _).trans rfl,(HLf _ (_,_) (by simp)).2⟩
   ·exact⟨_,(World.cell?_alloc_new _ _ _ _).trans rfl,(HLf _ (_,_) (by simp)).2⟩
   ·exact⟨_,(World.cell?_alloc_new _ _ _ _).trans rfl,(HLf _ (_,_) (by simp)).2⟩
   ·exact⟨_,(World.cell?_alloc_new _ _ _ _).trans rfl,(HLf _ (_,_) (by simp)).2⟩
end Go.Proofs.YtlenbcmgjancmaaGreatDoor
namespace Go.Proofs.YtlenbcmgjancmaaGreatDoor
open Go.RowKit
theorem run_append_none {P:Program} (w:World) (t ty e:TypeId) (i:TypeInfo) (ht:P.underlying t=some (.slice e)) (hi:P.info? e=some i) (g c:Nat) :
  (Builtin.append_ #[t,t] ty #[.slice (some ⟨g,0,none⟩) 0 0,.slice none 0 c]).run P w=.ok (.slice (some ⟨g,0,none⟩) 0 0) w:=by
 simp [Builtin.append_,run_underlying ht,sizeOf,typeInfo,hi,Builtin.lenOf,Builtin.firstCells,Addr.add_lit,storeCells]
theorem wpList_append_all {ops:Array Oper} {rest:List Oper} {a:Act} {Q:Exit→Act→World→Prop} {W:World} {dst:Option Tmp} {ty:TypeId} {s x:Operand} {pos:String} {after:Array Edge} {z:Value} {news:List Value} {p:Option Addr} {g n c T e sz bytes:Nat}
  (E:ElOK T e sz bytes z) (hs:a.eval s=.slice (some ⟨g,0,none⟩) 0 0) (hg:g=W.heap.size) (hx:a.eval x=.slice p n c)
  (hnews:0<n→∃ gx ox,p=some ⟨gx,ox,none⟩∧∀ j u,news[j]?=some u→(W.alloc (.cells #[] e)).cell? ⟨gx,ox+j,none⟩=some u)
  (hl:news.length=n*sz) (h1:∀ u ∈ news,u.oneCell'=true) (hn:n≤1000000)
  (h:∀ v' w',w'.ownsRow W.heap.size e sz v' n news→v' ≠ .slice none 0 0→Below W.heap.size W w'→∀ K:Act→World→Prop,(∀ a w,wpList Tryz.prog ops Q rest a w→K a w)→K (a.put dst v') w') :
  wpList Tryz.prog ops Q ({ dst:=dst,op:=.call { callee:=.builtin .append,args:=#[s,x],argTypes:=#[T,T] },type:=ty,pos:=pos,after:=after,guard:=none } :: rest) a (W.alloc (.cells #[] e)):=by
 obtain⟨i0,hi,hz0,hz1,hz2⟩:=info_parts E.hI
 subst hg
 have hb:=E.hb
 have hrow:(W.alloc (.cells #[] e)).ownsRow W.heap.size e sz (.slice (some ⟨W.heap.size,0,none⟩) 0 0) 0 []:=World.ownsRow_made W #[] 0 (Nat.le_refl _) (Nat.zero_le _) (by simp)
 have hB0:Below W.heap.size W (W.alloc (.cells #[] e)):=Below.alloc (Below.refl _ _) (Nat.le_refl _) _
 refine wpList_plain rfl fun K hK=>?_
 by_cases h0:p=none
 ·subst h0
  have hn0:n=0:=by
   rcases Nat.eq_zero_or_pos n with h|h
   ·exact h
   ·obtain⟨_,_,e,_⟩:=hnews h;cases e
  subst hn0
  obtain rfl:news=[]:=List.length_eq_zero_iff.1 (by simpa using hl)
  have hr:=run_append_none (P:=Tryz.prog) (W.alloc (.cells #[] e)) T ty e i0 E.hT hi W.heap.size c
  unfold Oper.wp execOp
  simp only [resolve,invoke,builtin,Sem.run_bind,Sem.run_pure,Result.andThen_ok,List.map_toArray,List.map_cons,List.map_nil,hs,hx,hr]
  exact h _ _ hrow (by simp) hB0 _ hK
 ·obtain⟨ad,rfl⟩:∃ ad,p=some ad:=by
   cases p with
   |none=>exact absurd rfl h0
   |some ad=>exact⟨ad,rfl⟩
  have hnw:∀ (j:Nat) u,news[j]?=some u→(W.alloc (.cells #[] e)).cell? (ad.add j)=some u:=fun j u hj=>by
   have hj1:=(List.getElem?_eq_some_iff.1 hj).1
   have hn0:0<n:=by
    rcases Nat.eq_zero_or_pos n with h|h
    ·subst h;simp at hl;subst hl;simp at hj
    ·exact h
   obtain⟨gx,ox,e1,e2⟩:=hnews hn0
   obtain rfl:=Option.some.inj e1
   rw [show (⟨gx,ox,none⟩:Addr).add j=⟨gx,ox+j,none⟩ by simp [Addr.add]]
   exact e2 j u hj
  obtain⟨v',w',hr,r1,r2,r3⟩:=run_append_own (P:=Tryz.prog) (w:=W.alloc (.cells #[] e)) W.heap.size T ty e i0 z sz bytes E.hT hi hz0 hz1 hz2 E.hz E.hs _ 0 [] hrow ad n c news hl hnw h1 (by simp [maxLen];omega) (by
   have:(0+n)*bytes≤1000000*64:=Nat.mul_le_mul (by omega) hb
   omega) (by simp)
  unfold Oper.wp execOp
  simp only [resolve,invoke,builtin,Sem.run_bind,Sem.run_pure,Result.andThen_ok,List.map_toArray,List.map_cons,List.map_nil,hs,hx,hr]
  rw [Nat.zero_add,List.nil_append] at r1
  exact h _ _ r1 (fun e=>by have:=(r3.1 e).1;simp at this) (hB0.grown r2 (by simp) (fun k e=>by
   have:W.heap.size=k:=by simpa [Value.ownBlock] using e
   omega)) _ hK
theorem elT:ElOK 44 40 5 40 (.agg #[.int .i8 0,.int .i64 0,.int .i64 0,.int .i64 0,.int .i64 0]):=⟨Tryz.underlying44,by kernel_rfl,rfl,by decide,by decide⟩
theorem slt_news {W:World} {v:Value} {l:List Itm} (h:SlT W v l):∃ p c,v=.slice p l.length c∧l.length≤4398046511104∧(0<l.length→∃ g o,p=some ⟨g,o,none⟩∧g<W.heap.size∧∀ j u,(flatC Itm.cells l)[j]?=some u→W.cell? ⟨g,o+j,none⟩=some u):=by
 obtain⟨p,c,rfl,hl,hx⟩:=h
 refine⟨p,c,rfl,hl,fun h0=>?_⟩
 obtain⟨g,o,rfl,hg,_⟩:=hx 0 _ (List.getElem?_eq_getElem h0)
 refine⟨g,o,rfl,hg,fun j u hj=>?_⟩
 have hj1:=(List.getElem?_eq_some_iff.1 hj).1
 rw [flatC_len Itm.cells_len] at hj1
 have hi:j / 5<l.length:=by omega
 have e:=flatC_get Itm.cells_len l (j / 5) (j % 5) _ (List.getElem?_eq_getElem hi) (Nat.mod_lt _ (by decide))
 rw [Nat.div_add_mod'] at e
 rw [e] at hj
 obtain⟨g',o',e',_,hc⟩:=hx (j / 5) _ (List.getElem?_eq_getElem hi)
 obtain⟨rfl,rfl⟩:g=g'∧o=o':=by simpa using e'
 have hm:j % 5<5:=Nat.mod_lt _ (by decide)
 have hd:j=j / 5*5+j % 5:=(Nat.div_add_mod' j 5).symm
 generalize j % 5=m at hj hm hd
 rw [hd,← Nat.add_assoc]
 obtain⟨c0,c1,c2,c3,c4⟩:=hc
 match m,hm with
 | 0,_=>obtain rfl:=Option.some.inj hj;exact c0
 | 1,_=>obtain rfl:=Option.some.inj hj;exact c1
 | 2,_=>obtain rfl:=Option.some.inj hj;exact c2
 | 3,_=>obtain rfl:=Option.some.inj hj;exact c3
 | 4,_=>obtain rfl:=Option.some.inj hj;exact c4
theorem one_items (l:List Itm):∀ u ∈ flatC Itm.cells l,u.oneCell'=true:=by
 intro u hu
 induction l with
 |nil=>simp [flatC] at hu
 |cons x l ih=>
  rcases List.mem_append.1 hu with h|h
  ·simp only [Itm.cells,List.mem_cons,List.not_mem_nil,or_false] at h
   rcases h with rfl|rfl|rfl|rfl|rfl<;>rfl
  ·exact ih h
structure RowT (W:World) (B b cap:Nat) (l:List Itm):Prop where
 at':∀ (i:Nat) x,l[i]?=some x→ItmAt W b (i*5) x
 froz:∀ j,W.frozen? ⟨b,j,none⟩=false
 lt:b<W.heap.size
 low:B≤b
theorem RowT.below {W W':World} {B b cap:Nat} {l:List Itm} (h:RowT W B b cap l) (hb:Below W.heap.size W W'):RowT W' B b cap l :=
 ⟨fun i x hx=>(h.at' i x hx).below hb h.lt,fun j=>(hb.frozen (p:=⟨b,j,none⟩) h.lt).trans (h.froz j),Nat.lt_of_lt_of_le h.lt hb.size,h.low⟩
theorem RowT.of_owns {W:World} {B n:Nat} {v:Value} {l:List Itm} (h:W.ownsRow B 40 5 v n (flatC Itm.cells l)) (hl:l.length=n) (hv:v ≠ .slice none 0 0):∃ b cap,v=.slice (some ⟨b,0,none⟩) n cap∧n≤cap∧RowT W B b cap l:=by
 rcases h.2 with ⟨rfl,_⟩|⟨g,cap,cur,rfl,hb,hg,hn,hc,hs,ht⟩
 ·exact absurd rfl hv
 ·refine⟨g,cap,rfl,hn,⟨fun i x hx=>?_,fun j=>frozen_of_row W g j cur _ hg,(Array.getElem?_eq_some_iff.1 hg).1,hb⟩⟩
  have hi:=(List.getElem?_eq_some_iff.1 hx).1
  have hc2:∀ j,j<5→W.cell? ⟨g,i*5+j,none⟩=x.cells[j]?:=fun j hj=>by
   rw [World.ownsRow.cellAt h (i*5+j) (by omega)]
   exact flatC_get Itm.cells_len l i j x hx hj
  exact⟨by have:=hc2 0 (by omega);rw [Nat.add_zero] at this;exact this,hc2 1 (by omega),hc2 2 (by omega),hc2 3 (by omega),hc2 4 (by omega)⟩
theorem setCell_otherP {W:World} {b b':Nat} (hne:b ≠ b') (q j:Nat) (v:Value):(W.setCell ⟨b',j,none⟩ v).cell? ⟨b,q,none⟩=W.cell? ⟨b,q,none⟩:=World.cell?_of_block (heap_setCell_other W ⟨b',j,none⟩ b v hne)
theorem ItmAt.setO {W:World} {g o j:Nat} {x:Itm} {v:Value} (h:ItmAt W g o x) (hj:j<o∨o+5≤j):ItmAt (W.setCell ⟨g,j,none⟩ v) g o x:=by
 have e:∀ q,o≤q→q<o+5→(W.setCell ⟨g,j,none⟩ v).cell? ⟨g,q,none⟩=W.cell? ⟨g,q,none⟩:=fun q h1 h2=>World.cell?_setCell_other _ _ _ _ (by intro e;injection e with e1 e2;omega)
 exact⟨(e _ (by omega) (by omega)).trans h.k,(e _ (by omega) (by omega)).trans h.n,(e _ (by omega) (by omega)).trans h.d,(e _ (by omega) (by omega)).trans h.mn,(e _ (by omega) (by omega)).trans h.mx⟩
theorem cell_setH {W:World} {a:Addr} {u v:Value} (h:W.cell? a=some u):(W.setCell a v).cell? a=some v:=World.cell?_setCell_same _ _ _ h
theorem cell_setF {W:World} {g j q:Nat} {v:Value} (h:j ≠ q):(W.setCell ⟨g,j,none⟩ v).cell? ⟨g,q,none⟩=W.cell? ⟨g,q,none⟩:=World.cell?_setCell_other _ _ _ _ (by intro e;injection e with e1 e2;exact h e2)
theorem RowT.put {W:World} {B b cap:Nat} {l:List Itm} (h:RowT W B b cap l) {i:Nat} (hi:i<l.length) (y:Itm) :
  RowT (((((W.setCell ⟨b,i*5,none⟩ (.int .i8 y.k)).setCell ⟨b,i*5+1,none⟩ (.int .i64 y.n)).setCell ⟨b,i*5+2,none⟩ (.int .i64 y.d)).setCell ⟨b,i*5+3,none⟩ (.int .i64 y.mn)).setCell ⟨b,i*5+4,none⟩ (.int .i64 y.mx)) B b cap (l.set i y):=by
 refine⟨fun j x hx=>?_,fun j=>by simp only [World.frozen?_setCell];exact h.froz j,by simp [World.setCell];exact h.lt,h.low⟩
 by_cases e:i=j
 ·subst e
  rw [List.getElem?_set_self hi] at hx
  obtain rfl:=Option.some.inj hx
  obtain⟨c0,c1,c2,c3,c4⟩:=h.at' i _ (List.getElem?_eq_getElem hi)
  refine⟨?_,?_,?_,?_,?_⟩
  ·rw [cell_setF (by omega),cell_setF (by omega),cell_setF (by omega),cell_setF (by omega)];exact cell_setH c0
  ·rw [cell_setF (by omega),cell_setF (by omega),cell_setF (by omega)];exact cell_setH ((cell_setF (by omega)).trans c1)
  ·rw [cell_setF (by omega),cell_setF (by omega)];exact cell_setH (((cell_setF (by omega)).trans (cell_setF (by omega))).trans c2)
  ·rw [cell_setF (by omega)];exact cell_setH ((((cell_setF (by omega)).trans (cell_setF (by omega))).trans (cell_setF (by omega))).trans c3)
  ·exact cell_setH (((((cell_setF (by omega)).trans (cell_setF (by omega))).trans (cell_setF (by omega))).trans (cell_setF (by omega))).trans c4)
 ·rw [List.getElem?_set_ne e] at hx
  have:=h.at' j x hx
  have hd:i*5+5≤j*5∨j*5+5≤i*5:=by omega
  exact((((this.setO (by omega)).setO (by omega)).setO (by omega)).setO (by omega)).setO (by omega)
theorem RowT.sl {W:World} {B b cap:Nat} {l:List Itm} (h:RowT W B b cap l) (hl:l.length≤4398046511104) (c:Nat):SlT W (.slice (some ⟨b,0,none⟩) l.length c) l :=
 ⟨_,c,rfl,hl,fun i x hi=>⟨b,0,rfl,h.lt,by rw [Nat.zero_add];exact h.at' i x hi⟩⟩
theorem RowT.to {W:World} {B b cap:Nat} {l l':List Itm} (h:RowT W B b cap l) (e:l=l'):RowT W B b cap l':=e ▸ h
end Go.Proofs.YtlenbcmgjancmaaGreatDoor
