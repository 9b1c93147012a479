import Derived.Test.YtlenbcmgjancmaaGreatDoorMn28
import Derived.Deep.DeepCutAuto
import Derived.Deep.RegionWith
import Derived.IntWalk
import Derived.Test.YtlenbcmgjancmaaGreatDoorMn18
set_option linter.unusedVariables false
set_option linter.unusedSimpArgs false
namespace Go.Proofs.YtlenbcmgjancmaaGreatDoor
open Go.RowKit
theorem slice_part (T e sz bytes:Nat) (z:Value) (OK:ElOK T e sz bytes z) (hel:Tryz.prog.elem T=e) (g a cap A S:Nat) (h1:A+S≤cap) (hS:1≤S) (W:World) :
  (Instr.sliceAt T (.slice (some ⟨g,0,none⟩) a cap) (some (.int .i64 A)) (some (.int .i64 ((A:Int)+(S:Int)))) none).run Tryz.prog W=.ok (.slice (some ⟨g,A*sz,none⟩) S (cap - A)) W:=by
 obtain⟨i0,hi,hz0,hz1,hz2⟩:=info_parts OK.hI
 have hT:Tryz.prog.underlying T=some (.slice (Tryz.prog.elem T)):=by rw [hel];exact OK.hT
 rw [run_sliceAt_slice (h:=hT),run_slice_lh (ht:=hT) (h0:=by omega) (h1:=by omega) (h2:=by omega)]
 have h2:((A:Int)+(S:Int)).toNat=A+S:=by omega
 have h3:¬ cap=A:=by omega
 have h4:A+S - A=S:=by omega
 simp [hel,sizeOf,typeInfo,hi,Result.andThen,hz1,sliced,h2,h3,h4,Addr.add]
 exact fun h=>h.symm
noncomputable def mixI (l:List Itm) (a:Nat):List Itm:=(l.take a).map normI ++ l.drop a
theorem mixI_len {l:List Itm} {a:Nat}:(mixI l a).length=l.length:=by unfold mixI;rw [List.length_append,List.length_map,List.length_take,List.length_drop];omega
theorem mixI_get {l:List Itm} {a:Nat} {x:Itm} (h:l[a]?=some x):(mixI l a)[a]?=some x:=by
 have h1:=(List.getElem?_eq_some_iff.1 h).1
 unfold mixI
 rw [List.getElem?_append_right (by rw [List.length_map,List.length_take];omega),List.length_map,List.length_take,Nat.min_eq_left (by omega),Nat.sub_self,List.getElem?_drop,Nat.add_zero]
 exact h
theorem mixI_set {l:List Itm} {a:Nat} {x:Itm} (h:l[a]?=some x):(mixI l a).set a (normI x)=mixI l (a+1):=by
 obtain⟨h1,rfl⟩:=List.getElem?_eq_some_iff.1 h
 unfold mixI
 have hk:((l.take a).map normI).length=a:=by rw [List.length_map,List.length_take];omega
 rw [List.set_append_right _ _ (by omega),hk,Nat.sub_self,List.drop_eq_getElem_cons h1,List.set_cons_zero,List.take_succ_eq_append_getElem h1,List.map_append,List.append_assoc]
 rfl
theorem mixI_full {l:List Itm} {a:Nat} (h:a=l.length):mixI l a=l.map normI:=by
 subst h;unfold mixI;rw [List.take_length,List.drop_length,List.append_nil]
theorem mixI_zero (l:List Itm):mixI l 0=l:=by simp [mixI]
theorem set_same {α:Type} {l:List α} {a:Nat} {x:α} (h:l[a]?=some x):l.set a x=l:=by
 apply List.ext_getElem?
 intro j
 by_cases e:a=j
 ·subst e
  rw [List.getElem?_set_self (List.getElem?_eq_some_iff.1 h).1,h]
 ·rw [List.getElem?_set_ne e]
theorem normI_ok {x:Itm} (h:x.ok):normI x=x:=by unfold normI;rw [if_pos h]
theorem normI_no {x:Itm} (h:¬ x.ok):normI x=⟨1,0,0,0,0⟩:=by unfold normI;rw [if_neg h]
structure T2 (w:World) (ib cap hb:Nat) (its:List Itm) (h:List Int) (v:Value) (ws:List Ned) (W:World):Prop where
 t:TrI w ib cap hb its h W
 r:W.ownsRow (hb+1) 137 3 v ws.length (flatC Ned.cells ws)
 lt:ib<hb
section
variable {w W W':World} {ib cap hb:Nat} {its:List Itm} {h:List Int} {v v':Value} {ws:List Ned}
theorem T2.below (t:T2 w ib cap hb its h v ws W) (hB:Below W.heap.size W W'):T2 w ib cap hb its h v ws W':=⟨t.t.below hB,orow_belowSize t.r hB,t.lt⟩
theorem T2.vne (t:T2 w ib cap hb its h v ws W) {k:Nat} (hk:k≤hb):v.ownBlock ≠ some k:=fun e=>by have:=(t.r.lt k e).1;omega
theorem T2.oth (t:T2 w ib cap hb its h v ws W) {q:Nat} (hq:hb<q) (hv:v.ownBlock ≠ some q) (j:Nat) (x:Value):T2 w ib cap hb its h v ws (W.setCell ⟨q,j,none⟩ x) :=
 ⟨t.t.grown (grown_set W q j x) (by have:=t.lt;simp;omega) (by simp;omega) (fun b e=>by have:=Option.some.inj e;have:=t.t.nh;omega),t.r.kept (grown_set W q j x) (.inr hv),t.lt⟩
theorem T2.put (t:T2 w ib cap hb its h v ws W) (i:Nat) (x:Int):T2 w ib cap hb its (h.set i x) v ws (W.setCell ⟨hb,i,none⟩ (.int .i64 x)) :=
 ⟨t.t.put i x,t.r.kept (grown_set W hb i _) (.inr (t.vne (Nat.le_refl _))),t.lt⟩
theorem T2.app (t:T2 w ib cap hb its h v ws W) {s:Ned} (hr:W'.ownsRow (hb+1) 137 3 v' (ws.length+1) (flatC Ned.cells ws ++ s.cells)) (hg:W.grownBy W' v.ownBlock):T2 w ib cap hb its h v' (ws ++ [s]) W':=by
 refine⟨t.t.grown hg (fun e=>t.vne (Nat.le_of_lt t.lt) e.symm) (fun e=>t.vne (Nat.le_refl _) e.symm) (fun b e=>?_),?_,t.lt⟩
 ·have:=(t.r.lt b e).1
  have:=t.t.nh
  omega
 ·rw [List.length_append,flatC_app]
  simpa [flatC] using hr
theorem T2.toH (t:T2 w ib cap hb its h v ws W) {l:List Int} (e:h=l):T2 w ib cap hb its l v ws W:=e ▸ t
theorem T2.toW (t:T2 w ib cap hb its h v ws W) {l:List Ned} (e:ws=l):T2 w ib cap hb its h v l W:=e ▸ t
theorem T2.spread (t:T2 w ib cap hb its h v ws W) {L:List Int} (hA:ArrI W' hb L) (hg:W.grownBy W' (some hb)):T2 w ib cap hb its L v ws W' :=
 ⟨⟨t.t.g.grown hg t.t.g.size (fun b e=>by have:=Option.some.inj e;have:=t.t.nh;omega),t.t.it.grown hg (by have:=t.lt;simp;omega),hA,t.t.nh,t.t.ne⟩,t.r.kept hg (.inr (t.vne (Nat.le_refl _))),t.lt⟩
theorem sort_row (t:T2 w ib cap hb its h v ws W) (hok:∀ x ∈ ws,0≤x.s∧x.s≤4096) (hl:ws.length≤4096) :
  Calls Tryz.prog 134 #[v,cmpN] W (fun e W'=>e=.returned (.tuple #[])∧T2 w ib cap hb its h v (stableS ltN ws) W'):=by
 have hsl:(stableS ltN ws).length=ws.length:=(kin_stable ltN ws).1
 rcases t.r.2 with ⟨rfl,h0⟩|⟨g,cp,cur,rfl,hb1,hg,hn,hc,hs,ht⟩
 ·obtain rfl:ws=[]:=List.length_eq_zero_iff.1 (by simpa using h0)
  refine(sortN_nil none 0 W).mono fun e W' ⟨h1,h2⟩=>⟨h1,?_⟩
  subst h2
  have:stableS ltN ([]:List Ned)=[]:=List.length_eq_zero_iff.1 (by rw [hsl];rfl)
  rw [this];exact t
 ·have hcur:cur.toList=flatC Ned.cells ws ++ cur.toList.drop (ws.length*3):=by
   rw [← ht]
   exact(List.take_append_drop _ _).symm
  have hdat:ArrN W g ws (cur.toList.drop (ws.length*3)):=by
   unfold ArrN Arr
   rw [← hcur,hg]
  have hS:SrN W g (cur.toList.drop (ws.length*3)) ws.length ws W:=⟨hdat,World.grownBy.refl _ _,rfl,by omega,hok⟩
  refine(sortN_any hS cp).mono fun e W' ⟨h1,h2⟩=>⟨h1,?_⟩
  have hgr:=h2.g
  refine⟨t.t.grown hgr (by have:=t.lt;simp;omega) (by simp;omega) (fun b e=>by have:=Option.some.inj e;have:=t.t.nh;omega),?_,t.lt⟩
  rw [hsl]
  have hd:=h2.dat
  refine⟨by rw [flatC_len Ned.cells_len,hsl],.inr ⟨g,cp,(flatC Ned.cells (stableS ltN ws) ++ cur.toList.drop (ws.length*3)).toArray,rfl,hb1,hd,hn,hc,?_,?_⟩⟩
  ·have h3:=flatC_len Ned.cells_len (stableS ltN ws)
   have h4:=flatC_len Ned.cells_len ws
   have h5:cur.toList.length=cp*3:=by simpa using hs
   rw [hcur] at h5
   simp only [List.length_append] at h5
   simp only [List.size_toArray,List.length_append,h3,hsl]
   omega
  ·have h3:(flatC Ned.cells (stableS ltN ws)).length=ws.length*3:=by rw [flatC_len Ned.cells_len,hsl]
   simp [h3]
theorem T2.form (t:T2 w ib cap hb its h v ws W):∃ p c,v=.slice p ws.length c:=by
 rcases t.r.2 with ⟨rfl,h0⟩|⟨g,cp,cur,rfl,_⟩
 ·exact⟨none,0,by rw [h0]⟩
 ·exact⟨_,cp,rfl⟩
theorem T2.ned {p:Option Addr} {n c:Nat} (t:T2 w ib cap hb its h (.slice p n c) ws W) {i:Nat} {x:Ned} (hi:ws[i]?=some x):∃ g,p=some ⟨g,0,none⟩∧g<W.heap.size∧NedAt W g (i*3) x:=by
 have h1:i<ws.length:=(List.getElem?_eq_some_iff.1 hi).1
 rcases t.r.2 with ⟨_,h0⟩|⟨g,cap',cur,hv,hb1,hg,_⟩
 ·omega
 ·obtain⟨rfl,rfl,rfl⟩:p=some ⟨g,0,none⟩∧n=ws.length∧c=cap':=by simpa using hv
  refine⟨g,rfl,(Array.getElem?_eq_some_iff.1 hg).1,?_⟩
  have hc2:∀ j,j<3→W.cell? ⟨g,i*3+j,none⟩=x.cells[j]?:=fun j hj=>by
   rw [World.ownsRow.cellAt t.r (i*3+j) (by omega)]
   exact flatC_get Ned.cells_len ws i j x hi hj
  exact⟨by have:=hc2 0 (by omega);rw [Nat.add_zero] at this;exact this,hc2 1 (by omega),hc2 2 (by omega)⟩
end
theorem wides_app (N:Int):∀ (l m:List Ned),wides N (l ++ m)=wides N l ++ wides N m
 | [],m=>rfl
 |n :: l,m=>by
  simp only [List.cons_append,wides]
  split
  ·exact wides_app N l m
  ·split
   ·rw [wides_app N l m];rfl
   ·exact wides_app N l m
theorem wides_len (N:Int):∀ (l:List Ned),(wides N l).length≤l.length
 | []=>Nat.le_refl _
 |n :: l=>by
  simp only [wides,List.length_cons]
  have:=wides_len N l
  split
  ·omega
  ·split
   ·rw [List.length_cons];omega
   ·omega
theorem segS_mem {L s:List Int} {a:Nat} {x:Int} (h:x ∈ segS L a s):x ∈ L∨x ∈ s:=by
 unfold segS at h
 rcases List.mem_append.1 h with h|h
 ·rcases List.mem_append.1 h with h|h
  ·exact .inl (List.mem_of_mem_take h)
  ·exact .inr h
 ·exact .inl (List.mem_of_mem_drop h)
theorem spreads_drop {items:List Itm} {G:Int} {l:List Ned} {b:Nat} {n:Ned} {h:List Int} (hn:l[b]?=some n) :
  spreads items G (l.drop b) h=spreads items G (l.drop (b+1)) (segS h n.a.toNat (spreadS ((items.drop n.a.toNat).take n.s.toNat) ((h.drop n.a.toNat).take n.s.toNat) n.z G)):=by
 obtain⟨h1,rfl⟩:=List.getElem?_eq_some_iff.1 hn
 rw [List.drop_eq_getElem_cons h1];rfl
theorem spread_ok {items:List Itm} (hf:∀ it ∈ items,FItm it) {h:List Int} (hl:h.length=items.length) {B:Int} (hb:∀ x ∈ h,0≤x∧x≤B) (hB:0≤B) {a s:Nat} (has:a+s≤items.length) (hs:1≤s) {z G:Int} (hz:0≤z∧z≤4096) (hG:0≤G) :
  (segS h a (spreadS ((items.drop a).take s) ((h.drop a).take s) z G)).length=items.length∧∀ x ∈ segS h a (spreadS ((items.drop a).take s) ((h.drop a).take s) z G),0≤x∧x≤B+4096:=by
 have h1:((h.drop a).take s).length=s:=by rw [List.length_take,List.length_drop];omega
 have h2:((items.drop a).take s).length=s:=by rw [List.length_take,List.length_drop];omega
 refine⟨by rw [segS_len (by rw [spreadS_len,h1];omega),hl],fun x hx=>?_⟩
 rcases segS_mem hx with hx|hx
 ·have:=hb x hx;omega
 ·exact spreadS_range (fun it hit=>hf it (List.mem_of_mem_drop (List.mem_of_mem_take hit))) (by rw [h1,h2]) (fun y hy=>hb y (List.mem_of_mem_drop (List.mem_of_mem_take hy))) hz hG (by intro e;rw [e] at h2;simp at h2;omega) x hx
def mixF (l:List Itm) (f:List Itm) (b:Nat):List Itm:=f.take b ++ l.drop b
theorem mixF_get {l f:List Itm} {b:Nat} {x:Itm} (hl:f.length=l.length) (h:l[b]?=some x):(mixF l f b)[b]?=some x:=by
 have h1:=(List.getElem?_eq_some_iff.1 h).1
 unfold mixF
 rw [List.getElem?_append_right (by rw [List.length_take];omega),List.length_take,Nat.min_eq_left (by omega),Nat.sub_self,List.getElem?_drop,Nat.add_zero]
 exact h
theorem mixF_set {l f:List Itm} {b:Nat} {y:Itm} (hl:f.length=l.length) (h:f[b]?=some y):(mixF l f b).set b y=mixF l f (b+1):=by
 obtain⟨h1,rfl⟩:=List.getElem?_eq_some_iff.1 h
 unfold mixF
 have hk:(f.take b).length=b:=by rw [List.length_take];omega
 rw [List.set_append_right _ _ (by omega),hk,Nat.sub_self,List.drop_eq_getElem_cons (show b<l.length by omega),List.set_cons_zero,List.take_succ_eq_append_getElem h1,List.append_assoc]
 rfl
theorem mixF_len {l f:List Itm} {b:Nat} (hl:f.length=l.length):(mixF l f b).length=l.length:=by unfold mixF;rw [List.length_append,List.length_take,List.length_drop];omega
theorem needS_none {N:Int} {n:Ned} (h:n.a<0∨N≤n.a∨n.s<1):needS N n=none:=by unfold needS;rw [if_pos h]
theorem needS_some {N:Int} {n:Ned} (h:¬ (n.a<0∨N≤n.a∨n.s<1)):needS N n=some ⟨n.a,min n.s (N - n.a),within3S n.z 0 4096⟩:=by unfold needS;rw [if_neg h]
theorem wides_ok {N:Int} (hN:N≤4096):∀ (l:List Ned),∀ x ∈ wides N l,0≤x.a∧2≤x.s∧x.a+x.s≤N∧0≤x.z∧x.z≤4096
 | [],x,h=>by simp [wides] at h
 |n :: l,x,h=>by
  simp only [wides] at h
  by_cases hn:n.a<0∨N≤n.a∨n.s<1
  ·rw [needS_none hn] at h;exact wides_ok hN l x h
  ·rw [needS_some hn] at h
   dsimp only at h
   split at h
   ·rcases List.mem_cons.1 h with rfl|h
    ·dsimp only
     have:0≤within3S n.z 0 4096∧within3S n.z 0 4096≤4096:=by unfold within3S;omega
     omega
    ·exact wides_ok hN l x h
   ·exact wides_ok hN l x h
set_option maxRecDepth 100000 in
set_option maxHeartbeats 16000000 in
theorem tracks_any {w:World} {vi vn:Value} {items:List Itm} {needs:List Ned} (hi:SlT w vi items) (h4:items.length≤4096) (hn:SlN w vn needs) (hn4:needs.length≤4096) (extent gap:Int) :
  Calls Tryz.prog 98 #[vi,vn,.int .i64 extent,.int .i64 gap] w (OutI (tracksG items needs extent gap) w):=by
 obtain⟨N,hN⟩:∃ N,items.length=N:=⟨_,rfl⟩
 obtain⟨M,hM⟩:∃ M,needs.length=M:=⟨_,rfl⟩
 obtain⟨p,c,rfl,_,hnw⟩:=slt_news hi
 obtain⟨pn,cn,rfl,_,hnx⟩:=hn
 have HNX:=zH hnx
 obtain⟨G,hG⟩:∃ G,within3S gap 0 4096=G:=⟨_,rfl⟩
 obtain⟨X,hX⟩:∃ X,within3S extent 0 4096=X:=⟨_,rfl⟩
 have hGr:0≤G∧G≤4096:=by rw [← hG];unfold within3S;omega
 have HR:Hid (tracksG items needs extent gap=sizesS (List.zipWith fixI (items.map normI) (hasAll (items.map normI) needs G)) X G):=zH (by unfold tracksG;rw [if_neg (by omega),hG,hX])
 have HG:=zH hG
 have HXX:=zH hX
 have HNL:=zH hN
 have HML:=zH hM
 have HNF:Hid ((flatC Itm.cells items).length=N*5):=zH (by rw [flatC_len Itm.cells_len,hN])
 rw [hN] at hnw h4 ⊢
 rw [hM] at hn4 ⊢
 have HNW:Hid (0<N→∃ gx ox,p=some ⟨gx,ox,none⟩∧∀ j u,(flatC Itm.cells items)[j]?=some u→(w.alloc (.cells #[] 40)).cell? ⟨gx,ox+j,none⟩=some u):=zH fun h0=>by
  obtain⟨gx,ox,e,hg,hc⟩:=hnw h0
  exact⟨gx,ox,e,fun j u hj=>by rw [World.cell?_alloc_lt _ _ ⟨gx,ox+j,none⟩ hg];exact hc j u hj⟩
 obtain⟨H0,hH0⟩:∃ H0,(items.map normI).map hasS=H0:=⟨_,rfl⟩
 have hH0l:H0.length=N:=by rw [← hH0,List.length_map,List.length_map,hN]
 have HHX:Hid (∀ (k:Nat) x,items[k]?=some x→H0[k]?=some (hasS (normI x))):=zH fun k x hx=>by rw [← hH0,List.getElem?_map,List.getElem?_map,hx];rfl
 have HHL:=zH hH0l
 have HH0:=zH hH0
 have hmk:=mk_ints N (by omega)
 have e4:decide ((N:Int) > 4096)=false:=decide_eq_false (by omega)
 clear hi hnw hnx hG hX hN hM hH0 hH0l
 go_enter Tryz.func98,Tryz.ntmps98
 go_wp2_with (first|(go_at_call 132;((with_reducible refine(within3_any _ _ _ _).mono ?_);rintro e1' w2 ⟨rfl,hw2⟩;obtain rfl:=hw2.symm))|((with_reducible apply wpList_append_all elT (news:=flatC Itm.cells items));exact rfl;exact rfl;exact rfl;exact HNW.out;exact HNF.out;exact one_items _;omega;intro v9 w9 hrow9 hnn9 hb9 K9 hK9;obtain⟨ib,cap,rfl,hcap9,hro9⟩:=RowT.of_owns hrow9 HNL.out hnn9;have HRO:=zH hro9;have HB9:=zH hb9;have hib9:=hro9.lt;have hib0:=hro9.low;clear hrow9 hnn9 hb9 hro9))
 rw [HG.out]
 have HMK:=zH (ArrI.made w9 N)
 have HT0:Hid (TrI w ib cap w9.heap.size (mixI items 0) (part H0 0) (w9.alloc (.cells (madeCells #[.int .i64 0] N) 3))):=zH ⟨Below.alloc HB9.out HB9.out.size _,by rw [mixI_zero];exact HRO.out.below (Below.alloc (Below.refl _ _) (Nat.le_refl _) _),by rw [part_zero,HHL.out];exact HMK.out,HB9.out.size,by omega⟩
 have hw9:w.heap.size≤w9.heap.size:=HB9.out.size
 generalize w9.heap.size=hb at HT0 HMK hw9 hib9 ⊢
 clear HMK HRO HB9 hmk HNW HNF
 go_loopw [32] (fun i wr=>∃ a:Nat,i=.int .i64 a∧a≤N∧TrI w ib cap hb (mixI items a) (part H0 a) wr) (fun i _=>N - (intOf i).toNat)
 case atStart=>exact⟨0,rfl,by omega,HT0.out⟩
 case round=>
  obtain⟨a,rfl,ha,hT⟩:=hrel
  have HT:=zH hT
  have l1:=hT.it.lt
  have l2:=hT.ha.lt
  clear hT HT0
  by_cases hlt:a<N
  ·have hltI:(a:Int)<(N:Int):=by omega
   obtain⟨x,hx⟩:∃ x,items[a]?=some x:=⟨_,List.getElem?_eq_getElem (by rw [HNL.out];exact hlt)⟩
   obtain⟨c0,c1,c2,c3,c4⟩:=HT.out.it.at' a x (mixI_get hx)
   have HQ:Hid (TrI w ib cap hb (mixI items a) (part H0 a) (wr.alloc (.cells #[.int .i8 x.k,.int .i64 x.n,.int .i64 x.d,.int .i64 x.mn,.int .i64 x.mx] 40))∧Arr (wr.alloc (.cells #[.int .i8 x.k,.int .i64 x.n,.int .i64 x.d,.int .i64 x.mn,.int .i64 x.mx] 40)) wr.heap.size x.cells 40) :=
    zH ⟨HT.out.alloc _,by unfold Arr;rw [heap_alloc_new];rfl⟩
   have HMS:=zH (mixI_set hx)
   have HHA:=zH (HHX.out a x hx)
   have HGT:=zH (mixI_get hx)
   have HPG:Hid ((part H0 a)[a]?=some 0):=zH (part_get (by rw [HHL.out];exact hlt))
   have HML2:Hid (a<(mixI items a).length):=zH (by rw [mixI_len,HNL.out];exact hlt)
   have RR:∀ W,Calls Tryz.prog 91 #[.agg #[.int .i8 x.k,.int .i64 x.n,.int .i64 x.d,.int .i64 x.mn,.int .i64 x.mx]] W (VBel (.bool (decide x.ok)) W):=fun W=>right_any _ _ _ _ _ W
   clear hx
   by_cases hok:x.ok
   ·simp only [hok,decide_true] at RR
    have HRR:=zH RR
    have HMN:Hid (mixI items a=mixI items (a+1)):=zH (by rw [← HMS.out,normI_ok hok,set_same HGT.out])
    have hha:=HHA.out
    rw [normI_ok hok] at hha
    have HHB:=zH hha
    clear RR hha hok
    by_cases hk:x.k=1
    ·as_aux_lemma=>
     have hkb:(x.k == 1)=true:=by rw [beq_iff_eq];exact hk
     have HV:Hid (H0[a]?=some (intoS x.n x)):=zH (by rw [HHB.out];unfold hasS;rw [if_pos hk])
     have HBR:=zH (fun W=>brought_any x.n x W)
     unfold Itm.val at HBR
     clear hk
     go_wp2_with (first|(go_at_call 91;((with_reducible refine(HRR.out _).mono ?_);rintro e1' w2 ⟨rfl,hb2⟩;have HT2:=zH (HQ.out.1.below hb2);have HQ2:Hid (Arr w2 wr.heap.size x.cells 40):=zH (Arr.below HQ.out.2 hb2);have k0:=HQ2.out.cell (j:=0) rfl;have k1:=HQ2.out.cell (j:=1) rfl;have k2:=HQ2.out.cell (j:=2) rfl;have k3:=HQ2.out.cell (j:=3) rfl;have k4:=HQ2.out.cell (j:=4) rfl;have lq:=HQ2.out.lt;have m1:=HT2.out.it.lt;have m2:=HT2.out.ha.lt;have hc:=HT2.out.ha.at HPG.out;have hf:=HT2.out.ha.froz a;obtain⟨z0,z1,z2,z3,z4⟩:=HT2.out.it.at' a x HGT.out;have f0:=HT2.out.it.froz (a*5);have f1:=HT2.out.it.froz (a*5+1);have f2:=HT2.out.it.froz (a*5+2);have f3:=HT2.out.it.froz (a*5+3);have f4:=HT2.out.it.froz (a*5+4);clear hb2))|(go_at_call 133;((with_reducible refine(HBR.out _).mono ?_);rintro e1' w3 ⟨rfl,hb3⟩;have HT3:=zH (HT2.out.below hb3);have hc3:=HT3.out.ha.at HPG.out;have hf3:=HT3.out.ha.froz a;have m3:=HT3.out.ha.lt;clear hb3)))
     go_roundw
     case rel=>exact⟨a+1,by first|rfl|go_num,by omega,by rw [← HMN.out];exact(HT3.out.put a _).toH (part_set HV.out)⟩
     case measure=>simp [intOf]<;>omega
    ·as_aux_lemma=>
     have hkb:(x.k == 1)=false:=by rw [beq_eq_false_iff_ne];exact hk
     have HV:Hid (H0[a]?=some x.mn):=zH (by rw [HHB.out];unfold hasS;rw [if_neg hk])
     clear hk
     go_wp2_with (go_at_call 91;((with_reducible refine(HRR.out _).mono ?_);rintro e1' w2 ⟨rfl,hb2⟩;have HT2:=zH (HQ.out.1.below hb2);have HQ2:Hid (Arr w2 wr.heap.size x.cells 40):=zH (Arr.below HQ.out.2 hb2);have k0:=HQ2.out.cell (j:=0) rfl;have k1:=HQ2.out.cell (j:=1) rfl;have k2:=HQ2.out.cell (j:=2) rfl;have k3:=HQ2.out.cell (j:=3) rfl;have k4:=HQ2.out.cell (j:=4) rfl;have lq:=HQ2.out.lt;have m1:=HT2.out.it.lt;have m2:=HT2.out.ha.lt;have hc:=HT2.out.ha.at HPG.out;have hf:=HT2.out.ha.froz a;obtain⟨z0,z1,z2,z3,z4⟩:=HT2.out.it.at' a x HGT.out;have f0:=HT2.out.it.froz (a*5);have f1:=HT2.out.it.froz (a*5+1);have f2:=HT2.out.it.froz (a*5+2);have f3:=HT2.out.it.froz (a*5+3);have f4:=HT2.out.it.froz (a*5+4);clear hb2))
     go_roundw
     case rel=>exact⟨a+1,by first|rfl|go_num,by omega,by rw [← HMN.out];exact(HT2.out.put a _).toH (part_set HV.out)⟩
     case measure=>simp [intOf]<;>omega
   ·as_aux_lemma=>
    simp only [hok,decide_false] at RR
    have HRR:=zH RR
    have hms:=HMS.out
    have hha:=HHA.out
    rw [normI_no hok] at hms hha
    have HMN:=zH hms
    have HV:Hid (H0[a]?=some 0):=zH (by rw [hha];rfl)
    clear RR hha hok hms
    go_wp2_with (go_at_call 91;((with_reducible refine(HRR.out _).mono ?_);rintro e1' w2 ⟨rfl,hb2⟩;have HT2:=zH (HQ.out.1.below hb2);have HQ2:Hid (Arr w2 wr.heap.size x.cells 40):=zH (Arr.below HQ.out.2 hb2);have k0:=HQ2.out.cell (j:=0) rfl;have k1:=HQ2.out.cell (j:=1) rfl;have k2:=HQ2.out.cell (j:=2) rfl;have k3:=HQ2.out.cell (j:=3) rfl;have k4:=HQ2.out.cell (j:=4) rfl;have lq:=HQ2.out.lt;have m1:=HT2.out.it.lt;have m2:=HT2.out.ha.lt;have hc:=HT2.out.ha.at HPG.out;have hf:=HT2.out.ha.froz a;obtain⟨z0,z1,z2,z3,z4⟩:=HT2.out.it.at' a x HGT.out;have f0:=HT2.out.it.froz (a*5);have f1:=HT2.out.it.froz (a*5+1);have f2:=HT2.out.it.froz (a*5+2);have f3:=HT2.out.it.froz (a*5+3);have f4:=HT2.out.it.froz (a*5+4);clear hb2))
    go_roundw
    case rel=>exact⟨a+1,by first|rfl|go_num,by omega,by
     have h1:=(HT2.out.item HML2.out ⟨1,0,0,0,0⟩).toI HMN.out
     exact h1.toH (by rw [← part_set HV.out,set_same HPG.out])⟩
    case measure=>simp [intOf]<;>omega
  ·obtain rfl:a=N:=by omega
   have hltI:decide ((a:Int)<(a:Int))=false:=decide_eq_false (by omega)
   obtain⟨nI,hnI⟩:∃ nI,items.map normI=nI:=⟨_,rfl⟩
   have hm1:mixI items a=nI:=by rw [mixI_full HNL.out.symm,hnI]
   have hp1:part H0 a=H0:=part_full2 HHL.out.symm
   have hT:=HT.out
   rw [hm1,hp1] at hT
   have HT2:Hid (T2 w ib cap hb nI H0 (.slice none 0 0) [] wr):=zH ⟨hT,World.ownsRow_nil _ _ _ _,hib9⟩
   have HFI:Hid (∀ it ∈ nI,FItm it):=zH fun it h=>by
    rw [← hnI] at h
    obtain⟨z,_,rfl⟩:=List.mem_map.1 h
    exact normI_fitm z
   have HIL:Hid (nI.length=a):=zH (by rw [← hnI,List.length_map,HNL.out])
   have HHB:Hid (∀ x ∈ H0,0≤x∧x≤4096):=zH fun x hx=>by
    rw [← HH0.out] at hx
    obtain⟨y,hy,rfl⟩:=List.mem_map.1 hx
    obtain⟨z,_,rfl⟩:=List.mem_map.1 hy
    have hf:=normI_fitm z
    have hn:=(normI_n z).2
    unfold hasS
    split
    ·rename_i h1
     have:=intoS_range hf (hn (by omega) (by omega)).2
     have:=hf.1
     omega
    ·exact⟨hf.1,hf.2.1⟩
   obtain⟨H1,hH1⟩:∃ H1,ones1 nI needs H0=H1:=⟨_,rfl⟩
   have HR2:Hid (tracksG items needs extent gap=sizesS (List.zipWith fixI nI (spreads nI G (stableS ltN (wides a needs)) H1)) X G):=zH (by rw [HR.out];unfold hasAll;rw [HH0.out,hnI,HIL.out,hH1])
   have HH1:=zH hH1
   clear hm1 hp1 hT hnI hH1 HT HR HHX HH0
   go_wp2
   go_loopw [12,63] (fun ve i wr=>∃ (b:Nat) (h:List Int) (vw:Value),i=.int .i64 b∧b≤M∧ve=vw∧T2 w ib cap hb nI h vw (wides a (needs.take b)) wr∧h.length=a∧(∀ x ∈ h,0≤x∧x≤4096)∧ones1 nI (needs.drop b) h=H1) (fun _ i _=>M - (intOf i).toNat)
   case atStart=>exact⟨0,H0,_,rfl,by omega,rfl,HT2.out,HHL.out,HHB.out,HH1.out⟩
   case round=>
    obtain⟨b,h,vw,rfl,hbM,hve,hT,hhl,hhb,hones⟩:=hrel
    obtain rfl:=hve.symm
    have HT3:=zH hT
    have HHL3:=zH hhl
    have HHB3:=zH hhb
    have l3:=hT.t.it.lt
    have l4:=hT.t.ha.lt
    clear hT HT2 hhl hhb
    by_cases hlt2:b<M
    ·have hlt2I:(b:Int)<(M:Int):=by omega
     obtain⟨n,hnb⟩:∃ n,needs[b]?=some n:=⟨_,List.getElem?_eq_getElem (by rw [HML.out];exact hlt2)⟩
     obtain⟨gn,on,rfl,hgn,hat⟩:=HNX.out b n hnb
     obtain⟨d0,d1,d2⟩:=hat.below HT3.out.t.g hgn
     have lgn:gn<wr.heap.size:=Nat.lt_of_lt_of_le hgn HT3.out.t.g.size
     obtain⟨hb1,hb2⟩:=List.getElem?_eq_some_iff.1 hnb
     have HW1:Hid (wides a (needs.take (b+1))=wides a (needs.take b) ++ wides a [n]):=zH (by rw [List.take_succ_eq_append_getElem hb1,wides_app,hb2])
     have hon:ones1 nI (n :: needs.drop (b+1)) h=H1:=by rw [← hones,List.drop_eq_getElem_cons hb1,hb2]
     have hwl:(wides a (needs.take b)).length≤4096:=Nat.le_trans (wides_len _ _) (by rw [List.length_take];omega)
     have HWL:=zH hwl
     generalize wides a (needs.take b)=ws at *
     have HQ:Hid (T2 w ib cap hb nI h vw ws (wr.alloc (.cells #[.int .i64 n.a,.int .i64 n.s,.int .i64 n.z] 137))∧Arr (wr.alloc (.cells #[.int .i64 n.a,.int .i64 n.s,.int .i64 n.z] 137)) wr.heap.size [.int .i64 n.a,.int .i64 n.s,.int .i64 n.z] 137) :=
      zH ⟨HT3.out.below (Below.alloc (Below.refl _ _) (Nat.le_refl _) _),by unfold Arr;rw [heap_alloc_new]⟩
     have hvq:vw.ownBlock ≠ some wr.heap.size:=fun e=>by have:=(HT3.out.r.lt _ e).2;omega
     have HVQ:=zH hvq
     clear hnb hat hones hb1 hb2 hwl hvq
     by_cases hnn:n.a<0∨(a:Int)≤n.a∨n.s<1
     ·have hN:=needS_none hnn
      have HO1:Hid (ones1 nI (needs.drop (b+1)) h=H1):=zH (by rw [← hon];simp only [ones1];rw [HIL.out,hN])
      have HW2:Hid (wides a (needs.take (b+1))=ws):=zH (by rw [HW1.out];simp [wides,hN])
      clear hon hN
      by_cases hn1:n.a<0
      ·as_aux_lemma=>
       have e1:decide (n.a<0)=true:=decide_eq_true hn1
       clear hnn
       go_wp2
       go_roundw
       case rel=>exact⟨b+1,h,vw,by first|rfl|go_num,by omega,rfl,HQ.out.1.toW HW2.out.symm,HHL3.out,HHB3.out,HO1.out⟩
       case measure=>simp [intOf]<;>omega
      ·have e1:decide (n.a<0)=false:=decide_eq_false hn1
       by_cases hn2:(a:Int)≤n.a
       ·as_aux_lemma=>
        have e2:decide (n.a ≥ (a:Int))=true:=decide_eq_true hn2
        clear hnn
        go_wp2
        go_roundw
        case rel=>exact⟨b+1,h,vw,by first|rfl|go_num,by omega,rfl,HQ.out.1.toW HW2.out.symm,HHL3.out,HHB3.out,HO1.out⟩
        case measure=>simp [intOf]<;>omega
       ·as_aux_lemma=>
        have e2:decide (n.a ≥ (a:Int))=false:=decide_eq_false (by omega)
        have e3:decide (n.s<1)=true:=decide_eq_true (by omega)
        clear hnn
        go_wp2
        go_roundw
        case rel=>exact⟨b+1,h,vw,by first|rfl|go_num,by omega,rfl,HQ.out.1.toW HW2.out.symm,HHL3.out,HHB3.out,HO1.out⟩
        case measure=>simp [intOf]<;>omega
     ·have hN:=needS_some hnn
      have e1:decide (n.a<0)=false:=decide_eq_false (by omega)
      have e2:decide (n.a ≥ (a:Int))=false:=decide_eq_false (by omega)
      have e3:decide (n.s<1)=false:=decide_eq_false (by omega)
      obtain⟨na,ns,nz⟩:=n
      dsimp only at hN e1 e2 e3 d0 d1 d2 HQ hnn
      obtain⟨A,rfl⟩:∃ A:Nat,na=A:=⟨na.toNat,by omega⟩
      obtain⟨S,hS⟩:∃ S,min ns ((a:Int) - (A:Int))=S:=⟨_,rfl⟩
      obtain⟨z,hz⟩:∃ z,within3S nz 0 4096=z:=⟨_,rfl⟩
      rw [hS,hz] at hN
      have hzr:0≤z∧z≤4096:=by rw [← hz];unfold within3S;omega
      have hAa:A<a:=by omega
      have hSr:1≤S∧S≤(a:Int) - A:=by omega
      have hHS:=zH hS
      have hHZ:=zH hz
      have hHN:=zH hN
      have hHon:=zH hon
      clear hS hz hN hon hnn
      go_upto_region 21 with (fail)
      go_upto_region 23 with (go_at_call 132;((with_reducible refine(within3_any _ _ _ _).mono ?_);rintro e1' w2 ⟨rfl,hw2⟩;obtain rfl:=hw2.symm))
      rw [hHZ.out,hHS.out]
      have HQ3:Hid (T2 w ib cap hb nI h vw ws (wr.alloc (.cells #[.int .i64 (A:Int),.int .i64 S,.int .i64 z] 137))∧Arr (wr.alloc (.cells #[.int .i64 (A:Int),.int .i64 S,.int .i64 z] 137)) wr.heap.size [.int .i64 (A:Int),.int .i64 S,.int .i64 z] 137) :=
       zH ⟨HT3.out.below (Below.alloc (Below.refl _ _) (Nat.le_refl _) _),by unfold Arr;rw [heap_alloc_new]⟩
      clear HQ d0 d1 d2 hHS hHZ
      by_cases hw1:1<S
      ·have HO1:Hid (ones1 nI (needs.drop (b+1)) h=H1):=zH (by rw [← hHon.out];simp only [ones1];rw [HIL.out,hHN.out];simp only [hw1,if_true])
       have HW2:Hid (wides a (needs.take (b+1))=ws ++ [⟨A,S,z⟩]):=zH (by rw [HW1.out];simp only [wides,hHN.out,hw1,if_true])
       clear hHon HW1 hHN
       go_wp2_with ((with_reducible apply wpList_append_new elN (B:=hb+1) (n:=ws.length) (xs:=flatC Ned.cells ws) (nw:=#[.int .i64 (A:Int),.int .i64 S,.int .i64 z]));exact rfl;exact rfl;(first|exact rfl|simp);exact HQ3.out.1.r;(have:=HQ3.out.1.t.ha.lt;omega);(have:=HWL.out;omega);exact rfl;(intro u hu;simp at hu;rcases hu with rfl|rfl|rfl<;>rfl);intro v9 w9 hrow9 hgr9 hpl9 K9 hK9;have HT9:=zH ((HQ3.out.1.below (Below.alloc (Below.refl _ _) (Nat.le_refl _) _)).app (s:=⟨A,S,z⟩) hrow9 hgr9);clear hrow9 hgr9 hpl9)
       go_roundw
       case rel=>exact⟨b+1,h,v9,by first|rfl|go_num,by omega,rfl,HT9.out.toW HW2.out.symm,HHL3.out,HHB3.out,HO1.out⟩
       case measure=>simp [intOf]<;>omega
      ·have hS1:decide (S > 1)=false:=decide_eq_false (by omega)
       have HW2:Hid (wides a (needs.take (b+1))=ws):=zH (by rw [HW1.out];simp only [wides,hHN.out,hw1,if_false,List.append_nil])
       obtain⟨y,hy⟩:∃ y,nI[A]?=some y:=⟨_,List.getElem?_eq_getElem (by rw [HIL.out];exact hAa)⟩
       obtain⟨u,hu⟩:∃ u,h[A]?=some u:=⟨_,List.getElem?_eq_getElem (by rw [HHL3.out];exact hAa)⟩
       have hur:=HHB3.out u (List.mem_of_getElem? hu)
       have hon1:(if y.k=0 then ones1 nI (needs.drop (b+1)) (h.set A (max u z)) else ones1 nI (needs.drop (b+1)) h)=H1:=by
        rw [← hHon.out];simp only [ones1];rw [HIL.out,hHN.out];simp only [hw1,if_false,Int.toNat_natCast,gd,hy,hu,Option.getD_some]
       obtain⟨k0,k1,k2,k3,k4⟩:=HQ3.out.1.t.it.at' A y hy
       have c0:=HQ3.out.1.t.ha.at hu
       have f0:=HQ3.out.1.t.ha.froz A
       have l5:=HQ3.out.1.t.it.lt
       have l6:=HQ3.out.1.t.ha.lt
       have HHon1:=zH hon1
       clear hon1 hHon hHN HW1 hy hu hw1 k1 k2 k3 k4
       by_cases hyk:y.k=0
       ·have hykb:(y.k == 0)=true:=by rw [beq_iff_eq];exact hyk
        have HO1:Hid (ones1 nI (needs.drop (b+1)) (h.set A (max u z))=H1):=zH (by rw [← HHon1.out,if_pos hyk])
        clear hyk HHon1
        go_upto_region 26 with (fail)
        go_region
        all_goals
         go_wp2
         go_roundw
         case rel=>exact⟨b+1,h.set A (max u z),vw,by first|rfl|go_num,by omega,rfl,by first|exact(HQ3.out.1.put A (max u z)).toW HW2.out.symm|exact((HT3.out.put A (max u z)).below (Below.drew (Below.alloc (Below.refl _ _) (Nat.le_refl _) _))).toW HW2.out.symm,by rw [List.length_set];exact HHL3.out,fun x hx=>by
          rcases List.mem_or_eq_of_mem_set hx with hx|rfl
          ·exact HHB3.out x hx
          ·omega,HO1.out⟩
         case measure=>simp [intOf]<;>omega
       ·have hykb:(y.k == 0)=false:=by rw [beq_eq_false_iff_ne];exact hyk
        have HO1:Hid (ones1 nI (needs.drop (b+1)) h=H1):=zH (by rw [← HHon1.out,if_neg hyk])
        clear hyk HHon1
        go_wp2
        go_roundw
        case rel=>exact⟨b+1,h,vw,by first|rfl|go_num,by omega,rfl,HQ3.out.1.toW HW2.out.symm,HHL3.out,HHB3.out,HO1.out⟩
        case measure=>simp [intOf]<;>omega
    ·obtain rfl:b=M:=by omega
     have hlt2I:decide ((b:Int)<(b:Int))=false:=decide_eq_false (by omega)
     have hh:h=H1:=by rw [← hones,List.drop_of_length_le (by rw [HML.out];exact Nat.le_refl _)];rfl
     subst hh
     have hT4:=HT3.out
     rw [List.take_of_length_le (by rw [HML.out];exact Nat.le_refl _)] at hT4
     have hwok:=wides_ok (N:=(a:Int)) (by omega) needs
     have hwl:(wides a needs).length≤b:=Nat.le_trans (wides_len _ _) (by rw [HML.out];exact Nat.le_refl _)
     obtain⟨WS,hWS⟩:∃ WS,wides a needs=WS:=⟨_,rfl⟩
     rw [hWS] at hT4 hwok hwl
     obtain⟨SS,hSS⟩:∃ SS,stableS ltN WS=SS:=⟨_,rfl⟩
     have hsort:=sort_row hT4 (fun x hx=>by have:=hwok x hx;omega) (by omega)
     have hkin:=kin_stable ltN WS
     rw [hSS] at hsort hkin
     have hsok:∀ x ∈ SS,0≤x.a∧2≤x.s∧x.a+x.s≤(a:Int)∧0≤x.z∧x.z≤4096:=fun x hx=>hwok x (hkin.2 x hx)
     obtain⟨K,hK⟩:∃ K,SS.length=K:=⟨_,rfl⟩
     have hKl:K≤4096:=by have:=hkin.1;omega
     obtain⟨H2,hH2⟩:∃ H2,spreads nI G SS h=H2:=⟨_,rfl⟩
     have HR3:Hid (tracksG items needs extent gap=sizesS (List.zipWith fixI nI H2) X G):=zH (by rw [HR2.out,hWS,hSS,hH2])
     have HSORT:=zH hsort
     have HSOK:=zH hsok
     have HKL:=zH hK
     have HH2:=zH hH2
     clear hones HT3 hT4 hwok hwl hWS hSS hsort hkin hsok hK hH2 HR2 HH1
     go_upto_region 29 with (go_at_call 134;((with_reducible refine(HSORT.out).mono ?_);rintro e1' w3 ⟨rfl,hT5⟩))
     obtain⟨p8,c8,hvw⟩:=hT5.form
     subst hvw
     rw [HKL.out] at hT5 ⊢
     have HT5:=zH hT5
     clear hT5 HSORT
     go_wp2
     go_loopw [126] (fun i wr=>∃ (b:Nat) (h:List Int),i=.int .i64 b∧b≤K∧T2 w ib cap hb nI h (.slice p8 K c8) SS wr∧h.length=a∧(∀ x ∈ h,0≤x∧x≤4096+4096*(b:Int))∧spreads nI G (SS.drop b) h=H2) (fun i _=>K - (intOf i).toNat)
     case atStart=>exact⟨0,h,rfl,by omega,HT5.out,HHL3.out,fun x hx=>by have:=HHB3.out x hx;omega,HH2.out⟩
     case round=>
      obtain⟨b2,h2,rfl,hb2,hT,hhl,hhb,hsp⟩:=hrel
      have HT6:=zH hT
      have HHL6:=zH hhl
      have HHB6:=zH hhb
      have l7:=hT.t.it.lt
      have l8:=hT.t.ha.lt
      clear hT HT5 hhl hhb
      by_cases hlt3:b2<K
      ·have hlt3I:(b2:Int)<(K:Int):=by omega
       obtain⟨m,hm⟩:∃ m,SS[b2]?=some m:=⟨_,List.getElem?_eq_getElem (by rw [HKL.out];exact hlt3)⟩
       obtain⟨gm,rfl,hgm,d0,d1,d2⟩:=HT6.out.ned hm
       have hmo:=HSOK.out m (List.mem_of_getElem? hm)
       rw [spreads_drop hm] at hsp
       obtain⟨ma,ms,mz⟩:=m
       dsimp only at hmo d0 d1 d2 hsp
       obtain⟨A,rfl⟩:∃ A:Nat,ma=A:=⟨ma.toNat,by omega⟩
       obtain⟨S,rfl⟩:∃ S:Nat,ms=S:=⟨ms.toNat,by omega⟩
       rw [Int.toNat_natCast,Int.toNat_natCast] at hsp
       have hAS:A+S≤a:=by omega
       have hS1:1≤S:=by omega
       have hok:=spread_ok HFI.out (h:=h2) (by rw [HHL6.out,HIL.out]) HHB6.out (by omega) (a:=A) (s:=S) (by rw [HIL.out];exact hAS) hS1 (z:=mz) (G:=G) ⟨hmo.2.2.2.1,hmo.2.2.2.2⟩ hGr.1
       have HD0:T2 w ib cap hb nI h2 (.slice (some ⟨gm,0,none⟩) K c8) SS (wr.alloc (.cells #[.int .i64 (A:Int),.int .i64 (S:Int),.int .i64 mz] 137)):=HT6.out.below (Below.alloc (Below.refl _ _) (Nat.le_refl _) _)
       have HQ0:Arr (wr.alloc (.cells #[.int .i64 (A:Int),.int .i64 (S:Int),.int .i64 mz] 137)) wr.heap.size [.int .i64 (A:Int),.int .i64 (S:Int),.int .i64 mz] 137:=by unfold Arr;rw [heap_alloc_new]
       obtain⟨W1,hW1⟩:∃ W1,wr.alloc (.cells #[.int .i64 (A:Int),.int .i64 (S:Int),.int .i64 mz] 137)=W1:=⟨_,rfl⟩
       have HW1:=zH hW1
       rw [hW1] at HD0 HQ0
       have HD:Hid (T2 w ib cap hb nI h2 (.slice (some ⟨gm,0,none⟩) K c8) SS W1.drew):=zH (HD0.below (Below.drew (Below.refl _ _)))
       have HQ0':=zH HQ0
       have HSP:=zH (fun c1 c2=>spread_any (l:=nI) (L:=h2) (fun i x hx=>HD.out.t.it.at' i x hx) HD.out.t.ha HD.out.t.it.lt HD.out.t.ne HFI.out A S c1 c2 (by rw [HHL6.out,HIL.out]) (by rw [HIL.out];exact hAS) hS1 (by omega) (by omega) (fun x hx=>by have:=HHB6.out x hx;omega) mz G ⟨hmo.2.2.2.1,hmo.2.2.2.2⟩ hGr)
       obtain⟨L,hL⟩:∃ L,segS h2 A (spreadS ((nI.drop A).take S) ((h2.drop A).take S) mz G)=L:=⟨_,rfl⟩
       rw [hL] at HSP hok hsp
       have HOK:=zH hok
       have HSPP:=zH hsp
       have e5:(A:Int)+(S:Int)≤(a:Int):=by omega
       have e6:(A:Int)+(S:Int)≤(cap:Int):=by omega
       have e7:IntKind.i64.wrap ((A:Int)+(S:Int))=(A:Int)+(S:Int):=IntWalk.i64_in _ (by omega)
       have e8:A+S≤cap:=by omega
       have hsl1:=slice_part 44 40 5 40 _ elT (by kernel_rfl) ib a cap A S e8 hS1
       have hsl2:=slice_part 38 3 1 8 _ elI (by kernel_rfl) hb a a A S hAS hS1
       rw [Nat.mul_one] at hsl2
       clear hm hmo hsp hok hL hW1 HD0 HQ0
       go_upto_region 32 with (fail)
       rw [HW1.out]
       have d3:=HQ0'.out.cell (j:=0) rfl
       have d4:=HQ0'.out.cell (j:=1) rfl
       have d5:=HQ0'.out.cell (j:=2) rfl
       clear d0 d1 d2 HW1
       go_still_tail 21,(by kernel_rfl)
       change wpList _ _ _ _ _ W1.drew
       have HT7:=HD
       go_wp2_with (go_at_call 136;((with_reducible refine(HSP.out _ _).mono ?_);rintro e1' w4 ⟨rfl,hA4,hg4⟩;have HT8:=zH (HT7.out.spread hA4 hg4)))
       go_roundw
       case rel=>exact⟨b2+1,L,by first|rfl|go_num,by omega,HT8.out,by rw [HOK.out.1,HIL.out],fun x hx=>by have:=HOK.out.2 x hx;push_cast;omega,HSPP.out⟩
       case measure=>simp [intOf]<;>omega
      ·obtain rfl:b2=K:=by omega
       have hlt3I:decide ((b2:Int)<(b2:Int))=false:=decide_eq_false (by omega)
       have hh:h2=H2:=by rw [← hsp,List.drop_of_length_le (by rw [HKL.out];exact Nat.le_refl _)];rfl
       subst hh
       have hTT:=HT6.out.t
       obtain⟨FX,hFX⟩:∃ FX,List.zipWith fixI nI h2=FX:=⟨_,rfl⟩
       have hFXl:FX.length=nI.length:=by rw [← hFX,List.length_zipWith,HIL.out,HHL6.out];omega
       have hFXx:∀ (i:Nat) y u,nI[i]?=some y→h2[i]?=some u→FX[i]?=some (fixI y u):=fun i y u hy hu=>by rw [← hFX,List.getElem?_zipWith,hy,hu]
       have HR4:Hid (tracksG items needs extent gap=sizesS FX X G):=zH (by rw [HR3.out,hFX])
       have HFL:=zH hFXl
       have HFX:=zH hFXx
       have HTT:Hid (TrI w ib cap hb (mixF nI FX 0) h2 wr):=zH (hTT.toI (by simp [mixF]))
       clear hsp HT6 hTT hFX hFXl hFXx HR3 HH2
       go_wp2
       go_loopw [155] (fun i wr=>∃ b:Nat,i=.int .i64 b∧b≤a∧TrI w ib cap hb (mixF nI FX b) h2 wr) (fun i _=>a - (intOf i).toNat)
       case atStart=>exact⟨0,rfl,by omega,HTT.out⟩
       case round=>
        obtain⟨b4,rfl,hb4,hT⟩:=hrel
        have HT9:=zH hT
        have l9:=hT.it.lt
        have l10:=hT.ha.lt
        clear hT HTT
        by_cases hlt4:b4<a
        ·have hlt4I:(b4:Int)<(a:Int):=by omega
         obtain⟨y,hy⟩:∃ y,nI[b4]?=some y:=⟨_,List.getElem?_eq_getElem (by rw [HIL.out];exact hlt4)⟩
         obtain⟨u,hu⟩:∃ u,h2[b4]?=some u:=⟨_,List.getElem?_eq_getElem (by rw [HHL6.out];exact hlt4)⟩
         have hfx:=HFX.out b4 y u hy hu
         obtain⟨c0,c1,c2,c3,c4⟩:=HT9.out.it.at' b4 y (mixF_get HFL.out hy)
         have c5:=HT9.out.ha.at hu
         have f0:=HT9.out.it.froz (b4*5)
         have f1:=HT9.out.it.froz (b4*5+1)
         have f2:=HT9.out.it.froz (b4*5+2)
         have f3:=HT9.out.it.froz (b4*5+3)
         have f4:=HT9.out.it.froz (b4*5+4)
         have HGY:=zH (mixF_get (f:=FX) HFL.out hy)
         have HML4:Hid (b4<(mixF nI FX b4).length):=zH (by rw [mixF_len HFL.out,HIL.out];exact hlt4)
         by_cases hyk:y.k=0
         ·have hykb:(y.k == 0)=true:=by rw [beq_iff_eq];exact hyk
          have HST:Hid ((mixF nI FX b4).set b4 ⟨1,min u 4096,0,y.mn,y.mx⟩=mixF nI FX (b4+1)):=zH (mixF_set HFL.out (by rw [hfx];unfold fixI;rw [if_pos hyk]))
          clear hy hu hfx hyk
          go_upto_region 38 with (fail)
          go_region
          all_goals
           go_wp2
           go_roundw
           case rel=>exact⟨b4+1,by first|rfl|go_num,by omega,by rw [← HST.out];exact(HT9.out.item HML4.out ⟨1,min u 4096,0,y.mn,y.mx⟩).below (Below.drew (Below.alloc (Below.refl _ _) (Nat.le_refl _) _))⟩
           case measure=>simp [intOf]<;>omega
         ·have hykb:(y.k == 0)=false:=by rw [beq_eq_false_iff_ne];exact hyk
          have HST:Hid (mixF nI FX b4=mixF nI FX (b4+1)):=zH (by rw [← mixF_set (y:=y) HFL.out (by rw [hfx];unfold fixI;rw [if_neg hyk]),set_same HGY.out])
          clear hy hu hfx hyk
          go_wp2
          go_roundw
          case rel=>exact⟨b4+1,by first|rfl|go_num,by omega,by rw [← HST.out];exact HT9.out.alloc _⟩
          case measure=>simp [intOf]<;>omega
        ·obtain rfl:b4=a:=by omega
         have hlt4I:decide ((b4:Int)<(b4:Int))=false:=decide_eq_false (by omega)
         have hTF:=HT9.out
         have hmf:mixF nI FX b4=FX:=by unfold mixF;rw [List.take_of_length_le (by rw [HFL.out,HIL.out];exact Nat.le_refl _),List.drop_of_length_le (by rw [HIL.out];exact Nat.le_refl _),List.append_nil]
         rw [hmf] at hTF
         have HTF:=zH hTF
         have HSZ:=zH (sizes_all (p:=some ⟨ib,0,none⟩) (n:=b4) (c:=cap) (its:=FX) (W:=wr) (.inr ⟨ib,rfl,hTF.it.lt,fun i x hx=>hTF.it.at' i x hx⟩) (by rw [HFL.out,HIL.out]) h4 X G)
         clear hmf hTF HT9
         go_wp2_with (first|(go_at_call 132;((with_reducible refine(within3_any _ _ _ _).mono ?_);rintro e1' w2 ⟨rfl,hw2⟩;obtain rfl:=hw2.symm;rw [HXX.out]))|(go_at_call 96;((with_reducible refine(HSZ.out).mono ?_);rintro e1' w2 ⟨v,rfl,hb2,hs2⟩)))
         go_ret
         rw [HR4.out]
         exact⟨v,rfl,Below.trans HTF.out.g (hb2.mono HTF.out.g.size),hs2⟩
end Go.Proofs.YtlenbcmgjancmaaGreatDoor
namespace Go.Proofs.YtlenbcmgjancmaaGreatDoor
open Go.RowKit Go.Maps
set_option maxRecDepth 100000 in
theorem text_leastG (w:World) (g o:Nat) (md:Int) (t:ByteArray) (a1:w.cell? ⟨g,o+22,none⟩=some (.string t)) (a2:w.cell? ⟨g,o+23,none⟩=some (.int .i8 md)) (mv:Value) (n:Int) (ht:t.size≤10000000) :
  Calls Tryz.prog 48 #[mv,.pointer (some ⟨g,o,none⟩),.int .i64 n] w (VBel (.int .i64 (leastS md (flowS t.data.toList))) w):=by
 have hg:g<w.heap.size:=World.block_lt_of_cell? w _ a1
 have HL:=zH fun W=>least_any t md ht W
 generalize leastS md (flowS t.data.toList)=r at HL ⊢
 clear ht
 go_enter Tryz.func48,Tryz.ntmps48
 have S0:SW w w:=Below.refl _ _
 go_upto_region 1 with (fail)
 go_region_held3 (fun w'=>w'.cell? ⟨g,o+22,none⟩=some (.string t)∧w'.cell? ⟨g,o+23,none⟩=some (.int .i8 md)∧SW w w')
  ((refine and_cell2 a1 a2 hg hg ?_;(try refine Below.drew ?_);(first|assumption|(refine Below.drew ?_;assumption))))
  (first|(go_at_call 14;((with_reducible refine(HL.out _).mono ?_);rintro e1' w2 ⟨rfl,hb2⟩;have hS2:SW w w2:=SW.below (by(repeat (first|exact Below.refl _ _|assumption|refine below_drewN ?_ _|refine Below.drew ?_|(refine Below.alloc ?_ ?bs _;(case bs=>first|omega|(simp;done)|(simp;omega)))|(refine Below.setCell ?_ ?bs _;(case bs=>first|omega|(simp;done)|(simp;omega)))))) hb2;have hd1:w2.cell? ⟨g,o+22,none⟩=some (.string t):=(and_cell2 a1 a2 hg hg hS2).1;have hd2:w2.cell? ⟨g,o+23,none⟩=some (.int .i8 md):=(and_cell2 a1 a2 hg hg hS2).2.1)))
 all_goals
  go_wp2
  go_ret
  exact⟨rfl,by(repeat (first|exact Below.refl _ _|assumption|refine below_drewN ?_ _|refine Below.drew ?_|(refine Below.alloc ?_ ?bs _;(case bs=>first|omega|(simp;done)|(simp;omega)))|(refine Below.setCell ?_ ?bs _;(case bs=>first|omega|(simp;done)|(simp;omega)))))⟩
set_option maxRecDepth 100000 in
theorem text_mostG (w:World) (g o:Nat) (t:ByteArray) (a1:w.cell? ⟨g,o+22,none⟩=some (.string t)) (mv:Value) (n:Int) (ht:t.size≤10000000) :
  Calls Tryz.prog 49 #[mv,.pointer (some ⟨g,o,none⟩),.int .i64 n] w (VBel (.int .i64 (leastS 2 (flowS t.data.toList))) w):=by
 have hg:g<w.heap.size:=World.block_lt_of_cell? w _ a1
 have HL:=zH fun W=>most_any t ht W
 generalize leastS 2 (flowS t.data.toList)=r at HL ⊢
 clear ht
 go_enter Tryz.func49,Tryz.ntmps49
 go_wp2_with (go_at_call 15;((with_reducible refine(HL.out _).mono ?_);rintro e1' w2 ⟨rfl,hb2⟩))
 go_ret
 exact⟨rfl,hb2⟩
set_option maxRecDepth 100000 in
theorem text_tallG (w:World) (g o:Nat) (md:Int) (t:ByteArray) (a1:w.cell? ⟨g,o+22,none⟩=some (.string t)) (a2:w.cell? ⟨g,o+23,none⟩=some (.int .i8 md)) (mv:Value) (n:Int) (iw:Nat) (hm:md=0∨md=1∨md=2) (hi:iw≤1000000) (ht:t.size≤1000000) :
  Calls Tryz.prog 50 #[mv,.pointer (some ⟨g,o,none⟩),.int .i64 n,.int .i64 iw] w (VBel (.int .i64 (tallS md iw t)) w):=by
 have hg:g<w.heap.size:=World.block_lt_of_cell? w _ a1
 have HL:=zH fun W=>count_all t iw md hm hi ht W
 generalize tallS md iw t=r at HL ⊢
 clear ht hm hi
 go_enter Tryz.func50,Tryz.ntmps50
 have S0:SW w w:=Below.refl _ _
 go_upto_region 1 with (fail)
 go_region_held3 (fun w'=>w'.cell? ⟨g,o+22,none⟩=some (.string t)∧w'.cell? ⟨g,o+23,none⟩=some (.int .i8 md)∧SW w w')
  ((refine and_cell2 a1 a2 hg hg ?_;(try refine Below.drew ?_);(first|assumption|(refine Below.drew ?_;assumption))))
  (first|(go_at_call 13;((with_reducible refine(HL.out _).mono ?_);rintro e1' w2 ⟨rfl,hb2⟩;have hS2:SW w w2:=SW.below (by(repeat (first|exact Below.refl _ _|assumption|refine below_drewN ?_ _|refine Below.drew ?_|(refine Below.alloc ?_ ?bs _;(case bs=>first|omega|(simp;done)|(simp;omega)))|(refine Below.setCell ?_ ?bs _;(case bs=>first|omega|(simp;done)|(simp;omega)))))) hb2;have hd1:w2.cell? ⟨g,o+22,none⟩=some (.string t):=(and_cell2 a1 a2 hg hg hS2).1;have hd2:w2.cell? ⟨g,o+23,none⟩=some (.int .i8 md):=(and_cell2 a1 a2 hg hg hS2).2.1)))
 all_goals
  go_wp2
  go_ret
  exact⟨rfl,by(repeat (first|exact Below.refl _ _|assumption|refine below_drewN ?_ _|refine Below.drew ?_|(refine Below.alloc ?_ ?bs _;(case bs=>first|omega|(simp;done)|(simp;omega)))|(refine Below.setCell ?_ ?bs _;(case bs=>first|omega|(simp;done)|(simp;omega)))))⟩
theorem barS_range (x:ND):0≤barS x∧barS x≤1:=by unfold barS;split<;>omega
theorem bar_ms {p:MP} {w W:World} (h:MS p w W) {n:Nat} {x:ND} (hn:p.ns[n]?=some x):Calls Tryz.prog 62 #[.pointer (some ⟨p.g,n*34,none⟩)] W (VBel (.int .i64 (barS x)) W):=by
 obtain⟨kv,cv,hnd,_,_⟩:=h.mg.node hn
 exact bar_any W p.g (n*34) x kv cv hnd
set_option maxRecDepth 100000 in
theorem scroll_least (p:MP) (w:World) (M:MG p w) (n:Nat) (x:ND) (hn:p.ns[n]?=some x) (nv:Int) :
  Calls Tryz.prog 61 #[.pointer (some ⟨p.pm,0,none⟩),.pointer (some ⟨p.g,n*34,none⟩),.int .i64 nv] w (GPost (1+barS x) p w):=by
 have HB:=zH (bar_ms (MS.start M) hn)
 have HM:=zH (MS.start M)
 have hb:=barS_range x
 generalize barS x=r at HB hb ⊢
 clear M hn
 go_enter Tryz.func61,Tryz.ntmps61
 go_wp2_with (go_at_call 62;((with_reducible refine HB.out.mono ?_);rintro e1' w2 ⟨rfl,hb2⟩))
 go_ret
 exact⟨rfl,(HM.out.below hb2).gr,(HM.out.below hb2).mg⟩
set_option maxRecDepth 100000 in
theorem scroll_most (p:MP) (w:World) (M:MG p w) (n:Nat) (x:ND) (hn:p.ns[n]?=some x) (nv:Int) (k mv:Int) (hk:x.kids[0]?=some k) (hm:0≤mv∧mv≤4096)
  (HC:Calls Tryz.prog 12 #[.pointer (some ⟨p.pm,0,none⟩),.int .i64 k] w (GPost mv p w)) :
  Calls Tryz.prog 63 #[.pointer (some ⟨p.pm,0,none⟩),.pointer (some ⟨p.g,n*34,none⟩),.int .i64 nv] w (GPost (mv+barS x) p w):=by
 obtain⟨kv,cv,hnd,hkv,_⟩:=M.node hn
 have c1:=hnd.kids
 obtain⟨q,c,rfl,_,hx⟩:=hkv
 obtain⟨g,o,rfl,hg,c2⟩:=hx 0 k hk
 have hl:0<x.kids.length:=(List.getElem?_eq_some_iff.1 hk).1
 obtain⟨kn,hkn⟩:∃ kn,x.kids.length=kn:=⟨_,rfl⟩
 rw [hkn] at hl c1
 have HB:=zH (fun W (hW:MS p w W)=>bar_ms hW hn)
 have HM:=zH (MS.start M)
 have HCC:=zH HC
 have hb:=barS_range x
 have lg:=M.lg hn
 have hlI:(0:Int)<(kn:Int):=by omega
 have c2':w.cell? ⟨g,o,none⟩=some (.int .i64 k):=c2
 generalize barS x=r at HB hb ⊢
 clear M hn hnd hx HC hk hkn
 go_enter Tryz.func63,Tryz.ntmps63
 go_wp2_with (first|(go_at_call 12;((with_reducible refine HCC.out.mono ?_);rintro e1' w2 ⟨rfl,hg2,hM2⟩;have HM2:=zH (HM.out.calls hg2 hM2);have HB2:=zH (HB.out w2 HM2.out)))|(go_at_call 62;((with_reducible refine HB2.out.mono ?_);rintro e1' w3 ⟨rfl,hb3⟩)))
 go_ret
 exact⟨rfl,(HM2.out.below hb3).gr,(HM2.out.below hb3).mg⟩
abbrev ScS (w:World) (p:MP) (n:Nat) (kv:Value) (g o:Nat) (k:Int) (W:World):Prop :=
 W.cell? ⟨p.g,n*34+3,none⟩=some kv∧W.cell? ⟨g,o,none⟩=some (.int .i64 k)∧MS p w W
theorem ScS.drew {w:World} {p:MP} {n:Nat} {kv:Value} {g o:Nat} {k:Int} {W:World} (h:ScS w p n kv g o k W):ScS w p n kv g o k W.drew:=⟨h.1,h.2.1,h.2.2.drew⟩
set_option maxRecDepth 100000 in
set_option maxHeartbeats 4000000 in
theorem scroll_tall (p:MP) (w:World) (M:MG p w) (n:Nat) (x:ND) (hn:p.ns[n]?=some x) (nv iw:Int) (hiw:0≤iw∧iw≤4096) (k lv tv:Int) (hk:x.kids[0]?=some k) (hlv:0≤lv∧lv≤4096)
  (HL:∀ W,MS p w W→Calls Tryz.prog 11 #[.pointer (some ⟨p.pm,0,none⟩),.int .i64 k] W (GPost lv p W))
  (HT:∀ W,MS p w W→Calls Tryz.prog 10 #[.pointer (some ⟨p.pm,0,none⟩),.int .i64 k,.int .i64 (max (max lv (iw - barS x)) 0)] W (GPost tv p W)) :
  Calls Tryz.prog 64 #[.pointer (some ⟨p.pm,0,none⟩),.pointer (some ⟨p.g,n*34,none⟩),.int .i64 nv,.int .i64 iw] w (GPost tv p w):=by
 obtain⟨kv,cv,hnd,hkv,_⟩:=M.node hn
 have c1:=hnd.kids
 obtain⟨q,c,rfl,_,hx⟩:=hkv
 obtain⟨g,o,rfl,hg,c2⟩:=hx 0 k hk
 have hl:0<x.kids.length:=(List.getElem?_eq_some_iff.1 hk).1
 obtain⟨kn,hkn⟩:∃ kn,x.kids.length=kn:=⟨_,rfl⟩
 rw [hkn] at hl c1
 have HB:=zH (fun W (hW:MS p w W)=>bar_ms hW hn)
 have HM:=zH (MS.start M)
 have c3:=MS.start M
 have HLL:=zH HL
 have HTT:=zH HT
 have hb:=barS_range x
 have lg:=M.lg hn
 generalize barS x=r at HB hb HTT ⊢
 have hwr:IntKind.i64.wrap (iw - r)=iw - r:=IntWalk.i64_in _ (by omega)
 have hlI:(0:Int)<(kn:Int):=by omega
 have C1:=zH c1
 have c2':w.cell? ⟨g,o,none⟩=some (.int .i64 k):=c2
 have C2:=zH c2'
 clear c2
 clear M hn hnd hx HL HT hk hkn
 by_cases h1:lv<iw - r
 ·have h2:(iw - r<0)=False:=eq_false (by omega)
  have h3:decide (iw - r<0)=false:=decide_eq_false (by omega)
  have e:max (max lv (iw - r)) 0=iw - r:=by omega
  rw [e] at HTT
  clear e
  go_enter Tryz.func64,Tryz.ntmps64
  go_upto_region 1 with (fail)
  go_region_held3 (fun W=>W.cell? ⟨p.g,n*34+3,none⟩=some (.slice (some ⟨g,o,none⟩) kn c)∧W.cell? ⟨g,o,none⟩=some (.int .i64 k)∧MS p w W)
   ((first|(refine ScS.drew ?_;(refine⟨?_,?_,?_⟩<;>assumption))|(refine⟨?_,?_,?_⟩<;>assumption)))
   (first|(go_at_call 11;((with_reducible refine(HLL.out _ HM.out.drew).mono ?_);rintro e1' w2 ⟨rfl,hg2,hM2⟩;have HM2:=zH (HM.out.drew.calls hg2 hM2);have u1:=HM2.out.cell C1.out;have u2:=HM2.out.cell C2.out;have u3:=HM2.out))|(go_at_call 62;((with_reducible refine(HB.out _ HM2.out).mono ?_);rintro e1' w3 ⟨rfl,hb3⟩;have HM3:=zH (HM2.out.below hb3);have t1:=HM3.out.cell C1.out;have t2:=HM3.out.cell C2.out;have t3:=HM3.out))|(go_at_call 10;((with_reducible refine(HTT.out _ HM3.out).mono ?_);rintro e1' w4 ⟨rfl,hg4,hM4⟩;have HM4:=zH (HM3.out.calls hg4 hM4);have v1:=HM4.out.cell C1.out;have v2:=HM4.out.cell C2.out;have v3:=HM4.out)))
  all_goals
   go_wp2
   go_ret
   exact⟨rfl,HM4.out.gr,HM4.out.mg⟩
 ·have h2:(lv<0)=False:=eq_false (by omega)
  have h3:decide (lv<0)=false:=decide_eq_false (by omega)
  have h4:(lv<iw - r)=False:=eq_false h1
  have h5:decide (lv<iw - r)=false:=decide_eq_false h1
  have e:max (max lv (iw - r)) 0=lv:=by omega
  rw [e] at HTT
  clear e
  go_enter Tryz.func64,Tryz.ntmps64
  go_upto_region 1 with (fail)
  go_region_held3 (fun W=>W.cell? ⟨p.g,n*34+3,none⟩=some (.slice (some ⟨g,o,none⟩) kn c)∧W.cell? ⟨g,o,none⟩=some (.int .i64 k)∧MS p w W)
   ((first|(refine ScS.drew ?_;(refine⟨?_,?_,?_⟩<;>assumption))|(refine⟨?_,?_,?_⟩<;>assumption)))
   (first|(go_at_call 11;((with_reducible refine(HLL.out _ HM.out.drew).mono ?_);rintro e1' w2 ⟨rfl,hg2,hM2⟩;have HM2:=zH (HM.out.drew.calls hg2 hM2);have u1:=HM2.out.cell C1.out;have u2:=HM2.out.cell C2.out;have u3:=HM2.out))|(go_at_call 62;((with_reducible refine(HB.out _ HM2.out).mono ?_);rintro e1' w3 ⟨rfl,hb3⟩;have HM3:=zH (HM2.out.below hb3);have t1:=HM3.out.cell C1.out;have t2:=HM3.out.cell C2.out;have t3:=HM3.out))|(go_at_call 10;((with_reducible refine(HTT.out _ HM3.out).mono ?_);rintro e1' w4 ⟨rfl,hg4,hM4⟩;have HM4:=zH (HM3.out.calls hg4 hM4);have v1:=HM4.out.cell C1.out;have v2:=HM4.out.cell C2.out;have v3:=HM4.out)))
  all_goals
   go_wp2
   go_ret
   exact⟨rfl,HM4.out.gr,HM4.out.mg⟩
set_option maxRecDepth 100000 in
theorem always_one (w:World) (b:Nat) (z:Int) (h:w.cell? ⟨b,0,none⟩=some (.int .i64 z)) (mv xv:Value) (n:Int) :
  Calls Tryz.prog 100 #[mv,xv,.int .i64 n,.pointer (some ⟨b,0,none⟩)] w (VRet (.int .i64 z) w):=by
 go_enter Tryz.func100,Tryz.ntmps100
 go_wp2
 go_ret
 exact⟨rfl,rfl⟩
set_option maxRecDepth 100000 in
theorem high_one (w:World) (b:Nat) (z:Int) (h:w.cell? ⟨b,0,none⟩=some (.int .i64 z)) (mv xv:Value) (n iw:Int) :
  Calls Tryz.prog 101 #[mv,xv,.int .i64 n,.int .i64 iw,.pointer (some ⟨b,0,none⟩)] w (VRet (.int .i64 z) w):=by
 go_enter Tryz.func101,Tryz.ntmps101
 go_wp2
 go_ret
 exact⟨rfl,rfl⟩
end Go.Proofs.YtlenbcmgjancmaaGreatDoor
