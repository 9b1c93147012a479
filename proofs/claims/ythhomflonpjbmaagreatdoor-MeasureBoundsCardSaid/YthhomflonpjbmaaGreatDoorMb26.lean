/-
 What a measure of any tree is in memory: its nodes, its table, its map: at most as many entries as there are keys.
-/
import Derived.Test.YthhomflonpjbmaaGreatDoorMb19
import Derived.Test.YthhomflonpjbmaaGreatDoorMb18
import Derived.Test.YthhomflonpjbmaaGreatDoorMb21
import Derived.Maps.Range
import Derived.Test.YthhomflonpjbmaaGreatDoorMb22
import Derived.Test.YthhomflonpjbmaaGreatDoorMb23
import Derived.Deep.DeepCutAuto
import Derived.Deep.RegionHeld3
import Derived.IntWalk
import Derived.Test.YthhomflonpjbmaaGreatDoorMb25
import Derived.Deep.RegionWith
set_option linter.unusedVariables false
set_option linter.unusedSimpArgs false
namespace Go.Proofs.YthhomflonpjbmaaGreatDoor
open Go.RowKit Go.Maps
open Go.WideElems (Fit rd rg pl rd_val elemAt)
theorem nodup_bound : ∀ (M : Nat) (l : List Nat),l.Nodup→(∀ x ∈ l,x < M)→l.length≤M
 | 0,l,_,h=>by
  cases l with
  |nil=>exact Nat.le_refl _
  |cons a l=>exact absurd (h a (by simp)) (by omega)
 |M + 1,l,hn,h=>by
  by_cases hm : M ∈ l
  ·have h1:=nodup_bound M (l.erase M) (hn.erase M) (fun x hx=>by
    have h2:=(hn.mem_erase_iff.1 hx)
    have h3:=h x h2.2
    have h4:=h2.1
    omega)
   rw [List.length_erase_of_mem hm] at h1
   omega
  ·have h1:=nodup_bound M l hn (fun x hx=>by
    have h3:=h x hx
    have : x ≠ M:=fun e=>hm (e ▸ hx)
    omega)
   omega
def keyN : Nat:=50343936
def KeyOk (kl : Lit) : Prop:=∃ n y x : Nat,n < 4096∧y < 3∧x < 4097∧keyOf Tryz.prog 64 (keyV n y x) = some kl
theorem keys_bound {D : DataW Unit} (hT : ∃ es,D = .map es∧es.Pairwise (fun p q=>p.1 ≠ q.1)∧∀ p ∈ es,WideAt.IsKeyLit p.1) (h : ∀ kl,Maps.has D kl = true→KeyOk kl) : Maps.size D≤keyN:=by
 obtain ⟨es,rfl,hp,hl⟩:=hT
 have hk : ∀ q ∈ es,KeyOk q.1:=fun q hq=>h q.1 (by
  simp only [Maps.has,List.any_eq_true]
  exact ⟨q,hq,WideAt.sameKey_self (hl q hq)⟩)
 classical
 let code : Lit × DataW Unit→Nat:=fun q=>if hq : KeyOk q.1 then (Classical.choose hq * 3 + Classical.choose (Classical.choose_spec hq)) * 4097 + Classical.choose (Classical.choose_spec (Classical.choose_spec hq)) else 0
 have hcode : ∀ q ∈ es,∃ n y x : Nat,n < 4096∧y < 3∧x < 4097∧keyOf Tryz.prog 64 (keyV n y x) = some q.1∧code q = (n * 3 + y) * 4097 + x:=fun q hq=>by
  have hq':=hk q hq
  have hs:=Classical.choose_spec (Classical.choose_spec (Classical.choose_spec hq'))
  exact ⟨_,_,_,hs.1,hs.2.1,hs.2.2.1,hs.2.2.2,by simp only [code];rw [dif_pos hq']⟩
 have hn : (es.map code).Nodup:=by
  rw [List.Nodup,List.pairwise_map]
  refine hp.imp_of_mem ?_
  intro a b ha hb hne e
  obtain ⟨n,y,x,h1,h2,h3,h4,h5⟩:=hcode a ha
  obtain ⟨n',y',x',h1',h2',h3',h4',h5'⟩:=hcode b hb
  rw [h5,h5'] at e
  have e1 : n = n'∧y = y'∧x = x':=by omega
  obtain ⟨rfl,rfl,rfl⟩:=e1
  rw [h4] at h4'
  exact hne (Option.some.inj h4')
 have:=nodup_bound keyN (es.map code) hn (fun z hz=>by
  obtain ⟨q,hq,rfl⟩:=List.mem_map.1 hz
  obtain ⟨n,y,x,h1,h2,h3,_,h5⟩:=hcode q hq
  rw [h5];unfold keyN;omega)
 simpa [Maps.size] using this
theorem ownsMap_tight {H : Type} {P : Program} {k : TypeId} {R : Value→Option (DataW H × List MemPlace)} {w : World} {b n m : Nat} {D : DataW H} (h : w.ownsMap P k R b n D) (hm : Maps.size D≤m) : w.ownsMap P k R b m D:=by
 obtain ⟨es,clock,hb,F,_,rfl⟩:=h
 exact ⟨es,clock,hb,F,by simpa [Maps.size,length_sorted] using hm,rfl⟩
def KnownG (D : DataW Unit) (f : Int→Int→Int→Int) : Prop:=Known D f∧∀ kl,Maps.has D kl = true→KeyOk kl
structure MP where
 pm : Nat
 g : Nat
 bk : Nat
 bm : Nat
 cc : Nat
 ns : List ND
 f : Int→Int→Int→Int
structure MG (p : MP) (w : World) : Prop where
 c0 : w.cell? ⟨p.pm,0,none⟩ = some (.slice (some ⟨p.g,0,none⟩) p.ns.length p.cc)
 c1 : w.cell? ⟨p.pm,1,none⟩ = some (.slice (some ⟨p.bk,0,none⟩) 12 12)
 c2 : w.cell? ⟨p.pm,2,none⟩ = some (.map (some p.bm))
 kd : KindsAt w p.bk
 nd : TreeAt w (some ⟨p.g,0,none⟩) p.ns
 map : ∃ D : DataW Unit,w.ownsMap Tryz.prog 64 (plainElem Tryz.prog 3) p.bm keyN D∧KnownG D p.f
theorem cell_not_map {w : World} {a : Addr} {v : Value} {H : Type} {P : Program} {k : TypeId} {R : Value→Option (DataW H × List MemPlace)} {b n : Nat} {D : DataW H} (hc : w.cell? a = some v) (h : w.ownsMap P k R b n D) : a.block ≠ b:=by
 obtain ⟨es,clock,hb,_⟩:=h
 intro e
 subst e
 simp [World.cell?,hb] at hc
theorem keeps_of_grown {w w' : World} {b : Nat} (hg : w.grownBy w' (some b)) {H : Type} {P : Program} {k : TypeId} {R : Value→Option (DataW H × List MemPlace)} {n : Nat} {D : DataW H} (h : w.ownsMap P k R b n D) : Keeps w w':=fun a v hc=>
 hg.cell hc (by simpa using cell_not_map hc h)
theorem keeps_below {w w' : World} (h : Below w.heap.size w w') : Keeps w w':=fun a v hc=>by rw [h.cell (World.block_lt_of_cell? w a hc)];exact hc
theorem ItmAt.keeps {w w' : World} {g o : Nat} {i : Itm} (h : ItmAt w g o i) (k : Keeps w w') : ItmAt w' g o i:=⟨k _ _ h.k,k _ _ h.n,k _ _ h.d,k _ _ h.mn,k _ _ h.mx⟩
theorem NodeV.keeps {w w' : World} {g o : Nat} {x : ND} {kv cv : Value} (h : NodeV w g o x kv cv) (k : Keeps w w') : NodeV w' g o x kv cv:=by
 obtain ⟨a1,a2,a3,a4,a5,a6,a7,a8,a9,a10,a11,a12,a13,a14,a15,a16,a17,a18,a19,a20,a21,a22,a23,a24,a25,a26,a27,a28,a29,a30,a31,a32,a33,a34⟩:=h
 constructor <;> (apply k;assumption)
theorem SlI.keeps {w w' : World} {v : Value} {l : List Int} (h : SlI w v l) (k : Keeps w w') (hs : w.heap.size≤w'.heap.size) : SlI w' v l:=by
 obtain ⟨p,c,rfl,hl,hx⟩:=h
 refine ⟨p,c,rfl,hl,fun i x hi=>?_⟩
 obtain ⟨g,o,e,hg,hc⟩:=hx i x hi
 exact ⟨g,o,e,Nat.lt_of_lt_of_le hg hs,k _ _ hc⟩
theorem SlT.keeps {w w' : World} {v : Value} {l : List Itm} (h : SlT w v l) (k : Keeps w w') (hs : w.heap.size≤w'.heap.size) : SlT w' v l:=by
 obtain ⟨p,c,rfl,hl,hx⟩:=h
 refine ⟨p,c,rfl,hl,fun i x hi=>?_⟩
 obtain ⟨g,o,e,hg,hc⟩:=hx i x hi
 exact ⟨g,o,e,Nat.lt_of_lt_of_le hg hs,hc.keeps k⟩
theorem TreeAt.keeps {w w' : World} {p : Option Addr} {ns : List ND} (h : TreeAt w p ns) (k : Keeps w w') (hs : w.heap.size≤w'.heap.size) : TreeAt w' p ns:=fun i x hi=>by
 obtain ⟨g,o,e,hg,kv,cv,h1,h2,h3⟩:=h i x hi
 exact ⟨g,o,e,Nat.lt_of_lt_of_le hg hs,kv,cv,h1.keeps k,h2.keeps k hs,h3.keeps k hs⟩
theorem MG.kept {w w' : World} {row : Option Nat} {p : MP} (h : MG p w) (k : Keeps w w') (hg : w.grownBy w' row) (hm : some p.bm ≠ row) : MG p w':=by
 obtain ⟨D,h1,h2⟩:=h.map
 exact ⟨k _ _ h.c0,k _ _ h.c1,k _ _ h.c2,h.kd.keeps k,h.nd.keeps k hg.size,D,h1.kept hg hm,h2⟩
theorem MG.below {w w' : World} {p : MP} (h : MG p w) (hb : Below w.heap.size w w') : MG p w' :=
 h.kept (keeps_below hb) (grownBy_below hb none) (by simp)
theorem MG.keeps {w w' : World} {p : MP} (h : MG p w) (hg : w.grownBy w' (some p.bm)) : Keeps w w':=by
 obtain ⟨D,h1,_⟩:=h.map
 exact keeps_of_grown hg h1
theorem MG.turned {w w' : World} {p : MP} {m : Nat} (h : MG p w) (hg : w.grownBy w' (some p.bm)) {D : DataW Unit} (ho : w'.ownsMap Tryz.prog 64 (plainElem Tryz.prog 3) p.bm m D) (hk : KnownG D p.f) : MG p w':=by
 have k:=h.keeps hg
 exact ⟨k _ _ h.c0,k _ _ h.c1,k _ _ h.c2,h.kd.keeps k,h.nd.keeps k hg.size,D,ownsMap_tight ho (keys_bound (ho.entries key_keyed) hk.2),hk⟩
theorem MG.lp {w : World} {p : MP} (h : MG p w) : p.pm < w.heap.size:=World.block_lt_of_cell? w ⟨p.pm,0,none⟩ h.c0
theorem MG.lm {w : World} {p : MP} (h : MG p w) : p.bm < w.heap.size:=by obtain ⟨D,h1,_⟩:=h.map;exact h1.lt
def GPost (v : Int) (p : MP) (w : World) (e : Ending) (w' : World) : Prop :=
 e = .returned (.int .i64 v)∧w.grownBy w' (some p.bm)∧MG p w'
theorem MG.again {w0 w1 w' : World} {row : Option Nat} {p : MP} (h0 : MG p w0) (h1 : MG p w1) (hg : w0.grownBy w' (some p.bm)) (hr : w1.grownBy w' row) (hm : some p.bm ≠ row) : MG p w':=by
 obtain ⟨D,h2,h3⟩:=h1.map
 exact h0.turned hg (h2.kept hr hm) h3
structure MS (p : MP) (w W : World) : Prop where
 m0 : MG p w
 gr : w.grownBy W (some p.bm)
 mg : MG p W
section
variable {p : MP} {w W W' : World}
theorem MS.start (h : MG p w) : MS p w w:=⟨h,World.grownBy.refl _ _,h⟩
theorem MS.below (h : MS p w W) (hb : Below W.heap.size W W') : MS p w W':=⟨h.m0,grownBy_then h.gr hb,h.mg.below hb⟩
theorem MS.drew (h : MS p w W) : MS p w W.drew:=h.below (Below.drew (Below.refl _ _))
theorem MS.drewN (h : MS p w W) (n : Nat) : MS p w (W.drewN n):=h.below (below_drewN (Below.refl _ _) n)
theorem MS.alloc (h : MS p w W) (o : Obj) : MS p w (W.alloc o):=h.below (Below.alloc (Below.refl _ _) (Nat.le_refl _) o)
theorem MS.call {v : Int} {e : Ending} (h : MS p w W) (hc : GPost v p W e W') : MS p w W':=⟨h.m0,World.grownBy.trans h.gr hc.2.1,hc.2.2⟩
theorem MS.calls (h : MS p w W) (hg : W.grownBy W' (some p.bm)) (hM : MG p W') : MS p w W':=⟨h.m0,World.grownBy.trans h.gr hg,hM⟩
theorem MS.set (h : MS p w W) {b : Nat} (hb : w.heap.size≤b) (q : Nat) (v : Value) : MS p w (W.setCell ⟨b,q,none⟩ v):=by
 have hg : w.grownBy (W.setCell ⟨b,q,none⟩ v) (some p.bm):=World.grownBy.andThen h.gr (grown_set W b q v) (fun j e=>.inl (by have:=Option.some.inj e;omega))
 refine ⟨h.m0,hg,h.m0.again h.mg hg (grown_set W b q v) (fun e=>?_)⟩
 have:=h.m0.lm
 have:=Option.some.inj e
 omega
theorem MS.cell (h : MS p w W) {a : Addr} {v : Value} (hc : w.cell? a = some v) : W.cell? a = some v:=h.m0.keeps h.gr _ _ hc
theorem MS.size (h : MS p w W) : w.heap.size≤W.heap.size:=h.gr.size
theorem MS.post {v : Int} {e : Ending} (h : MS p w W) (he : e = .returned (.int .i64 v)) : GPost v p w e W:=⟨he,h.gr,h.mg⟩
end
end Go.Proofs.YthhomflonpjbmaaGreatDoor
/-
 The walk of a measure's of, at any tree: what is known is told; what is not is worked out, and known.
-/
namespace Go.Proofs.YthhomflonpjbmaaGreatDoor
open Go.RowKit Go.Maps
theorem KnownG.put {D : DataW Unit} {f : Int→Int→Int→Int} (h : KnownG D f) (hm : IsMap D) {n y x : Int} {kl : Lit} (hk : keyOf Tryz.prog 64 (keyV n y x) = some kl) (ho : KeyOk kl) :
  KnownG (D.put kl (.lit (.int .i64 (f n y x)))) f :=
 ⟨h.1.put hm hk,fun kl' h'=>by
  by_cases e : kl' = kl
  ·rw [e];exact ho
  ·rw [Maps.has_put_other e] at h';exact h.2 kl' h'⟩
abbrev GSt (wA : World) (kb : Nat) (n y x : Int) (p : MP) (W : World) : Prop :=
 W.cell? ⟨p.pm,0,none⟩ = some (.slice (some ⟨p.g,0,none⟩) p.ns.length p.cc)∧W.cell? ⟨kb,0,none⟩ = some (.int .i64 n)∧W.cell? ⟨kb,1,none⟩ = some (.int .i64 y)∧W.cell? ⟨kb,2,none⟩ = some (.int .i64 x)∧
  W.cell? ⟨p.pm,2,none⟩ = some (.map (some p.bm))∧wA.grownBy W (some p.bm)∧MG p W
theorem GSt.start {wA : World} {kb : Nat} {n y x : Int} {p : MP} (M : MG p wA) (b0 : wA.cell? ⟨kb,0,none⟩ = some (.int .i64 n)) (b1 : wA.cell? ⟨kb,1,none⟩ = some (.int .i64 y)) (b2 : wA.cell? ⟨kb,2,none⟩ = some (.int .i64 x)) : GSt wA kb n y x p wA :=
 ⟨M.c0,b0,b1,b2,M.c2,World.grownBy.refl _ _,M⟩
theorem GSt.drew {wA : World} {kb : Nat} {n y x : Int} {p : MP} {W : World} (h : GSt wA kb n y x p W) : GSt wA kb n y x p W.drew :=
 ⟨h.1,h.2.1,h.2.2.1,h.2.2.2.1,h.2.2.2.2.1,World.grownBy.trans h.2.2.2.2.2.1 (grownBy_drew _ _),h.2.2.2.2.2.2.below (Below.drew (Below.refl _ _))⟩
theorem GSt.call {wA : World} {kb : Nat} {n y x : Int} {p : MP} {W W' : World} (h : GSt wA kb n y x p W) (hk : kb ≠ p.bm) (hg : W.grownBy W' (some p.bm)) (hM : MG p W') : GSt wA kb n y x p W' :=
 ⟨hM.c0,hg.cell h.2.1 (by simpa using hk),hg.cell h.2.2.1 (by simpa using hk),hg.cell h.2.2.2.1 (by simpa using hk),hM.c2,World.grownBy.trans h.2.2.2.2.2.1 hg,hM⟩
set_option maxRecDepth 100000 in
set_option maxHeartbeats 4000000 in
theorem mof_gen (w : World) (p : MP) (n y x : Int) (hns : p.ns.length≤4096) (hn : 0≤n∧n < p.ns.length) (hy : 0≤y∧y < 3) (hx : 0≤x∧x≤4096) (hwn : (Lit.int .i64 n).wf = true) (hwy : (Lit.int .i64 y).wf = true) (hwx : (Lit.int .i64 x).wf = true)
  (k : Nat) (cap : Array Value) (hf : ∀ args w,(callFunc k args).run Tryz.prog w = .ok (.enter k args) w) (M : MG p w)
  (v : Int) (hv : I64 v) (hfv : min (max v 0) 4096 = p.f n y x)
  (HW : ∀ W,w.grownBy W (some p.bm)→MG p W→Calls Tryz.prog k (#[.pointer (some ⟨p.g,n.toNat * 34,none⟩)] ++ cap) W (GPost v p W)) :
  Calls Tryz.prog 22 #[.pointer (some ⟨p.pm,0,none⟩),.agg #[.int .i64 n,.int .i64 y,.int .i64 x],.func (.func k) #[] cap] w (GPost (p.f n y x) p w):=by
 obtain ⟨kl,hkl⟩:=key_reads n y x hwn hwy hwx
 have HKO : Hid (KeyOk kl):=zH ⟨n.toNat,y.toNat,x.toNat,by omega,by omega,by omega,by rw [Int.toNat_of_nonneg hn.1,Int.toNat_of_nonneg hy.1,Int.toNat_of_nonneg hx.1];exact hkl⟩
 clear hy hx
 have hG:=World.grownBy_alloc w (.cells #[.int .i64 n,.int .i64 y,.int .i64 x] 64) (some p.bm)
 have c0:=M.c0
 have e1 : (decide (n < 0)) = false:=by simp;omega
 have e2 : (decide ((p.ns.length : Int)≤n)) = false:=by simp;omega
 have lp:=M.lp
 go_enter Tryz.func22,Tryz.ntmps22
 go_upto_region 1 with (fail)
 go_quiet (fail)
 go_upto_region 3 with (fail)
 generalize hA : World.drewN _ _ = wA
 have gA : w.grownBy wA (some p.bm):=by rw [← hA];exact World.grownBy.trans hG (grownBy_drewN _ _ _)
 have b0 : wA.cell? ⟨w.heap.size,0,none⟩ = some (.int .i64 n):=by rw [← hA];exact World.cell?_alloc_new _ _ _ _
 have b1 : wA.cell? ⟨w.heap.size,1,none⟩ = some (.int .i64 y):=by rw [← hA];exact World.cell?_alloc_new _ _ _ _
 have b2 : wA.cell? ⟨w.heap.size,2,none⟩ = some (.int .i64 x):=by rw [← hA];exact World.cell?_alloc_new _ _ _ _
 have hlt : w.heap.size < wA.heap.size:=by rw [← hA];show w.heap.size < (w.alloc _).heap.size;simp
 have hkb : w.heap.size ≠ p.bm:=Nat.ne_of_gt M.lm
 have MA : MG p wA:=by rw [← hA];exact (M.below (Below.alloc (Below.refl _ _) (Nat.le_refl _) _)).below (below_drewN (Below.refl _ _) _)
 clear hA M hG c0 lp
 have c0:=MA.c0
 have c2:=MA.c2
 have lp:=MA.lp
 obtain ⟨D,hown,hkn⟩:=MA.map
 obtain ⟨v',ps,_,hv'⟩:=hown.look_ok (t:=59) key_keyed Tryz.underlying59 (zeroI wA) (plainElem_int Tryz.underlying3 (by decide)) hkl
 obtain ⟨c,rfl,hc,hwc⟩:=plainElem_int_inv Tryz.underlying3 hv'
 have hc' : D.atKey kl (.lit (.int .i64 0)) = .lit (.int .i64 c):=congrArg Prod.fst hc
 have hrun : ∀ m,(Instr.lookup 59 (.map (some p.bm)) (.agg #[.int .i64 n,.int .i64 y,.int .i64 x]) true).run Tryz.prog (wA.drewN m) = .ok (.tuple #[.int .i64 c,.bool (Maps.has D kl)]) (wA.drewN m):=fun m=>by
  obtain ⟨v2,ps2,h2,hv2⟩:=World.ownsMap.look_ok (w:=wA.drewN m) (t:=59) (show (wA.drewN m).ownsMap _ _ _ p.bm keyN D from hown) key_keyed Tryz.underlying59 (zeroI _) (plainElem_int Tryz.underlying3 (by decide)) hkl
  obtain ⟨c2,rfl,hc2,_⟩:=plainElem_int_inv Tryz.underlying3 hv2
  have e : D.atKey kl (.lit (.int .i64 0)) = .lit (.int .i64 c2):=congrArg Prod.fst hc2
  rw [hc'] at e
  obtain rfl : c = c2:=by simpa using e
  exact h2
 have HS : Hid (∀ W,Calls Tryz.prog 21 #[.int .i64 v] W (VRet (.int .i64 (p.f n y x)) W)):=zH fun W=>by rw [← hfv];exact side_any v hv W
 have HH:=zH HW
 have HWF : Hid ((Lit.int .i64 (p.f n y x)).wf = true):=zH (WalkArith.wf_i64 (by omega))
 have HMA:=zH MA
 have HKN:=zH hkn
 have HKL:=zH hkl
 have HO:=zH hown
 have HGA:=zH gA
 have HC:=zH hc'
 clear HW hfv MA hkn hkl hown gA hv' hc hc' hwn hwy hwx hwc hv
 cases hhas : Maps.has D kl with
 |true=>
  simp only [hhas] at hrun
  have hcf : c = p.f n y x:=by
   have:=HKN.out.1 n y x kl HKL.out hhas
   rw [HC.out] at this
   simpa using this
  subst hcf
  go_quiet (fail)
  go_wp2
  go_ret
  exact ⟨rfl,World.grownBy.trans HGA.out (grownBy_drewN _ _ _),(HMA.out.below (below_drewN (Below.refl _ _) _))⟩
 |false=>
  simp only [hhas] at hrun
  go_quiet (fail)
  go_upto_region 5 with (fail)
  generalize hB : World.drewN _ _ = wB
  have gB : w.grownBy wB (some p.bm):=by rw [← hB];exact World.grownBy.trans HGA.out (grownBy_drewN _ _ _)
  have MB : MG p wB:=by rw [← hB];exact HMA.out.below (below_drewN (Below.refl _ _) _)
  have b0' : wB.cell? ⟨w.heap.size,0,none⟩ = some (.int .i64 n):=by rw [← hB];exact b0
  have b1' : wB.cell? ⟨w.heap.size,1,none⟩ = some (.int .i64 y):=by rw [← hB];exact b1
  have b2' : wB.cell? ⟨w.heap.size,2,none⟩ = some (.int .i64 x):=by rw [← hB];exact b2
  have hltB : w.heap.size < wB.heap.size:=by rw [← hB];exact hlt
  clear hB hrun HMA HGA HO HKN HC hhas c0 c2 b0 b1 b2 hlt lp
  have S0:=GSt.start MB b0' b1' b2'
  have HGB:=zH gB
  have HMB:=zH MB
  have HCALL:=zH (HH.out wB.drew (World.grownBy.trans gB (grownBy_drew _ _)) (MB.below (Below.drew (Below.refl _ _))))
  have HS0:=zH S0.drew
  clear gB MB b0' b1' b2' HH
  generalize w.heap.size = kb at *
  obtain ⟨s1,s2,s3,s4,s5,s6,s7⟩:=S0
  have lp : p.pm < wB.heap.size:=HMB.out.lp
  go_region_held3 (fun W=>W.cell? ⟨p.pm,0,none⟩ = some (.slice (some ⟨p.g,0,none⟩) p.ns.length p.cc)∧W.cell? ⟨kb,0,none⟩ = some (.int .i64 n)∧W.cell? ⟨kb,1,none⟩ = some (.int .i64 y)∧W.cell? ⟨kb,2,none⟩ = some (.int .i64 x)∧W.cell? ⟨p.pm,2,none⟩ = some (.map (some p.bm))∧wB.grownBy W (some p.bm)∧MG p W)
   ((first | (refine GSt.drew ?_;(refine ⟨?_,?_,?_,?_,?_,?_,?_⟩ <;> assumption)) | (refine ⟨?_,?_,?_,?_,?_,?_,?_⟩ <;> assumption)))
   (first | (go_at_call 21;((with_reducible refine (HS.out _).mono ?_);rintro e1' w3 ⟨rfl,rfl⟩)) | ((with_reducible refine HCALL.out.mono ?_);rintro e1' w2 ⟨rfl,hg2,hM2⟩;have HS2:=zH (GSt.call HS0.out hkb hg2 hM2);obtain ⟨u1,u2,u3,u4,u5,u6,u7⟩:=HS2.out))
  all_goals
   go_upto_region 6 with (fail)
   go_still_tail 6,(by kernel_rfl)
   change wpList _ _ _ _ _ w3.drew
   have HS3:=zH HS2.out.drew
   obtain ⟨t1,t2,t3,t4,t5,t6,t7⟩:=HS3.out
   obtain ⟨D3,hown3,hkn3⟩:=t7.map
   have HG6:=zH t6
   have HM7:=zH t7
   have HO3:=zH hown3
   have HK3:=zH hkn3
   clear t6 t7 hown3 hkn3 u1 u2 u3 u4 u5 u6 u7 HS3 HS2 HS0 HCALL
   generalize w3.drew = w4 at *
   go_wp2_with (at_mapUpdate;refine wpList_mapUpdate_own _ rfl _ _ _ 59 rfl 64 3 key_keyed Tryz.underlying59 _ p.bm keyN D3 rfl HO3.out (by unfold maxLen keyN;omega) (keyV n y x) _ _ rfl rfl HKL.out _ [] (plainElem_int Tryz.underlying3 HWF.out) ?_;intro w5 hown5 hgr5)
   go_ret
   exact ⟨rfl,World.grownBy.trans HGB.out (World.grownBy.trans HG6.out hgr5),HM7.out.turned hgr5 hown5 (HK3.out.put HO3.out.isMap HKL.out HKO.out)⟩
end Go.Proofs.YthhomflonpjbmaaGreatDoor
/-
 The walk of measure.each at any node.
-/
namespace Go.Proofs.YthhomflonpjbmaaGreatDoor
open Go.RowKit Go.Maps
def EG (l : List Int) (p : MP) (w : World) (e : Ending) (w' : World) : Prop :=
 ∃ b : Nat,e = .returned (.slice (some ⟨b,0,none⟩) l.length l.length)∧w.heap.size≤b∧ArrI w' b l∧w.grownBy w' (some p.bm)∧MG p w'
set_option maxRecDepth 100000 in
set_option maxHeartbeats 4000000 in
theorem each_gen (w : World) (p : MP) (M : MG p w) (gx o : Nat) (kv : Value) (kids : List Int) (hk : w.cell? ⟨gx,o + 3,none⟩ = some kv) (hK : SlI w kv kids) (hl4 : kids.length≤4096)
  (F : Nat) (pre cap : Array Value) (hf : ∀ args w,(callFunc F args).run Tryz.prog w = .ok (.enter F args) w) (h : Int→Int)
  (HC : ∀ k ∈ kids,∀ W,MS p w W→Calls Tryz.prog F (pre.push (.int .i64 k) ++ cap) W (GPost (h k) p W)) :
  Calls Tryz.prog 38 #[.pointer (some ⟨gx,o,none⟩),.func (.func F) pre cap] w (EG (kids.map h) p w):=by
 obtain ⟨q,c,rfl,hl,hx⟩:=hK
 obtain ⟨n,hn⟩ : ∃ n,kids.length = n:=⟨_,rfl⟩
 have HN:=zH hn
 rw [hn] at hl hl4 hk
 have hmk:=mk_ints n (by omega)
 have HX:=zH hx
 have HM:=zH (MS.start M)
 have HH:=zH HC
 have lx : gx < w.heap.size:=World.block_lt_of_cell? w ⟨gx,o + 3,none⟩ hk
 have HK:=zH hk
 have lm:=M.lm
 obtain ⟨L,hL⟩ : ∃ L,kids.map h = L:=⟨_,rfl⟩
 have HLL : Hid (L.length = n):=zH (by rw [← hL,List.length_map,hn])
 have HLX : Hid (∀ (i : Nat) k,kids[i]? = some k→L[i]? = some (h k)):=zH fun i k hi=>by rw [← hL,List.getElem?_map,hi];rfl
 rw [hL]
 have H0:=zH (ArrI.made w n)
 clear hx M HC hn hL
 go_enter Tryz.func38,Tryz.ntmps38
 go_wp2
 go_loopw [19] (fun i wr=>∃ a : Nat,i = .int .i64 a∧a≤n∧MS p w wr∧ArrI wr w.heap.size (part L a)) (fun i _=>n - (intOf i).toNat)
 case atStart=>exact ⟨0,rfl,by omega,HM.out.below (by (repeat (first | exact Below.refl _ _ | assumption | refine below_drewN ?_ _ | refine Below.drew ?_ | (refine Below.alloc ?_ ?bs _;(case bs=>first | omega | (simp;done) | (simp;omega))) | (refine Below.setCell ?_ ?bs _;(case bs=>first | omega | (simp;done) | (simp;omega)))))),by rw [part_zero,HLL.out];exact H0.out⟩
 case round=>
  obtain ⟨a,rfl,hle,hS,hA⟩:=hrel
  have HS:=zH hS
  have HA:=zH hA
  have lw:=hA.lt
  clear hS hA H0 hk
  by_cases hlt : a < n
  ·as_aux_lemma=>
    have hltI : (a : Int) < (n : Int):=by omega
    obtain ⟨k,hka⟩ : ∃ k,kids[a]? = some k:=⟨_,List.getElem?_eq_getElem (by rw [HN.out];exact hlt)⟩
    obtain ⟨gk,ok,rfl,hgk,hck⟩:=HX.out a k hka
    have hck':=HS.out.cell hck
    have hkk:=HS.out.cell HK.out
    have HCA:=zH (HH.out k (List.mem_of_getElem? hka) wr HS.out)
    have HP:=zH (HLX.out a k hka)
    have lx2 : gx < wr.heap.size:=Nat.lt_of_lt_of_le lx HS.out.size
    have lk2 : gk < wr.heap.size:=Nat.lt_of_lt_of_le hgk HS.out.size
    have hbm : w.heap.size ≠ p.bm:=by omega
    clear hck hka HX HH
    go_wp2_with ((with_reducible refine (HCA.out).mono ?_);rintro e1' w2 ⟨rfl,hg2,hM2⟩;have HS2:=zH (HS.out.calls hg2 hM2);have HA2 : Hid (ArrI w2 w.heap.size (part L a)):=zH (HA.out.grown hg2 (by simpa using hbm));have c2:=HA2.out.at (part_get (by rw [HLL.out];exact hlt));have f2:=HA2.out.froz a;have l2:=HA2.out.lt;have k2:=HS2.out.cell HK.out;have z2:=hg2.size;clear hg2 hM2)
    have HS3:=zH (HS2.out.set (Nat.le_refl _) a (.int .i64 (h k)))
    have HA3:=zH ((HA2.out.put a (h k)).to (part_set HP.out))
    go_roundw
    case rel=>exact ⟨a + 1,by first | rfl | go_num,by omega,HS3.out,HA3.out⟩
    case measure=>simp [intOf] <;> omega
  ·as_aux_lemma=>
    have hltI : decide ((a : Int) < (n : Int)) = false:=decide_eq_false (by omega)
    obtain rfl : a = n:=by omega
    have hkk:=HS.out.cell HK.out
    go_wp2
    go_ret
    exact ⟨w.heap.size,by rw [HLL.out];rfl,Nat.le_refl _,HA.out.to (part_full2 HLL.out.symm),HS.out.gr,HS.out.mg⟩
end Go.Proofs.YthhomflonpjbmaaGreatDoor
/-
 The walks of a measure's wish, lw, mw, high at any node of any tree.
-/
namespace Go.Proofs.YthhomflonpjbmaaGreatDoor
open Go.RowKit Go.Maps
theorem cell_newC (w : World) (cs : Array Value) (t b j : Nat) (hb : b = w.heap.size) : (w.alloc (.cells cs t)).cell? ⟨b,j,none⟩ = cs[j]?:=by subst hb;exact World.cell?_alloc_new _ _ _ _
abbrev WSg (w : World) (b : Nat) (it : Itm) (p : MP) (W : World) : Prop :=
 W.cell? ⟨b,0,none⟩ = some (.int .i8 it.k)∧W.cell? ⟨b,1,none⟩ = some (.int .i64 it.n)∧W.cell? ⟨b,2,none⟩ = some (.int .i64 it.d)∧W.cell? ⟨b,3,none⟩ = some (.int .i64 it.mn)∧W.cell? ⟨b,4,none⟩ = some (.int .i64 it.mx)∧w.grownBy W (some p.bm)∧MG p W
theorem WSg.call {w : World} {b : Nat} {it : Itm} {p : MP} {W W' : World} (h : WSg w b it p W) (hb : b ≠ p.bm) (hg : W.grownBy W' (some p.bm)) (hA : MG p W') : WSg w b it p W' :=
 ⟨hg.cell h.1 (by simpa using hb),hg.cell h.2.1 (by simpa using hb),hg.cell h.2.2.1 (by simpa using hb),hg.cell h.2.2.2.1 (by simpa using hb),hg.cell h.2.2.2.2.1 (by simpa using hb),World.grownBy.trans h.2.2.2.2.2.1 hg,hA⟩
theorem WSg.bel {w : World} {b : Nat} {it : Itm} {p : MP} {W W' : World} (h : WSg w b it p W) (hb : b ≠ p.bm) (hg : Below W.heap.size W W') : WSg w b it p W':=h.call hb (grownBy_below hg _) (h.2.2.2.2.2.2.below hg)
theorem WSg.drew {w : World} {b : Nat} {it : Itm} {p : MP} {W : World} (h : WSg w b it p W) : WSg w b it p W.drew :=
 ⟨h.1,h.2.1,h.2.2.1,h.2.2.2.1,h.2.2.2.2.1,World.grownBy.trans h.2.2.2.2.2.1 (grownBy_drew _ _),h.2.2.2.2.2.2.below (Below.drew (Below.refl _ _))⟩
theorem WSg.ms {w : World} {b : Nat} {it : Itm} {p : MP} {W : World} (h : WSg w b it p W) (hM : MG p w) : MS p w W:=⟨hM,h.2.2.2.2.2.1,h.2.2.2.2.2.2⟩
theorem MG.node {p : MP} {w : World} (M : MG p w) {k : Nat} {x : ND} (hk : p.ns[k]? = some x) : ∃ kv cv,NodeV w p.g (k * 34) x kv cv∧SlI w kv x.kids∧SlT w cv x.cols:=by
 obtain ⟨g,o,e,hg,kv,cv,h1,h2,h3⟩:=M.nd k x hk
 obtain ⟨rfl,rfl⟩ : p.g = g∧0 = o:=by simpa using e
 rw [Nat.zero_add] at h1
 exact ⟨kv,cv,h1,h2,h3⟩
theorem MG.lg {p : MP} {w : World} (M : MG p w) {k : Nat} {x : ND} (hk : p.ns[k]? = some x) : p.g < w.heap.size:=by
 obtain ⟨kv,cv,h1,_⟩:=M.node hk
 exact h1.lt
set_option maxRecDepth 100000 in
set_option maxHeartbeats 4000000 in
theorem wish_gen (p : MP) (w : World) (M : MG p w) (k : Nat) (x : ND) (hk : p.ns[k]? = some x) (F : Nat) (pre cap : Array Value) (hf : ∀ args w,(callFunc F args).run Tryz.prog w = .ok (.enter F args) w) (v : Int) (hv : 0≤v∧v≤4096)
  (HC : ∀ W,MS p w W→Calls Tryz.prog F (pre.push (.int .i64 k) ++ cap) W (GPost v p W)) :
  Calls Tryz.prog 94 #[.pointer (some ⟨p.pm,0,none⟩),.int .i64 k,.func (.func F) pre cap] w (GPost (wishS x.wd v) p w):=by
 have c0:=M.c0
 obtain ⟨kv,cv,hnd,_,_⟩:=M.node hk
 have y0:=hnd.w0
 have y1:=hnd.w1
 have y2:=hnd.w2
 have y3:=hnd.w3
 have y4:=hnd.w4
 clear hnd
 have lg:=M.lg hk
 have lp:=M.lp
 have hklt : k < p.ns.length:=(List.getElem?_eq_some_iff.1 hk).1
 have hbm : w.heap.size ≠ p.bm:=Nat.ne_of_gt M.lm
 have HI:=zH fun n W=>into_any n x.wd W
 unfold Itm.val at HI
 have HLL:=zH HC
 have HM:=zH M
 obtain ⟨it,hit⟩ : ∃ it,x.wd = it:=⟨_,rfl⟩
 rw [hit] at y0 y1 y2 y3 y4 HI ⊢
 clear HC M hk hit
 by_cases hk1 : it.k = 1
 ·go_enter Tryz.func94,Tryz.ntmps94
  have HS0 : Hid (MG p (w.alloc (.cells #[.int .i8 1,.int .i64 it.n,.int .i64 it.d,.int .i64 it.mn,.int .i64 it.mx] 40))):=zH (HM.out.below (Below.alloc (Below.refl _ _) (Nat.le_refl _) _))
  rw [hk1] at y0 HI
  have HK:=zH hk1
  clear hk1
  go_wp2_with (go_at_call 95;((with_reducible refine (HI.out _ _).mono ?_);rintro e1' w6 ⟨rfl,hb6⟩))
  go_ret
  exact ⟨by unfold wishS;rw [if_pos HK.out];rfl,World.grownBy.trans (World.grownBy_alloc _ _ _) (grownBy_below hb6 _),HS0.out.below hb6⟩
 ·have hk0 : (it.k == 1) = false:=by rw [beq_eq_false_iff_ne];exact hk1
  have HK:=zH hk1
  clear hk1
  go_enter Tryz.func94,Tryz.ntmps94
  go_upto_region 4 with (fail)
  have S0 : WSg w w.heap.size it p (w.alloc (.cells #[.int .i8 it.k,.int .i64 it.n,.int .i64 it.d,.int .i64 it.mn,.int .i64 it.mx] 40)):=⟨cell_newC _ _ _ _ _ rfl,cell_newC _ _ _ _ _ rfl,cell_newC _ _ _ _ _ rfl,cell_newC _ _ _ _ _ rfl,cell_newC _ _ _ _ _ rfl,World.grownBy_alloc _ _ _,HM.out.below (Below.alloc (Below.refl _ _) (Nat.le_refl _) _)⟩
  have hlt : w.heap.size < (w.alloc (.cells #[.int .i8 it.k,.int .i64 it.n,.int .i64 it.d,.int .i64 it.mn,.int .i64 it.mx] 40)).heap.size:=by simp
  generalize w.alloc (.cells #[.int .i8 it.k,.int .i64 it.n,.int .i64 it.d,.int .i64 it.mn,.int .i64 it.mx] 40) = w1 at S0 hlt ⊢
  have HS0:=zH S0.drew
  have HCALL:=zH (HLL.out w1.drew (S0.drew.ms HM.out))
  obtain ⟨s0,s1,s2,s3,s4,s5,s6⟩:=S0
  clear c0 y0 y1 y2 y3 y4 HLL HM lg lp
  go_region_held3 (fun W'=>W'.cell? ⟨w.heap.size,0,none⟩ = some (.int .i8 it.k)∧W'.cell? ⟨w.heap.size,1,none⟩ = some (.int .i64 it.n)∧W'.cell? ⟨w.heap.size,2,none⟩ = some (.int .i64 it.d)∧W'.cell? ⟨w.heap.size,3,none⟩ = some (.int .i64 it.mn)∧W'.cell? ⟨w.heap.size,4,none⟩ = some (.int .i64 it.mx)∧w.grownBy W' (some p.bm)∧MG p W')
   ((first | (refine WSg.drew ?_;(refine ⟨?_,?_,?_,?_,?_,?_,?_⟩ <;> assumption)) | (refine ⟨?_,?_,?_,?_,?_,?_,?_⟩ <;> assumption)))
   (first | (go_at_call 95;((with_reducible refine (HI.out _ _).mono ?_);rintro e1' w6 ⟨rfl,hb6⟩;have HS6:=zH (WSg.bel HS5.out hbm hb6);obtain ⟨v0,v1,v2,v3,v4,v5,v6⟩:=HS6.out)) | ((with_reducible refine HCALL.out.mono ?_);rintro e1' w5 ⟨rfl,hg5,hA5⟩;have HS5:=zH (WSg.call HS0.out hbm hg5 hA5);obtain ⟨u0,u1,u2,u3,u4,u5,u6⟩:=HS5.out;have hl5 : w.heap.size < w5.heap.size:=Nat.lt_of_lt_of_le hlt hg5.size))
  all_goals
   go_wp2
   go_ret
   exact ⟨by unfold wishS;rw [if_neg HK.out];rfl,HS6.out.2.2.2.2.2.1,HS6.out.2.2.2.2.2.2⟩
set_option maxRecDepth 100000 in
set_option maxHeartbeats 4000000 in
theorem high_gen (p : MP) (w : World) (M : MG p w) (k : Nat) (x : ND) (hk : p.ns[k]? = some x) (z : Int) (v : Int) (hv : 0≤v∧v≤4096)
  (HC : ∀ W,MS p w W→Calls Tryz.prog 10 #[.pointer (some ⟨p.pm,0,none⟩),.int .i64 k,.int .i64 z] W (GPost v p W)) :
  Calls Tryz.prog 46 #[.pointer (some ⟨p.pm,0,none⟩),.int .i64 k,.int .i64 z] w (GPost (wishS x.ht v) p w):=by
 have c0:=M.c0
 obtain ⟨kv,cv,hnd,_,_⟩:=M.node hk
 have y0:=hnd.h0
 have y1:=hnd.h1
 have y2:=hnd.h2
 have y3:=hnd.h3
 have y4:=hnd.h4
 clear hnd
 have lg:=M.lg hk
 have lp:=M.lp
 have hklt : k < p.ns.length:=(List.getElem?_eq_some_iff.1 hk).1
 have hbm : w.heap.size ≠ p.bm:=Nat.ne_of_gt M.lm
 have HI:=zH fun n W=>into_any n x.ht W
 unfold Itm.val at HI
 have HLL:=zH HC
 have HM:=zH M
 obtain ⟨it,hit⟩ : ∃ it,x.ht = it:=⟨_,rfl⟩
 rw [hit] at y0 y1 y2 y3 y4 HI ⊢
 clear HC M hk hit
 by_cases hk1 : it.k = 1
 ·go_enter Tryz.func46,Tryz.ntmps46
  have HS0 : Hid (MG p (w.alloc (.cells #[.int .i8 1,.int .i64 it.n,.int .i64 it.d,.int .i64 it.mn,.int .i64 it.mx] 40))):=zH (HM.out.below (Below.alloc (Below.refl _ _) (Nat.le_refl _) _))
  rw [hk1] at y0 HI
  have HK:=zH hk1
  clear hk1
  go_wp2_with (go_at_call 95;((with_reducible refine (HI.out _ _).mono ?_);rintro e1' w6 ⟨rfl,hb6⟩))
  go_ret
  exact ⟨by unfold wishS;rw [if_pos HK.out];rfl,World.grownBy.trans (World.grownBy_alloc _ _ _) (grownBy_below hb6 _),HS0.out.below hb6⟩
 ·have hk0 : (it.k == 1) = false:=by rw [beq_eq_false_iff_ne];exact hk1
  have HK:=zH hk1
  clear hk1
  go_enter Tryz.func46,Tryz.ntmps46
  go_upto_region 4 with (fail)
  have S0 : WSg w w.heap.size it p (w.alloc (.cells #[.int .i8 it.k,.int .i64 it.n,.int .i64 it.d,.int .i64 it.mn,.int .i64 it.mx] 40)):=⟨cell_newC _ _ _ _ _ rfl,cell_newC _ _ _ _ _ rfl,cell_newC _ _ _ _ _ rfl,cell_newC _ _ _ _ _ rfl,cell_newC _ _ _ _ _ rfl,World.grownBy_alloc _ _ _,HM.out.below (Below.alloc (Below.refl _ _) (Nat.le_refl _) _)⟩
  have hlt : w.heap.size < (w.alloc (.cells #[.int .i8 it.k,.int .i64 it.n,.int .i64 it.d,.int .i64 it.mn,.int .i64 it.mx] 40)).heap.size:=by simp
  generalize w.alloc (.cells #[.int .i8 it.k,.int .i64 it.n,.int .i64 it.d,.int .i64 it.mn,.int .i64 it.mx] 40) = w1 at S0 hlt ⊢
  have HS0:=zH S0.drew
  have HCALL:=zH (HLL.out w1.drew (S0.drew.ms HM.out))
  obtain ⟨s0,s1,s2,s3,s4,s5,s6⟩:=S0
  clear c0 y0 y1 y2 y3 y4 HLL HM lg lp
  go_region_held3 (fun W'=>W'.cell? ⟨w.heap.size,0,none⟩ = some (.int .i8 it.k)∧W'.cell? ⟨w.heap.size,1,none⟩ = some (.int .i64 it.n)∧W'.cell? ⟨w.heap.size,2,none⟩ = some (.int .i64 it.d)∧W'.cell? ⟨w.heap.size,3,none⟩ = some (.int .i64 it.mn)∧W'.cell? ⟨w.heap.size,4,none⟩ = some (.int .i64 it.mx)∧w.grownBy W' (some p.bm)∧MG p W')
   ((first | (refine WSg.drew ?_;(refine ⟨?_,?_,?_,?_,?_,?_,?_⟩ <;> assumption)) | (refine ⟨?_,?_,?_,?_,?_,?_,?_⟩ <;> assumption)))
   (first | (go_at_call 95;((with_reducible refine (HI.out _ _).mono ?_);rintro e1' w6 ⟨rfl,hb6⟩;have HS6:=zH (WSg.bel HS5.out hbm hb6);obtain ⟨v0,v1,v2,v3,v4,v5,v6⟩:=HS6.out)) | ((with_reducible refine HCALL.out.mono ?_);rintro e1' w5 ⟨rfl,hg5,hA5⟩;have HS5:=zH (WSg.call HS0.out hbm hg5 hA5);obtain ⟨u0,u1,u2,u3,u4,u5,u6⟩:=HS5.out;have hl5 : w.heap.size < w5.heap.size:=Nat.lt_of_lt_of_le hlt hg5.size))
  all_goals
   go_wp2
   go_ret
   exact ⟨by unfold wishS;rw [if_neg HK.out];rfl,HS6.out.2.2.2.2.2.1,HS6.out.2.2.2.2.2.2⟩
set_option maxRecDepth 100000 in
theorem lw_gen (p : MP) (w : World) (M : MG p w) (k : Nat) (x : ND) (hk : p.ns[k]? = some x) (v : Int) (hv : 0≤v∧v≤4096)
  (HC : ∀ W,MS p w W→Calls Tryz.prog 11 #[.pointer (some ⟨p.pm,0,none⟩),.int .i64 k] W (GPost v p W)) :
  Calls Tryz.prog 40 #[.pointer (some ⟨p.pm,0,none⟩),.int .i64 k] w (GPost (wishS x.wd v) p w):=by
 have HW:=zH (wish_gen p w M k x hk 11 #[.pointer (some ⟨p.pm,0,none⟩)] #[] (fun _ _=>by kernel_rfl) v hv (fun W hW=>HC W hW))
 clear M HC hk
 go_enter Tryz.func40,Tryz.ntmps40
 go_wp2_with (go_at_call 94;((with_reducible refine HW.out.mono ?_);rintro e1' w2 ⟨rfl,hg2,hA2⟩))
 go_ret
 exact ⟨rfl,hg2,hA2⟩
set_option maxRecDepth 100000 in
theorem mw_gen (p : MP) (w : World) (M : MG p w) (k : Nat) (x : ND) (hk : p.ns[k]? = some x) (v : Int) (hv : 0≤v∧v≤4096)
  (HC : ∀ W,MS p w W→Calls Tryz.prog 12 #[.pointer (some ⟨p.pm,0,none⟩),.int .i64 k] W (GPost v p W)) :
  Calls Tryz.prog 41 #[.pointer (some ⟨p.pm,0,none⟩),.int .i64 k] w (GPost (wishS x.wd v) p w):=by
 have HW:=zH (wish_gen p w M k x hk 12 #[.pointer (some ⟨p.pm,0,none⟩)] #[] (fun _ _=>by kernel_rfl) v hv (fun W hW=>HC W hW))
 clear M HC hk
 go_enter Tryz.func41,Tryz.ntmps41
 go_wp2_with (go_at_call 94;((with_reducible refine HW.out.mono ?_);rintro e1' w2 ⟨rfl,hg2,hA2⟩))
 go_ret
 exact ⟨rfl,hg2,hA2⟩
end Go.Proofs.YthhomflonpjbmaaGreatDoor
/-
 The walk of a measure's across at any node of any tree.
-/
namespace Go.Proofs.YthhomflonpjbmaaGreatDoor
open Go.RowKit Go.Maps
def acrossI (it : Itm) (how iw mw : Int) : Int :=
 min (intoS (if it.k = 0∧how ≠ 5 then mw else if it.k = 1 then it.n else if it.k = 2 then it.n * iw / it.d else iw) it) iw
theorem acrossM_eq (ns : List ND) (f : FN) (how iw k : Int) : acrossM ns f how iw k = acrossI (ndF ns k).wd how iw (mwS ns f k):=by unfold acrossM acrossW acrossI;rfl
set_option maxRecDepth 100000 in
set_option maxHeartbeats 4000000 in
theorem across_gen (p : MP) (w : World) (M : MG p w) (k : Nat) (x : ND) (hk : p.ns[k]? = some x) (hok : x.wd.ok) (how iw : Int) (hw : 0≤iw∧iw≤4096) (v : Int)
  (HC : ∀ W,MS p w W→Calls Tryz.prog 41 #[.pointer (some ⟨p.pm,0,none⟩),.int .i64 k] W (GPost v p W)) :
  Calls Tryz.prog 47 #[.pointer (some ⟨p.pm,0,none⟩),.int .i64 k,.int .i8 how,.int .i64 iw] w (GPost (acrossI x.wd how iw v) p w):=by
 have c0:=M.c0
 obtain ⟨kv,cv,hnd,_,_⟩:=M.node hk
 have y0:=hnd.w0
 have y1:=hnd.w1
 have y2:=hnd.w2
 have y3:=hnd.w3
 have y4:=hnd.w4
 clear hnd
 have lg:=M.lg hk
 have lp:=M.lp
 have hklt : k < p.ns.length:=(List.getElem?_eq_some_iff.1 hk).1
 have hbm : w.heap.size ≠ p.bm:=Nat.ne_of_gt M.lm
 have HI:=zH fun n W=>into_any n x.wd W
 unfold Itm.val at HI
 have HLL:=zH HC
 have HM:=zH M
 obtain ⟨it,hit⟩ : ∃ it,x.wd = it:=⟨_,rfl⟩
 rw [hit] at y0 y1 y2 y3 y4 HI hok ⊢
 clear HC M hk hit
 have hkr : it.k = 0∨it.k = 1∨it.k = 2∨it.k = 3:=by unfold Itm.ok RightP at hok;omega
 have hd2 : it.k = 2→0≤it.n∧it.n≤1000∧1≤it.d∧it.d≤1000:=by intro h;unfold Itm.ok RightP at hok;omega
 clear hok
 rcases hkr with h0 | h0 | h0 | h0
 ·have hkz : (it.k == 0) = true:=by rw [beq_iff_eq];exact h0
  have hk1 : (it.k == 1) = false:=by rw [beq_eq_false_iff_ne];omega
  have hk2 : (it.k == 2) = false:=by rw [beq_eq_false_iff_ne];omega
  by_cases h5 : how = 5
  ·as_aux_lemma=>
    have h5b : (how != 5) = false:=by simp [h5]
    have HK : Hid ((if it.k = 0∧how ≠ 5 then v else if it.k = 1 then it.n else if it.k = 2 then it.n * iw / it.d else iw) = iw):=zH (by rw [if_neg (by omega),if_neg (by omega),if_neg (by omega)])
    have HS0 : Hid (MG p (w.alloc (.cells #[.int .i8 it.k,.int .i64 it.n,.int .i64 it.d,.int .i64 it.mn,.int .i64 it.mx] 40))):=zH (HM.out.below (Below.alloc (Below.refl _ _) (Nat.le_refl _) _))
    have HI1:=zH (fun W=>HI.out (iw) W)
    obtain ⟨r,hr⟩ : ∃ r,intoS (iw) it = r:=⟨_,rfl⟩
    rw [hr] at HI1
    have HKR : Hid (min (intoS (if it.k = 0∧how ≠ 5 then v else if it.k = 1 then it.n else if it.k = 2 then it.n * iw / it.d else iw) it) iw = min r iw):=zH (by rw [HK.out,hr])
    clear HK hr HI h0 h5 hd2 HLL
    go_enter Tryz.func47,Tryz.ntmps47
    go_wp2_with (go_at_call 95;((with_reducible refine (HI1.out _).mono ?_);rintro e1' w6 ⟨rfl,hb6⟩))
    go_ret
    exact ⟨by unfold acrossI;rw [HKR.out];rfl,World.grownBy.trans (World.grownBy_alloc _ _ _) (grownBy_below hb6 _),HS0.out.below hb6⟩
  ·as_aux_lemma=>
    have h5b : (how != 5) = true:=by simp [h5]
    have HK : Hid ((if it.k = 0∧how ≠ 5 then v else if it.k = 1 then it.n else if it.k = 2 then it.n * iw / it.d else iw) = v):=zH (by rw [if_pos ⟨h0,h5⟩])
    have HS0 : Hid (MG p (w.alloc (.cells #[.int .i8 it.k,.int .i64 it.n,.int .i64 it.d,.int .i64 it.mn,.int .i64 it.mx] 40))):=zH (HM.out.below (Below.alloc (Below.refl _ _) (Nat.le_refl _) _))
    have HI1:=zH (fun W=>HI.out (v) W)
    obtain ⟨r,hr⟩ : ∃ r,intoS (v) it = r:=⟨_,rfl⟩
    rw [hr] at HI1
    have HKR : Hid (min (intoS (if it.k = 0∧how ≠ 5 then v else if it.k = 1 then it.n else if it.k = 2 then it.n * iw / it.d else iw) it) iw = min r iw):=zH (by rw [HK.out,hr])
    have S0 : WSg w w.heap.size it p (w.alloc (.cells #[.int .i8 it.k,.int .i64 it.n,.int .i64 it.d,.int .i64 it.mn,.int .i64 it.mx] 40)):=⟨cell_newC _ _ _ _ _ rfl,cell_newC _ _ _ _ _ rfl,cell_newC _ _ _ _ _ rfl,cell_newC _ _ _ _ _ rfl,cell_newC _ _ _ _ _ rfl,World.grownBy_alloc _ _ _,HM.out.below (Below.alloc (Below.refl _ _) (Nat.le_refl _) _)⟩
    have HS9:=zH S0
    have HCALL:=zH (HLL.out _ (S0.ms HM.out))
    clear HK hr HI h0 h5 hd2 HLL S0
    go_enter Tryz.func47,Tryz.ntmps47
    go_wp2_with (first | (go_at_call 95;((with_reducible refine (HI1.out _).mono ?_);rintro e1' w6 ⟨rfl,hb6⟩;have HS6:=zH (WSg.bel HS5.out hbm hb6))) | (go_at_call 41;((with_reducible refine HCALL.out.mono ?_);rintro e1' w5 ⟨rfl,hg5,hA5⟩;have HS5:=zH (WSg.call HS9.out hbm hg5 hA5);obtain ⟨u0,u1,u2,u3,u4,u5,u6⟩:=HS5.out;have hl5 : w.heap.size < w5.heap.size:=Nat.lt_of_lt_of_le (by simp) hg5.size;clear u5 u6)))
    go_ret
    exact ⟨by unfold acrossI;rw [HKR.out];rfl,HS6.out.2.2.2.2.2.1,HS6.out.2.2.2.2.2.2⟩
 ·as_aux_lemma=>
  have hkz : (it.k == 0) = false:=by rw [beq_eq_false_iff_ne];omega
  have hk1 : (it.k == 1) = true:=by rw [beq_iff_eq];exact h0
  have HK : Hid ((if it.k = 0∧how ≠ 5 then v else if it.k = 1 then it.n else if it.k = 2 then it.n * iw / it.d else iw) = it.n):=zH (by rw [if_neg (by omega),if_pos h0])
  have HS0 : Hid (MG p (w.alloc (.cells #[.int .i8 it.k,.int .i64 it.n,.int .i64 it.d,.int .i64 it.mn,.int .i64 it.mx] 40))):=zH (HM.out.below (Below.alloc (Below.refl _ _) (Nat.le_refl _) _))
  have HI1:=zH (fun W=>HI.out (it.n) W)
  obtain ⟨r,hr⟩ : ∃ r,intoS (it.n) it = r:=⟨_,rfl⟩
  rw [hr] at HI1
  have HKR : Hid (min (intoS (if it.k = 0∧how ≠ 5 then v else if it.k = 1 then it.n else if it.k = 2 then it.n * iw / it.d else iw) it) iw = min r iw):=zH (by rw [HK.out,hr])
  clear HK hr HI h0 hd2 HLL
  go_enter Tryz.func47,Tryz.ntmps47
  go_wp2_with (go_at_call 95;((with_reducible refine (HI1.out _).mono ?_);rintro e1' w6 ⟨rfl,hb6⟩))
  go_ret
  exact ⟨by unfold acrossI;rw [HKR.out];rfl,World.grownBy.trans (World.grownBy_alloc _ _ _) (grownBy_below hb6 _),HS0.out.below hb6⟩
 ·as_aux_lemma=>
  have hkz : (it.k == 0) = false:=by rw [beq_eq_false_iff_ne];omega
  have hk1 : (it.k == 1) = false:=by rw [beq_eq_false_iff_ne];omega
  have hk2 : (it.k == 2) = true:=by rw [beq_iff_eq];exact h0
  have HK : Hid ((if it.k = 0∧how ≠ 5 then v else if it.k = 1 then it.n else if it.k = 2 then it.n * iw / it.d else iw) = it.n * iw / it.d):=zH (by rw [if_neg (by omega),if_neg (by omega),if_pos h0])
  have HS0 : Hid (MG p (w.alloc (.cells #[.int .i8 it.k,.int .i64 it.n,.int .i64 it.d,.int .i64 it.mn,.int .i64 it.mx] 40))):=zH (HM.out.below (Below.alloc (Below.refl _ _) (Nat.le_refl _) _))
  have HI1:=zH (fun W=>HI.out (it.n * iw / it.d) W)
  obtain ⟨r,hr⟩ : ∃ r,intoS (it.n * iw / it.d) it = r:=⟨_,rfl⟩
  rw [hr] at HI1
  have HKR : Hid (min (intoS (if it.k = 0∧how ≠ 5 then v else if it.k = 1 then it.n else if it.k = 2 then it.n * iw / it.d else iw) it) iw = min r iw):=zH (by rw [HK.out,hr])
  obtain ⟨d1,d2,d3,d4⟩:=hd2 h0
  have hm0 : 0≤it.n * iw:=Int.mul_nonneg d1 hw.1
  have hm1 : it.n * iw≤4096000:=Int.le_trans (Int.mul_le_mul_of_nonneg_right d2 hw.1) (by omega)
  obtain ⟨X,hX⟩ : ∃ X,it.n * iw = X:=⟨_,rfl⟩
  rw [hX] at hm0 hm1 HI1
  have hwX : IntKind.i64.wrap X = X:=IntWalk.i64_in _ (by omega)
  have hq : X.tdiv it.d = X / it.d:=Int.tdiv_eq_ediv_of_nonneg hm0
  have hqr : 0≤X / it.d∧X / it.d≤X:=⟨Int.ediv_nonneg hm0 (by omega),Int.ediv_le_self _ hm0⟩
  have hdz : (it.d == 0) = false:=by rw [beq_eq_false_iff_ne];omega
  clear HK hr HI h0 hd2 HLL
  go_enter Tryz.func47,Tryz.ntmps47
  go_wp2_with (go_at_call 95;((with_reducible refine (HI1.out _).mono ?_);rintro e1' w6 ⟨rfl,hb6⟩))
  go_ret
  exact ⟨by unfold acrossI;rw [HKR.out];rfl,World.grownBy.trans (World.grownBy_alloc _ _ _) (grownBy_below hb6 _),HS0.out.below hb6⟩
 ·as_aux_lemma=>
  have hkz : (it.k == 0) = false:=by rw [beq_eq_false_iff_ne];omega
  have hk1 : (it.k == 1) = false:=by rw [beq_eq_false_iff_ne];omega
  have hk2 : (it.k == 2) = false:=by rw [beq_eq_false_iff_ne];omega
  have HK : Hid ((if it.k = 0∧how ≠ 5 then v else if it.k = 1 then it.n else if it.k = 2 then it.n * iw / it.d else iw) = iw):=zH (by rw [if_neg (by omega),if_neg (by omega),if_neg (by omega)])
  have HS0 : Hid (MG p (w.alloc (.cells #[.int .i8 it.k,.int .i64 it.n,.int .i64 it.d,.int .i64 it.mn,.int .i64 it.mx] 40))):=zH (HM.out.below (Below.alloc (Below.refl _ _) (Nat.le_refl _) _))
  have HI1:=zH (fun W=>HI.out (iw) W)
  obtain ⟨r,hr⟩ : ∃ r,intoS (iw) it = r:=⟨_,rfl⟩
  rw [hr] at HI1
  have HKR : Hid (min (intoS (if it.k = 0∧how ≠ 5 then v else if it.k = 1 then it.n else if it.k = 2 then it.n * iw / it.d else iw) it) iw = min r iw):=zH (by rw [HK.out,hr])
  clear HK hr HI h0 hd2 HLL
  go_enter Tryz.func47,Tryz.ntmps47
  go_wp2_with (go_at_call 95;((with_reducible refine (HI1.out _).mono ?_);rintro e1' w6 ⟨rfl,hb6⟩))
  go_ret
  exact ⟨by unfold acrossI;rw [HKR.out];rfl,World.grownBy.trans (World.grownBy_alloc _ _ _) (grownBy_below hb6 _),HS0.out.below hb6⟩
end Go.Proofs.YthhomflonpjbmaaGreatDoor
/-
 The walk of a measure's along at any node of any tree; Sizes at no items too.
-/
namespace Go.Proofs.YthhomflonpjbmaaGreatDoor
open Go.RowKit Go.Maps
def OutI (l : List Int) (w : World) (e : Ending) (w' : World) : Prop:=∃ v,e = .returned v∧Below w.heap.size w w'∧SlI w' v l
theorem NewI.out {l : List Int} {w w' : World} {e : Ending} (h : NewI l w e w') (hl : l.length≤17592186044416) : OutI l w e w':=by
 obtain ⟨b,rfl,hb,ha,hB⟩:=h
 exact ⟨_,rfl,hB,ArrI.sl ha hl _⟩
set_option maxRecDepth 100000 in
theorem sizes_zero (p : Option Addr) (c : Nat) (ext gap : Int) (W : World) : Calls Tryz.prog 96 #[.slice p 0 c,.int .i64 ext,.int .i64 gap] W (OutI [] W):=by
 go_enter Tryz.func96,Tryz.ntmps96
 go_wp2
 go_ret
 exact ⟨_,rfl,Below.refl _ _,none,0,rfl,by simp,fun i x h=>by simp at h⟩
end Go.Proofs.YthhomflonpjbmaaGreatDoor
/-
 What solve.Sizes answers: as many numbers as there are items, none of them great.
-/
namespace Go.Proofs.YthhomflonpjbmaaGreatDoor
open Go.RowKit
theorem bump_near (is : List Int) : ∀ (out : List Int) (B : Int),(∀ x ∈ out,0≤x∧x≤B)→∀ x ∈ bump out is,0≤x∧x≤B + is.length:=by
 induction is with
 |nil=>intro out B h x hx;have:=h x hx;simp;omega
 |cons i is ih=>
  intro out B h x hx
  simp only [bump] at hx
  have:=ih (out.set i.toNat (gd out i.toNat + 1)) (B + 1) (fun y hy=>by
   by_cases hlt : i.toNat < out.length
   ·rcases List.mem_or_eq_of_mem_set hy with hy | rfl
    ·have:=h y hy;omega
    ·have:=h (gd out i.toNat) (by simp [gd,List.getElem?_eq_getElem hlt])
     omega
   ·rw [List.set_eq_of_length_le (by omega)] at hy
    have:=h y hy;omega) x hx
  rw [List.length_cons];push_cast;omega
theorem topped_near {out rests : List Int} {left : Nat} {B : Int} (h : ∀ x ∈ out,0≤x∧x≤B) : ∀ x ∈ toppedS out rests left,0≤x∧x≤B + out.length:=by
 intro x hx
 have:=bump_near _ _ B h x hx
 have hl : ((stableS (ltR rests) (iota out.length)).take left).length≤out.length:=by
  rw [List.length_take,(kin_stable (ltR rests) (iota out.length)).1,iota_len];omega
 omega
theorem floor_le {t w a : Int} (ht : 0≤t) (hw : 0≤w) (ha : w≤a) : 0≤t * w / a∧t * w / a≤t:=by
 by_cases h0 : a = 0
 ·subst h0;simp;exact ht
 ·have hp : 0 < a:=by omega
  refine ⟨Int.ediv_nonneg (Int.mul_nonneg ht hw) (by omega),?_⟩
  have h1 : t * w≤t * a:=Int.mul_le_mul_of_nonneg_left ha ht
  exact Int.le_trans (Int.ediv_le_ediv hp h1) (by rw [Int.mul_ediv_cancel _ h0];exact Int.le_refl _)
theorem sumL_mem {l : List Int} (h : ∀ x ∈ l,0≤x) {x : Int} (hx : x ∈ l) : 0≤x∧x≤sumL l:=by
 have:=sumF_mem (f:=fun x=>x) h hx
 have e : sumF (fun x=>x) l = sumL l:=by rw [← sumL_map];simp
 exact ⟨h x hx,by rw [← e];exact this⟩
theorem shareS_near {t : Int} {ws : List Int} (ht : 0≤t) (h : ∀ x ∈ ws,0≤x) : ∀ x ∈ shareS t ws,0≤x∧x≤t + ws.length:=by
 intro x hx
 unfold shareS at hx
 split at hx
 ·have:=List.eq_of_mem_replicate hx;omega
 ·have:=topped_near (B:=t) (fun y hy=>by
   obtain ⟨w,hw,rfl⟩:=List.mem_map.1 hy
   have:=sumL_mem h hw
   exact floor_le ht this.1 this.2) x hx
  rw [List.length_map] at this
  exact this
theorem assign_near {B : Int} : ∀ (o r sz : List Int),(∀ x ∈ r,0≤x∧x≤B)→(∀ x ∈ sz,0≤x∧x≤B)→∀ x ∈ assign o r sz,0≤x∧x≤B
 | [],r,sz,_,h,x,hx=>h x (by simpa [assign] using hx)
 |_ :: _,[],sz,_,h,x,hx=>h x (by simpa [assign] using hx)
 |i :: o,y :: r,sz,h1,h2,x,hx=>by
  simp only [assign] at hx
  refine assign_near o r _ (fun z hz=>h1 z (by simp [hz])) (fun z hz=>?_) x hx
  rcases List.mem_or_eq_of_mem_set hz with hz | rfl
  ·exact h2 z hz
  ·exact h1 z (by simp)
theorem setMax_near {l : List Itm} (hl : ∀ x ∈ l,FItm x) : ∀ (o sz : List Int),(∀ i ∈ o,0≤i∧i < (l.length : Int))→(∀ x ∈ sz,0≤x∧x≤4096)→∀ x ∈ setMax l o sz,0≤x∧x≤4096
 | [],_,_,h,x,hx=>h x hx
 |i :: o,sz,h1,h2,x,hx=>by
  simp only [setMax] at hx
  refine setMax_near hl o _ (fun j hj=>h1 j (by simp [hj])) (fun z hz=>?_) x hx
  rcases List.mem_or_eq_of_mem_set hz with hz | rfl
  ·exact h2 z hz
  ·have:=hl _ (gi_mem (h1 i (by simp)))
   exact ⟨this.2.2.1,this.2.2.2.1⟩
theorem fillS_near {l : List Itm} (hl : ∀ x ∈ l,FItm x) (hn : l.length≤4096) {sz : List Int} (hz : SzOk l.length sz) {room : Int} (hr : room≤4096)
  (hm : sumF (fun i=>(gi l i).mn) (fill0 l sz room l.length).opn≤(fill0 l sz room l.length).rest) :
  (fillS l sz room).length = l.length∧∀ x ∈ fillS l sz room,0≤x∧x≤8192:=by
 obtain ⟨a1,a2,a3,a4,a5,a6,a7,a8⟩:=fill0_ok hl hz room l.length (Nat.le_refl _)
 have hw:=fill0_w l sz room l.length (Nat.le_refl _)
 unfold fillS fillE
 generalize fill0 l sz room l.length = s0 at *
 split
 ·refine ⟨by rw [setMax_len];exact hz.1,fun x hx=>?_⟩
  have:=setMax_near hl s0.opn sz (fun i hi=>⟨(a8 i hi).1,(a8 i hi).2.1⟩) hz.2 x hx
  omega
 ·have h0 : FI l ⟨s0.opn,s0.rest,s0.weight,sz⟩:=⟨a8,a7,hw,hm,by dsimp only;omega,hz⟩
  have hI:=rounds_inv hl l.length _ h0
  unfold tailS
  generalize rounds l l.length ⟨s0.opn,s0.rest,s0.weight,sz⟩ = g at *
  refine ⟨by rw [assign_len];exact hI.sz.1,fun x hx=>?_⟩
  have hmn : 0≤sumF (fun i=>(gi l i).mn) g.opn:=sumF_nonneg fun i hi=>(hl _ (gi_mem ⟨(hI.op i hi).1,(hI.op i hi).2.1⟩)).1
  have hrest : 0≤g.rest:=Int.le_trans hmn hI.rest
  refine assign_near g.opn _ g.sz (fun y hy=>?_) (fun y hy=>by have:=hI.sz.2 y hy;omega) x hx
  split at hy
  ·simp at hy
  ·have:=topped_near (B:=4096) (fun z hz=>by
    obtain ⟨i,hi,rfl⟩:=List.mem_map.1 hz
    have hi1:=(hl _ (gi_mem ⟨(hI.op i hi).1,(hI.op i hi).2.1⟩)).2.2.2.2.2 (hI.op i hi).2.2
    have hiw : (gi l i).n≤g.weight:=by
     rw [hI.w]
     exact sumF_mem (f:=fun i=>(gi l i).n) (fun j hj=>by
      have:=(hl _ (gi_mem ⟨(hI.op j hj).1,(hI.op j hj).2.1⟩)).2.2.2.2.2 (hI.op j hj).2.2
      omega) hi
    have:=floor_le hrest (show 0≤(gi l i).n by omega) hiw
    have:=hI.rt
    omega) y hy
   have hl2 : (shO l g.rest g.weight g.opn).length≤4096:=by unfold shO;rw [List.length_map];have:=hI.ol;omega
   omega
theorem normI_n (it : Itm) : ((normI it).k = 2→0≤(normI it).n∧(normI it).n≤1000∧1≤(normI it).d)∧((normI it).k ≠ 2→(normI it).k ≠ 3→0≤(normI it).n∧(normI it).n≤4096):=by
 unfold normI
 split
 ·rename_i h
  unfold Itm.ok RightP at h
  constructor <;> intros <;> omega
 ·constructor
  ·intro h;cases h
  ·intros;decide
theorem wantS_range {room : Int} (hr : 0≤room∧room≤4096) (it : Itm) : (normI it).mn≤wantS room (normI it)∧wantS room (normI it)≤4096000:=by
 have hf:=normI_fitm it
 have hn:=normI_n it
 unfold wantS
 by_cases h2 : (normI it).k = 2
 ·rw [if_pos h2]
  obtain ⟨b1,b2,b3⟩:=hn.1 h2
  have hm0 : 0≤(normI it).n * room:=Int.mul_nonneg b1 hr.1
  have hm1 : (normI it).n * room≤1000 * 4096:=Int.le_trans (Int.mul_le_mul_of_nonneg_right b2 hr.1) (by omega)
  have hq : (normI it).n * room / (normI it).d≤(normI it).n * room:=Int.ediv_le_self _ hm0
  obtain ⟨c1,c2,c3,c4,c5,_⟩:=hf
  unfold intoS
  split
  ·have:=c5 (by assumption);omega
  ·omega
 ·rw [if_neg h2]
  by_cases h3 : (normI it).k = 3
  ·rw [if_pos h3];have:=hf.2.1;omega
  ·rw [if_neg h3]
   have:=intoS_range hf (hn.2 h2 h3).2
   omega
theorem sizesS_near {its : List Itm} (h : its.length≤4096) (ext gap : Int) : (sizesS its ext gap).length = its.length∧∀ x ∈ sizesS its ext gap,-34359738368≤x∧x≤34359738368:=by
 unfold sizesS
 split
 ·rename_i h0
  have : its.length = 0:=by omega
  exact ⟨by simp [this],fun x hx=>by simp at hx⟩
 ·obtain ⟨room,hroom⟩ : ∃ room,max 0 (sideS ext - sideS gap * ((its.length : Int) - 1)) = room:=⟨_,rfl⟩
  have hr : 0≤room∧room≤4096:=by
   have h1:=sideS_range ext
   have h2 : 0≤sideS gap * ((its.length : Int) - 1):=Int.mul_nonneg (sideS_range gap).1 (by omega)
   omega
  simp only [hroom]
  have hmin : ∀ x ∈ (its.map normI).map Itm.mn,0≤x∧x≤4096:=fun x hx=>by
   obtain ⟨y,hy,rfl⟩:=List.mem_map.1 hx
   obtain ⟨z,_,rfl⟩:=List.mem_map.1 hy
   have:=normI_fitm z
   exact ⟨this.1,this.2.1⟩
  have hwant : ∀ x ∈ (its.map normI).map (wantS room),0≤x∧x≤4096000:=fun x hx=>by
   obtain ⟨y,hy,rfl⟩:=List.mem_map.1 hx
   obtain ⟨z,_,rfl⟩:=List.mem_map.1 hy
   have:=wantS_range hr z
   have:=(normI_fitm z).1
   omega
  have hlm : ((its.map normI).map Itm.mn).length = its.length:=by simp
  have hlw : ((its.map normI).map (wantS room)).length = its.length:=by simp
  have hover : ∀ x ∈ List.zipWith (· - ·) ((its.map normI).map (wantS room)) ((its.map normI).map Itm.mn),0≤x:=fun x hx=>by
   rw [List.map_map,List.map_map,List.zipWith_map] at hx
   obtain ⟨i,hi⟩:=List.mem_iff_getElem?.1 hx
   rw [List.getElem?_zipWith] at hi
   cases hz : its[i]? with
   |none=>simp [hz] at hi
   |some z=>
    simp [hz] at hi
    have:=wantS_range hr z
    omega
  have hfl : ∀ x ∈ its.map normI,FItm x:=fun x hx=>by
   obtain ⟨z,_,rfl⟩:=List.mem_map.1 hx
   exact normI_fitm z
  have hsw:=sumL_bound _ 4096000 hwant
  rw [hlw] at hsw
  have hsw2 : sumL ((its.map normI).map (wantS room))≤4096000 * 4096:=Int.le_trans hsw.2 (Int.mul_le_mul_of_nonneg_left (by omega) (by omega))
  split
  ·refine ⟨by rw [shareS_len,hlm],fun x hx=>?_⟩
   have:=shareS_near hr.1 (fun y hy=>(hmin y hy).1) x hx
   rw [hlm] at this
   omega
  ·split
   ·have hlo : (List.zipWith (· - ·) ((its.map normI).map (wantS room)) ((its.map normI).map Itm.mn)).length = its.length:=by simp
    refine ⟨by rw [List.length_zipWith,shareS_len,hlo,hlw];omega,fun x hx=>?_⟩
    have hsn:=shareS_near (t:=sumL ((its.map normI).map (wantS room)) - room) (by omega) hover
    rw [hlo] at hsn
    obtain ⟨i,hi⟩:=List.mem_iff_getElem?.1 hx
    rw [List.getElem?_zipWith] at hi
    cases hz : ((its.map normI).map (wantS room))[i]? with
    |none=>rw [hz] at hi;cases hi
    |some z=>
     cases hy : (shareS (sumL ((its.map normI).map (wantS room)) - room) (List.zipWith (· - ·) ((its.map normI).map (wantS room)) ((its.map normI).map Itm.mn)))[i]? with
     |none=>rw [hz,hy] at hi;cases hi
     |some y=>
      rw [hz,hy] at hi
      have e : z - y = x:=Option.some.inj hi
      have h1:=hwant z (List.mem_of_getElem? hz)
      have h2:=hsn y (List.mem_of_getElem? hy)
      omega
   ·have hs : sumL ((its.map normI).map (wantS room))≤room:=by omega
    have hsz : SzOk (its.map normI).length ((its.map normI).map (wantS room)):=⟨by simp,fun x hx=>by
     have:=sumL_mem (fun y hy=>(hwant y hy).1) hx
     omega⟩
    have:=fillS_near hfl (by simp;omega) hsz hr.2 (fill0_min (room0:=room) rfl hs)
    refine ⟨by rw [this.1];simp,fun x hx=>?_⟩
    have:=this.2 x hx
    omega
theorem sizes_all {p : Option Addr} {n c : Nat} {its : List Itm} {W : World} (hv : n = 0∨∃ b,p = some ⟨b,0,none⟩∧b < W.heap.size∧∀ (i : Nat) x,its[i]? = some x→ItmAt W b (i * 5) x) (hn : its.length = n) (h4 : n≤4096) (ext gap : Int) :
  Calls Tryz.prog 96 #[.slice p n c,.int .i64 ext,.int .i64 gap] W (OutI (sizesS its ext gap) W):=by
 rcases Nat.eq_zero_or_pos n with rfl | hp
 ·have e : sizesS its ext gap = []:=by unfold sizesS;rw [if_pos (.inl hn)]
  rw [e]
  exact sizes_zero p c ext gap W
 ·rcases hv with h | ⟨b,rfl,hb,hi⟩
  ·omega
  ·exact (sizes_any hi hb hn hp h4 ext gap).mono fun e w h=>NewI.out h (by have:=(sizesS_near (its:=its) (by omega) ext gap).1;omega)
end Go.Proofs.YthhomflonpjbmaaGreatDoor
