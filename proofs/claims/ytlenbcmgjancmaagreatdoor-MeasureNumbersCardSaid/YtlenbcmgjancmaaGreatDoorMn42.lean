import Derived.Test.YtlenbcmgjancmaaGreatDoorMn35
import Derived.Test.YtlenbcmgjancmaaGreatDoorMn36
import Derived.Test.YtlenbcmgjancmaaGreatDoorMn41
set_option linter.unusedVariables false
set_option linter.unusedSimpArgs false
namespace Go.Proofs.YtlenbcmgjancmaaGreatDoor
open Go.RowKit
def PlS (w:World) (b N:Nat) (L:List Int) (k:Nat) (W:World):Prop :=
 ∃ P:List Int,P.length=N∧W.ownsRow w.heap.size 3 1 (.slice (some ⟨b,0,none⟩) N N) N (ivl P)∧Below w.heap.size w W∧∀ (j:Nat) (o:Int),j<k→L[j]?=some o→P[o.toNat]?=some (j:Int)
theorem PlS.put {w:World} {b N:Nat} {L:List Int} {k:Nat} {W:World} (h:PlS w b N L k W) (hn:L.Nodup) (hr:∀ a ∈ L,0≤a∧a<(N:Int)) {o:Int} (ho:L[k]?=some o) (hb:w.heap.size≤b):PlS w b N L (k+1) (W.setCell ⟨b,o.toNat,none⟩ (.int .i64 k)):=by
 obtain⟨P,h1,h2,h3,h4⟩:=h
 obtain⟨s1,s2⟩:=h2.stored o.toNat (.int .i64 k)
 refine⟨P.set o.toNat k,by simpa using h1,by simpa [ivl,List.map_set] using s1,h3.setCell (p:=⟨b,o.toNat,none⟩) hb _,fun j o' hj ho'=>?_⟩
 have ho1:=hr o (List.mem_of_getElem? ho)
 have ho2:=hr o' (List.mem_of_getElem? ho')
 by_cases e:j=k
 ·subst e
  obtain rfl:o=o':=Option.some.inj (ho.symm.trans ho')
  rw [List.getElem?_set_self (by omega)]
 ·have hne:o ≠ o':=fun e'=>by
   subst e'
   exact e ((List.getElem?_inj (List.getElem?_eq_some_iff.1 ho').1 hn).1 (ho'.trans ho.symm))
  rw [List.getElem?_set_ne (by omega)]
  exact h4 j o' (by omega) ho'
def plOf (P:List Int) (o:Int):Int:=(P[o.toNat]?).getD 0
theorem nodeV_34 {W:World} {g o:Nat} {x:ND} {kv cv:Value} (h:∀ q u,(node34 x kv cv)[q]?=some u→W.cell? ⟨g,o+q,none⟩=some u):NodeV W g o x kv cv :=
 ⟨h 0 _ rfl,h 1 _ rfl,h 2 _ rfl,h 3 _ rfl,h 4 _ rfl,h 5 _ rfl,h 6 _ rfl,h 7 _ rfl,h 8 _ rfl,h 9 _ rfl,h 10 _ rfl,h 11 _ rfl,h 12 _ rfl,h 13 _ rfl,h 14 _ rfl,h 15 _ rfl,h 16 _ rfl,h 17 _ rfl,h 18 _ rfl,h 19 _ rfl,h 20 _ rfl,h 21 _ rfl,h 22 _ rfl,h 23 _ rfl,h 24 _ rfl,h 25 _ rfl,h 26 _ rfl,h 27 _ rfl,h 28 _ rfl,h 29 _ rfl,h 30 _ rfl,h 31 _ rfl,h 32 _ rfl,h 33 _ rfl⟩
theorem NodeV.of34 {W:World} {g o:Nat} {x:ND} {kv cv:Value} (h:NodeV W g o x kv cv):∀ q u,(node34 x kv cv)[q]?=some u→W.cell? ⟨g,o+q,none⟩=some u
 | 0,u,hu=>by obtain rfl:=Option.some.inj hu;exact h.kd
 | 1,u,hu=>by obtain rfl:=Option.some.inj hu;exact h.id
 | 2,u,hu=>by obtain rfl:=Option.some.inj hu;exact h.cl
 | 3,u,hu=>by obtain rfl:=Option.some.inj hu;exact h.kids
 | 4,u,hu=>by obtain rfl:=Option.some.inj hu;exact h.w0
 | 5,u,hu=>by obtain rfl:=Option.some.inj hu;exact h.w1
 | 6,u,hu=>by obtain rfl:=Option.some.inj hu;exact h.w2
 | 7,u,hu=>by obtain rfl:=Option.some.inj hu;exact h.w3
 | 8,u,hu=>by obtain rfl:=Option.some.inj hu;exact h.w4
 | 9,u,hu=>by obtain rfl:=Option.some.inj hu;exact h.h0
 | 10,u,hu=>by obtain rfl:=Option.some.inj hu;exact h.h1
 | 11,u,hu=>by obtain rfl:=Option.some.inj hu;exact h.h2
 | 12,u,hu=>by obtain rfl:=Option.some.inj hu;exact h.h3
 | 13,u,hu=>by obtain rfl:=Option.some.inj hu;exact h.h4
 | 14,u,hu=>by obtain rfl:=Option.some.inj hu;exact h.gap
 | 15,u,hu=>by obtain rfl:=Option.some.inj hu;exact h.p0
 | 16,u,hu=>by obtain rfl:=Option.some.inj hu;exact h.p1
 | 17,u,hu=>by obtain rfl:=Option.some.inj hu;exact h.p2
 | 18,u,hu=>by obtain rfl:=Option.some.inj hu;exact h.p3
 | 19,u,hu=>by obtain rfl:=Option.some.inj hu;exact h.bd
 | 20,u,hu=>by obtain rfl:=Option.some.inj hu;exact h.al
 | 21,u,hu=>by obtain rfl:=Option.some.inj hu;exact h.cr
 | 22,u,hu=>by obtain rfl:=Option.some.inj hu;exact h.tx
 | 23,u,hu=>by obtain rfl:=Option.some.inj hu;exact h.md
 | 24,u,hu=>by obtain rfl:=Option.some.inj hu;exact h.fg
 | 25,u,hu=>by obtain rfl:=Option.some.inj hu;exact h.bg
 | 26,u,hu=>by obtain rfl:=Option.some.inj hu;exact h.ad
 | 27,u,hu=>by obtain rfl:=Option.some.inj hu;exact h.dr
 | 28,u,hu=>by obtain rfl:=Option.some.inj hu;exact h.cols
 | 29,u,hu=>by obtain rfl:=Option.some.inj hu;exact h.x0
 | 30,u,hu=>by obtain rfl:=Option.some.inj hu;exact h.x1
 | 31,u,hu=>by obtain rfl:=Option.some.inj hu;exact h.x2
 | 32,u,hu=>by obtain rfl:=Option.some.inj hu;exact h.x3
 | 33,u,hu=>by obtain rfl:=Option.some.inj hu;exact h.fl
 |n+34,u,hu=>by simp [node34] at hu
theorem NodeV.ren {W:World} {g o:Nat} {x:ND} {kv cv:Value} (h:NodeV W g o x kv cv) (pl:Int→Int):NodeV W g o (renN pl x) kv cv :=
 ⟨h.kd,h.id,h.cl,h.kids,h.w0,h.w1,h.w2,h.w3,h.w4,h.h0,h.h1,h.h2,h.h3,h.h4,h.gap,h.p0,h.p1,h.p2,h.p3,h.bd,h.al,h.cr,h.tx,h.md,h.fg,h.bg,h.ad,h.dr,h.cols,h.x0,h.x1,h.x2,h.x3,h.fl⟩
theorem node34_one {x:ND} {kv cv:Value} (hk:kv.oneCell'=true) (hc:cv.oneCell'=true):∀ u ∈ node34 x kv cv,u.oneCell'=true:=by
 intro u hu
 simp only [node34,List.mem_cons,List.not_mem_nil,or_false] at hu
 rcases hu with rfl|rfl|rfl|rfl|rfl|rfl|rfl|rfl|rfl|rfl|rfl|rfl|rfl|rfl|rfl|rfl|rfl|rfl|rfl|rfl|rfl|rfl|rfl|rfl|rfl|rfl|rfl|rfl|rfl|rfl|rfl|rfl|rfl|rfl<;>first|rfl|assumption
abbrev NT:=ND × Value × Value
def nodeT (t:NT):List Value:=node34 t.1 t.2.1 t.2.2
def flatN (T:List NT):List Value:=T.flatMap nodeT
theorem flatN_get:∀ (T:List NT) (i:Nat) (t:NT),T[i]?=some t→∀ q,q<34→(flatN T)[i*34+q]?=(nodeT t)[q]?
 | [],i,t,h,_,_=>by simp at h
 |t' :: T,0,t,h,q,hq=>by
  obtain rfl:t'=t:=by simpa using h
  simp only [flatN,List.flatMap_cons,Nat.zero_mul,Nat.zero_add]
  rw [List.getElem?_append_left (by rw [show (nodeT t').length=34 from rfl];exact hq)]
 |t' :: T,i+1,t,h,q,hq=>by
  have ih:=flatN_get T i t (by simpa using h) q hq
  simp only [flatN,List.flatMap_cons] at ih ⊢
  rw [List.getElem?_append_right (by rw [show (nodeT t').length=34 from rfl];omega),show (nodeT t').length=34 from rfl,show (i+1)*34+q - 34=i*34+q by omega]
  exact ih
theorem SlI.grown {W W':World} {v:Value} {l:List Int} {r:Option Nat} (h:SlI W v l) (hg:W.grownBy W' r) (ho:∀ b,r=some b→Off v l b):SlI W' v l:=by
 obtain⟨p,c,rfl,hl,hx⟩:=h
 refine⟨p,c,rfl,hl,fun i y hi=>?_⟩
 obtain⟨g,o,rfl,hgs,hc⟩:=hx i y hi
 refine⟨g,o,rfl,Nat.lt_of_lt_of_le hgs hg.size,?_⟩
 rw [← hc]
 exact cell_heap (hg.block g hgs fun e=>ho g e.symm ⟨g,o,none⟩ _ _ rfl (by intro e;subst e;simp at hi) rfl)
structure NumQ (w:World) (b:Nat) (v:Value) (T:List NT) (W:World):Prop where
 box:Boxed W b 24 v
 row:W.ownsRow w.heap.size 46 34 v T.length (flatN T)
 kid:∀ t ∈ T,SlI W t.2.1 t.1.kids∧Off t.2.1 t.1.kids b∧∀ g,v.ownBlock=some g→Off t.2.1 t.1.kids g
 col:∀ t ∈ T,SlT w t.2.2 t.1.cols
 lo:w.heap.size≤b
 bel:Below w.heap.size w W
theorem NumQ.below {w W W':World} {b:Nat} {v:Value} {T:List NT} (h:NumQ w b v T W) (hb:Below W.heap.size W W'):NumQ w b v T W' :=
 ⟨(hb.block b h.box.lt).trans h.box,orow_belowSize h.row hb,fun t ht=>⟨(h.kid t ht).1.below hb,(h.kid t ht).2⟩,h.col,h.lo,h.bel.trans (hb.mono h.bel.size)⟩
theorem NumQ.add {w W w9:World} {b:Nat} {v v':Value} {T:List NT} {x:ND} {kv cv:Value} {tmp:Obj} (h:NumQ w b v T W) (hk:SlI W kv x.kids) (hk1:Off kv x.kids b) (hk2:∀ g,v.ownBlock=some g→Off kv x.kids g) (hc:SlT w cv x.cols)
  (hrow:w9.ownsRow w.heap.size 46 34 v' (T.length+1) (flatN T ++ node34 x kv cv)) (hgr:(W.alloc tmp).grownBy w9 v.ownBlock) (hpl:v'.ownBlock=v.ownBlock∨v'.ownBlock=some (W.heap.size+1)):NumQ w b v' (T ++ [(x,kv,cv)]) (w9.setCell ⟨b,0,none⟩ v'):=by
 obtain⟨_,a2,a3,_,a5⟩:=h.box.appended (by decide) h.row h.bel.size h.lo hrow hgr
 have hal:Below W.heap.size W (W.alloc tmp):=Below.alloc (Below.refl _ _) (Nat.le_refl _) _
 have step:∀ (kv:Value) (l:List Int),SlI W kv l→Off kv l b→(∀ g,v.ownBlock=some g→Off kv l g)→SlI (w9.setCell ⟨b,0,none⟩ v') kv l∧Off kv l b∧∀ g,v'.ownBlock=some g→Off kv l g:=fun kv l s1 s2 s3=>by
  refine⟨((s1.below hal).grown hgr s3).setN s2 0 v',s2,fun g hg=>?_⟩
  rcases hpl with e|e
  ·exact s3 g (e ▸ hg)
  ·rw [e] at hg
   obtain rfl:=Option.some.inj hg
   exact s1.off (by omega)
 refine⟨a2,?_,fun t ht=>?_,fun t ht=>?_,h.lo,h.bel.trans a5⟩
 ·rw [List.length_append,show flatN (T ++ [(x,kv,cv)])=flatN T ++ node34 x kv cv by simp [flatN,nodeT]]
  exact a3
 ·rcases List.mem_append.1 ht with ht|ht
  ·exact step _ _ (h.kid t ht).1 (h.kid t ht).2.1 (h.kid t ht).2.2
  ·rw [List.mem_singleton] at ht
   subst ht
   exact step _ _ hk hk1 hk2
 ·rcases List.mem_append.1 ht with ht|ht
  ·exact h.col t ht
  ·rw [List.mem_singleton] at ht
   subst ht
   exact hc
theorem NumQ.tree {w W:World} {b g c:Nat} {T:List NT} (h:NumQ w b (.slice (some ⟨g,0,none⟩) T.length c) T W):TreeAt W (some ⟨g,0,none⟩) (T.map (·.1)):=by
 intro i x hx
 rw [List.getElem?_map] at hx
 cases ht:T[i]? with
 |none=>rw [ht] at hx;cases hx
 |some t=>
  rw [ht] at hx
  obtain rfl:t.1=x:=by simpa using hx
  have hm:=List.mem_of_getElem? ht
  refine⟨g,0,rfl,(h.row.lt g rfl).2,t.2.1,t.2.2,nodeV_34 fun q u hu=>?_,(h.kid t hm).1,?_⟩
  ·have hq:q<34:=(List.getElem?_eq_some_iff.1 hu).1
   rw [Nat.zero_add,h.row.cellAt (i*34+q) (by have:=(List.getElem?_eq_some_iff.1 ht).1;omega),flatN_get T i t ht q hq]
   exact hu
  ·obtain⟨p,c',e,hl,hxx⟩:=h.col t hm
   exact SlT.below ⟨p,c',e,hl,hxx⟩ h.bel
structure TwoO (w:World) (p q:MP) (g:Nat) (L:List Int) (W:World):Prop where
 two:Two w p q W
 ord:∀ (j:Nat) (o:Int),L[j]?=some o→W.cell? ⟨g,j,none⟩=some (.int .i64 o)
 lt:g<W.heap.size
 np:p.bm ≠ g
 nq:q.bm ≠ g
theorem TwoO.callp {w W W':World} {p q:MP} {g:Nat} {L:List Int} {v:Int} {e:Ending} (h:TwoO w p q g L W) (hc:GPost v p W e W'):TwoO w p q g L W' :=
 ⟨h.two.callp hc,fun j o ho=>(cell_heap (hc.2.1.block g h.lt fun e=>h.np (Option.some.inj e).symm)).trans (h.ord j o ho),Nat.lt_of_lt_of_le h.lt hc.2.1.size,h.np,h.nq⟩
theorem TwoO.callq {w W W':World} {p q:MP} {g:Nat} {L:List Int} {v:Int} {e:Ending} (h:TwoO w p q g L W) (hc:GPost v q W e W'):TwoO w p q g L W' :=
 ⟨h.two.callq hc,fun j o ho=>(cell_heap (hc.2.1.block g h.lt fun e=>h.nq (Option.some.inj e).symm)).trans (h.ord j o ho),Nat.lt_of_lt_of_le h.lt hc.2.1.size,h.np,h.nq⟩
theorem TwoO.below {w W W':World} {p q:MP} {g:Nat} {L:List Int} (h:TwoO w p q g L W) (hb:Below W.heap.size W W'):TwoO w p q g L W' :=
 ⟨h.two.below hb,fun j o ho=>(cell_heap (hb.block g h.lt)).trans (h.ord j o ho),Nat.lt_of_lt_of_le h.lt hb.size,h.np,h.nq⟩
end Go.Proofs.YtlenbcmgjancmaaGreatDoor
