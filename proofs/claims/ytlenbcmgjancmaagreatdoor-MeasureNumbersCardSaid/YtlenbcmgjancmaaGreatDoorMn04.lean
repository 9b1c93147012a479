import Derived.Test.YtlenbcmgjancmaaGreatDoorProg
import Derived.WalkKit
import Derived.WalkSpells
import Derived.WalkLawsBesides
import Derived.WalkSmall
import Derived.Lib.SmallJoins
import Derived.Lib.Hide
import Derived.Test.YtlenbcmgjancmaaGreatDoorMn01
import Derived.Test.YtlenbcmgjancmaaGreatDoorMn03
set_option linter.unusedVariables false
set_option linter.unusedSimpArgs false
namespace Go.Proofs.YtlenbcmgjancmaaGreatDoor
open Go.RowKit
theorem below_drewN {B:Nat} {a w:World} (h:Below B a w) (n:Nat):Below B a (w.drewN n):=⟨h.os,h.tape,h.output,h.size,h.block⟩
structure ElOK (T e sz bytes:Nat) (z:Value):Prop where
 hT:Tryz.prog.underlying T=some (.slice e)
 hI:(Tryz.prog.info? e).map (fun i=>(i.zero,i.size,i.bytes))=some (some z,sz,bytes)
 hz:z.cells.size=sz
 hs:0<sz
 hb:bytes≤64
theorem wpList_append_new {ops:Array Oper} {rest:List Oper} {a:Act} {Q:Exit→Act→World→Prop} {W:World} {dst:Option Tmp} {ty:TypeId} {s x:Operand} {pos:String} {after:Array Edge} {v z:Value} {xs:List Value} {nw:Array Value} {B g n T e sz bytes:Nat}
  (E:ElOK T e sz bytes z) (hs:a.eval s=v) (hx:a.eval x=.slice (some ⟨g,0,none⟩) 1 1) (hg:g=W.heap.size) (hrow:W.ownsRow B e sz v n xs) (hB:B≤W.heap.size) (hlen:n<1000000000000)
  (hn:nw.size=sz) (h1:∀ u ∈ nw.toList,u.oneCell'=true)
  (h:∀ v' w',w'.ownsRow B e sz v' (n+1) (xs ++ nw.toList)→(W.alloc (.cells nw e)).grownBy w' v.ownBlock→(v'.ownBlock=v.ownBlock∨v'.ownBlock=some (W.heap.size+1))→∀ K:Act→World→Prop,(∀ a w,wpList Tryz.prog ops Q rest a w→K a w)→K (a.put dst v') w') :
  wpList Tryz.prog ops Q ({ dst:=dst,op:=.call { callee:=.builtin .append,args:=#[s,x],argTypes:=#[T,T] },type:=ty,pos:=pos,after:=after,guard:=none } :: rest) a (W.alloc (.cells nw e)):=by
 obtain⟨i0,hi,hz0,hz1,hz2⟩:=info_parts E.hI
 subst hg
 have hb:=E.hb
 refine wpList_append_place (w:=W.alloc (.cells nw e)) rfl s x T rfl B e i0 z sz bytes E.hT hi hz0 hz1 hz2 E.hz E.hs v n xs hs (hrow.alloc _)
  ⟨W.heap.size,0,none⟩ 1 1 nw.toList hx (by simp [hn]) ?_ h1 ?_ ?_ ?_ (by decide) ?_
 ·intro j u hj
  have hj':j<nw.size:=by have:=(List.getElem?_eq_some_iff.1 hj).1;simpa using this
  have:(W.alloc (.cells nw e)).cell? ⟨W.heap.size,0+j,none⟩=nw[j]?:=by rw [Nat.zero_add];exact World.cell?_alloc_new _ _ _ _
  rw [show (⟨W.heap.size,0,none⟩:Addr).add j=⟨W.heap.size,0+j,none⟩ by simp [Addr.add];omega]
  exact this.trans (by simpa using hj)
 ·simp [maxLen];omega
 ·have:(n+1)*bytes≤1000000000000*64:=Nat.mul_le_mul (by omega) hb
  omega
 ·simp;omega
 ·intro v' w' hown hgr hp
  rw [World.size_alloc] at hp
  exact h v' w' hown hgr hp _ (fun _ _ h=>h)
theorem wpList_append_cells {ops:Array Oper} {rest:List Oper} {a:Act} {Q:Exit→Act→World→Prop} {W:World} {dst:Option Tmp} {ty:TypeId} {s x:Operand} {pos:String} {after:Array Edge} {v z:Value} {xs news:List Value} {B g o n m c T e sz bytes:Nat}
  (E:ElOK T e sz bytes z) (hs:a.eval s=v) (hx:a.eval x=.slice (some ⟨g,o,none⟩) m c) (hl:news.length=m*sz) (hnews:∀ j u,news[j]?=some u→W.cell? ⟨g,o+j,none⟩=some u) (h1:∀ u ∈ news,u.oneCell'=true)
  (hrow:W.ownsRow B e sz v n xs) (hB:B≤W.heap.size) (hlen:n+m<1000000000000) (hm:0<m)
  (h:∀ v' w',w'.ownsRow B e sz v' (n+m) (xs ++ news)→W.grownBy w' v.ownBlock→(v'.ownBlock=v.ownBlock∨v'.ownBlock=some W.heap.size)→∀ K:Act→World→Prop,(∀ a w,wpList Tryz.prog ops Q rest a w→K a w)→K (a.put dst v') w') :
  wpList Tryz.prog ops Q ({ dst:=dst,op:=.call { callee:=.builtin .append,args:=#[s,x],argTypes:=#[T,T] },type:=ty,pos:=pos,after:=after,guard:=none } :: rest) a W:=by
 obtain⟨i0,hi,hz0,hz1,hz2⟩:=info_parts E.hI
 have hb:=E.hb
 refine wpList_append_place (w:=W) rfl s x T rfl B e i0 z sz bytes E.hT hi hz0 hz1 hz2 E.hz E.hs v n xs hs hrow
  ⟨g,o,none⟩ m c news hx hl ?_ h1 ?_ ?_ hB hm ?_
 ·intro j u hj
  rw [show (⟨g,o,none⟩:Addr).add j=⟨g,o+j,none⟩ by simp [Addr.add]]
  exact hnews j u hj
 ·simp [maxLen];omega
 ·have:(n+m)*bytes≤1000000000000*64:=Nat.mul_le_mul (by omega) hb
  omega
 ·intro v' w' hown hgr hp
  exact h v' w' hown hgr hp _ (fun _ _ h=>h)
theorem news_of_alloc (w:World) (cs:Array Value) (t k:Nat) (news:List Value) (h:news=cs.toList.take k):∀ (j:Nat) u,news[j]?=some u→(w.alloc (.cells cs t)).cell? ⟨w.heap.size,0+j,none⟩=some u:=by
 intro j u hj
 subst h
 rw [Nat.zero_add,World.cell?_alloc_new]
 obtain⟨h1,h2⟩:=List.getElem?_eq_some_iff.1 hj
 rw [List.getElem_take] at h2
 rw [← h2]
 simp at h1 ⊢
theorem orow_le {w:World} {base base' size n e:Nat} {v:Value} {xs:List Value} (h:w.ownsRow base e size v n xs) (hb:base'≤base):w.ownsRow base' e size v n xs :=
 ⟨h.1,h.2.elim Or.inl (fun ⟨g,cap,cur,hv,hg,r⟩=>Or.inr ⟨g,cap,cur,hv,Nat.le_trans hb hg,r⟩)⟩
theorem orow_below {w w':World} {B B' e sz n:Nat} {v:Value} {xs:List Value} (h:w.ownsRow B e sz v n xs) (hb:Below B' w w') (hv:∀ k,v.ownBlock=some k→k<B'):w'.ownsRow B e sz v n xs:=by
 refine⟨h.1,?_⟩
 rcases h.2 with h'|⟨g,cap,cur,h1,h2,h3,h4⟩
 ·exact .inl h'
 ·refine .inr ⟨g,cap,cur,h1,h2,?_,h4⟩
  rw [hb.block g (hv g (by simp [h1,Value.ownBlock]))];exact h3
theorem orow_belowSize {w w':World} {B e sz n:Nat} {v:Value} {xs:List Value} (h:w.ownsRow B e sz v n xs) (hb:Below w.heap.size w w'):w'.ownsRow B e sz v n xs :=
 orow_below h hb fun k hk=>(World.ownsRow.lt h k hk).2
def VRow (e sz n:Nat) (xs:List Value) (w:World) (r:Ending) (w':World):Prop:=∃ v,r=.returned v∧Below w.heap.size w w'∧w'.ownsRow w.heap.size e sz v n xs
end Go.Proofs.YtlenbcmgjancmaaGreatDoor
namespace Go.Proofs.YtlenbcmgjancmaaGreatDoor
open Go.RowKit
set_option maxRecDepth 100000 in
theorem side_any (n:Int) (hn : -9223372036854775808≤n∧n≤9223372036854775807) (w:World):Calls Tryz.prog 21 #[.int .i64 n] w (VRet (.int .i64 (min (max n 0) 4096)) w):=by
 clear hn
 go_enter Tryz.func21,Tryz.ntmps21
 go_wp2
 all_goals
  go_ret
  refine⟨?_,rfl⟩
  simp
  try omega
end Go.Proofs.YtlenbcmgjancmaaGreatDoor
