import Derived.Test.YtlenbcmgjancmaaGreatDoorMn32
import Derived.Test.YtlenbcmgjancmaaGreatDoorMn30
import Derived.Deep.MidRow
import Derived.Deep.WholeRow
set_option linter.unusedVariables false
set_option linter.unusedSimpArgs false
namespace Go.Proofs.YtlenbcmgjancmaaGreatDoor
open Go.RowKit Go.Maps
theorem load_nodeM {ops:Array Oper} {rest:List Oper} {a:Act} {Q:Exit→Act→World→Prop} {W:World} {dst:Option Tmp} {ty:TypeId} {x:Operand} {pos:String} {after:Array Edge} {b o:Nat} {cs:List Value}
  (hx:a.eval x=.pointer (some ⟨b,o,none⟩)) (hl:cs.length=34) (hc:∀ (j:Nat) (u:Value),cs[j]?=some u→W.cell? ⟨b,o+j,none⟩=some u)
  (h:∀ K:Act→World→Prop,(∀ a w,wpList Tryz.prog ops Q rest a w→K a w)→K (a.put dst (.agg cs.toArray)) W) :
  wpList Tryz.prog ops Q ({ dst:=dst,op:=.load 46 x,type:=ty,pos:=pos,after:=after,guard:=none } :: rest) a W :=
 wpList_load_mid rfl 46 x rfl b o hx cs _ hc Tryz.underlying46 rfl (by rw [hl];kernel_rfl) (h _ (fun _ _ h=>h))
theorem store_nodeM {ops:Array Oper} {rest:List Oper} {a:Act} {Q:Exit→Act→World→Prop} {W:World} {dst:Option Tmp} {ty:TypeId} {x y:Operand} {pos:String} {after:Array Edge} {c c':Array Value} {b:Nat}
  (hx:a.eval x=.pointer (some ⟨b,0,none⟩)) (hb:b=W.heap.size) (hy:a.eval y=.agg c') (hc:c.size=34) (hc':c'.size=34) (h1:c'.all (·.oneCell')=true)
  (h:∀ K:Act→World→Prop,(∀ a w,wpList Tryz.prog ops Q rest a w→K a w)→K (a.put dst undef) (W.alloc (.cells c' 46))) :
  wpList Tryz.prog ops Q ({ dst:=dst,op:=.store 46 x y,type:=ty,pos:=pos,after:=after,guard:=none } :: rest) a (W.alloc (.cells c 46)):=by
 refine wpList_plain rfl fun K hK=>?_
 subst hb
 unfold Oper.wp execOp
 have hi:(Tryz.prog.info? 46).map (·.size)=some c'.size:=by rw [hc'];kernel_rfl
 simp only [hx,hy,run_storeAt_new W 46 c c' hi (hc.trans hc'.symm) h1,Result.andThen,Sem.run_bind,Sem.run_pure]
 exact hK _ _ (h _ (fun _ _ h=>h))
def nodeL34 (w:World) (g o:Nat):List Value:=nodesC' w g o 1
theorem nodeL34_len (w:World) (g o:Nat):(nodeL34 w g o).length=34:=nodesC'_len w g o 1
theorem nodeL34_get {w:World} {g o:Nat} {x:ND} {kv cv:Value} (h:NodeV w g o x kv cv) (hk:kv.oneCell'=true) (hc:cv.oneCell'=true) {j:Nat} {u:Value} (hu:(nodeL34 w g o)[j]?=some u):w.cell? ⟨g,o+j,none⟩=some u∧u.oneCell'=true:=by
 have hj:j<34:=by have:=(List.getElem?_eq_some_iff.1 hu).1;rwa [nodeL34_len] at this
 obtain⟨v,h1,h2⟩:=h.at hk hc j hj
 have:=nodesC'_get (n:=1) (by omega) h1
 unfold nodeL34 at hu
 rw [hu] at this
 obtain rfl:=Option.some.inj this
 exact⟨h1,h2⟩
theorem node_copied {w W:World} {g o:Nat} {x:ND} {kv cv:Value} (h:NodeV w g o x kv cv):NodeV (W.alloc (.cells (nodeL34 w g o).toArray 46)) W.heap.size 0 x kv cv :=
 h.move fun q u hq hu=>by
  rw [Nat.zero_add]
  have:Arr (W.alloc (.cells (nodeL34 w g o).toArray 46)) W.heap.size (nodeL34 w g o) 46:=heap_alloc_new W _
  exact this.cell (nodesC'_get (n:=1) (by omega) hu)
def SomeB (w:World) (e:Ending) (w':World):Prop:=∃ b:Bool,e=.returned (.bool b)∧Below w.heap.size w w'
set_option maxRecDepth 100000 in
set_option maxHeartbeats 4000000 in
theorem beyond_any (w:World) (p:Option Addr) (c:Nat) (ns:List ND) (hT:TreeAt w p ns) (hl:ns.length≤4398046511104) (hz:∀ x ∈ ns,NSz x) :
  Calls Tryz.prog 7 #[.agg #[.slice p ns.length c]] w (SomeB w):=by
 have HT:=zH hT
 have HZ:=zH hz
 obtain⟨N,hN⟩:∃ N,ns.length=N:=⟨_,rfl⟩
 have HN:=zH hN
 rw [hN] at hl ⊢
 have h1:Below w.heap.size w (w.alloc (.cells #[.slice p N c] 24)):=Below.alloc (Below.refl _ _) (Nat.le_refl _) _
 have hc1:(w.alloc (.cells #[.slice p N c] 24)).cell? ⟨w.heap.size,0,none⟩=some (.slice p N c):=(show Arr (w.alloc (.cells #[.slice p N c] 24)) w.heap.size [.slice p N c] 24 from heap_alloc_new w _).cell (j:=0) rfl
 have hz1:w.heap.size<(w.alloc (.cells #[.slice p N c] 24)).heap.size:=by simp
 have H1:=zH h1
 have HC1:=zH hc1
 have HZ1:=zH hz1
 clear hT hz hN h1 hc1 hz1
 go_enter Tryz.func7,Tryz.ntmps7
 go_wp2
 generalize w.alloc (.cells #[.slice p N c] 24)=w1 at H1 HC1 HZ1 ⊢
 go_loopw [3,4] (fun s i wr=>∃ (k:Nat) (n:Int),s=.int .i64 n∧i=.int .i64 k∧k≤N∧0≤n∧n≤134217728∧Hid (Below w1.heap.size w1 wr)) (fun _ i _=>N - (intOf i).toNat)
 case atStart=>exact⟨0,0,rfl,rfl,by omega,by omega,by omega,zH (Below.refl _ _)⟩
 case round=>
  obtain⟨k,n,rfl,rfl,hk,hn0,hn1,HB⟩:=hrel
  have c1:=(HB.out.cell (p:=⟨w.heap.size,0,none⟩) HZ1.out).trans HC1.out
  have hzr:w1.heap.size≤wr.heap.size:=HB.out.size
  have hz1:=HZ1.out
  by_cases hlt:k<N
  ·have hltI:(k:Int)<(N:Int):=by omega
   obtain⟨x,hx⟩:∃ x,ns[k]?=some x:=⟨_,List.getElem?_eq_getElem (by rw [HN.out];exact hlt)⟩
   obtain⟨g,o,rfl,hg,kv,cv,hnd,hkv,hcv⟩:=HT.out k x hx
   have hsz:=HZ.out x (List.mem_of_getElem? hx)
   have hbw:Below w.heap.size w wr:=H1.out.trans (HB.out.mono H1.out.size)
   have hnw:=hnd.below hbw hg
   have hk1:=slI_one hkv
   have hc1:=slT_one hcv
   obtain⟨pk,ck,rfl,hkl,_⟩:=hkv
   obtain⟨pc,cc,rfl,hcl,_⟩:=hcv
   have HND:Hid (NodeV wr g (o+k*34) x (.slice pk x.kids.length ck) (.slice pc x.cols.length cc)):=zH hnw
   have HGT:Hid (∀ (j:Nat) (u:Value),(nodeL34 wr g (o+k*34))[j]?=some u→wr.cell? ⟨g,o+k*34+j,none⟩=some u∧u.oneCell'=true):=zH fun j u hu=>nodeL34_get hnw hk1 hc1 hu
   have HCP:Hid (NodeV (wr.alloc (.cells (nodeL34 wr g (o+k*34)).toArray 46)) wr.heap.size 0 x (.slice pk x.kids.length ck) (.slice pc x.cols.length cc)):=zH (node_copied hnw)
   have HBB:Hid (Below w1.heap.size w1 (wr.alloc (.cells (nodeL34 wr g (o+k*34)).toArray 46))):=zH (HB.out.alloc HB.out.size _)
   have hl34:=nodeL34_len wr g (o+k*34)
   have lgr:g<wr.heap.size:=Nat.lt_of_lt_of_le hg hbw.size
   obtain⟨i0,i1,i2,i3,i4⟩:=hsz
   clear hx hnd hbw hnw hk1 hc1
   go_upto_region 5 with (fail)
   generalize hcs:nodeL34 wr g (o+k*34)=cs at HGT HCP HBB hl34
   have HCS:=zH hcs
   clear hcs
   refine wp_region_lit ?_
   iterate 4 (refine wpList_plain rfl fun K1 hK1=>?_;unfold Oper.wp execOp;go_simp;refine hK1 _ _ ?_;clear hK1)
   refine load_nodeM (b:=g) (o:=o+k*34) (cs:=cs) rfl hl34 (fun j u hu=>(HGT.out j u hu).1) (fun K hK=>hK _ _ ?_)
   refine wpList_plain rfl fun K1 hK1=>?_
   unfold Oper.wp execOp
   go_simp
   refine hK1 _ _ ?_
   clear hK1
   refine store_nodeM (c':=cs.toArray) (b:=wr.heap.size) rfl rfl rfl rfl (by simpa using hl34) (by
    rw [List.all_toArray]
    exact List.all_eq_true.2 fun u hu=>by
     obtain⟨j,hj⟩:=List.mem_iff_getElem?.1 hu
     exact(HGT.out j u hj).2) (fun K hK=>hK _ _ ?_)
   have q1:=HCP.out.id
   have q2:=HCP.out.cl
   have q3:=HCP.out.kids
   have q4:=HCP.out.tx
   have q5:=HCP.out.cols
   simp only [Nat.zero_add] at q1 q2 q3 q4 q5
   generalize wr.alloc (.cells cs.toArray 46)=W5 at q1 q2 q3 q4 q5 HBB ⊢
   generalize wr.heap.size=b5 at *
   obtain⟨kd,id,cl,kids,wd,ht,gap,p0,p1,p2,p3,bd,al,cr,tx,md,fg,bg,ad,dr,cols,x0,x1,x2,x3,fl⟩:=x
   dsimp only at q1 q2 q3 q4 q5 i0 i1 i2 i3 i4
   generalize kids.length=s4 at q3 i3
   generalize cols.length=s5 at q5 i4
   clear HCP HGT HCS HND HB hl34 hkl hcl c1
   by_cases hgt:(134217728:Int)<n+1+(id.size:Int)+(cl.size:Int)+(tx.size:Int)+(s4:Int)+(s5:Int)
   ·go_wp2
    go_ret
    exact⟨true,rfl,H1.out.trans (HBB.out.mono H1.out.size)⟩
   ·have hgtb:decide ((134217728:Int)<n+1+(id.size:Int)+(cl.size:Int)+(tx.size:Int)+(s4:Int)+(s5:Int))=false:=decide_eq_false hgt
    go_wp2
    go_roundw
    case rel=>exact⟨k+1,_,rfl,by first|rfl|go_num,by omega,by omega,by omega,HBB⟩
    case measure=>simp [intOf]<;>omega
  ·have hltI:decide ((k:Int)<(N:Int))=false:=decide_eq_false (by omega)
   go_wp2
   go_ret
   exact⟨false,rfl,H1.out.trans (HB.out.mono H1.out.size)⟩
end Go.Proofs.YtlenbcmgjancmaaGreatDoor
