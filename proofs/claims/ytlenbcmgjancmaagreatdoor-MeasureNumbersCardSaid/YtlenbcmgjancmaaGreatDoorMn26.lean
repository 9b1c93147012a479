import Derived.Test.YtlenbcmgjancmaaGreatDoorMn25
import Derived.Test.YtlenbcmgjancmaaGreatDoorMn23
import Derived.Test.YtlenbcmgjancmaaGreatDoorMn20
import Derived.Deep.RegionLawGrows
import Derived.Deep.RegionWith
import Derived.IntWalk
set_option linter.unusedVariables false
set_option linter.unusedSimpArgs false
namespace Go.Proofs.YtlenbcmgjancmaaGreatDoor
open Go.RowKit
theorem step_append_row {ops:Array Oper} {o:Oper} {a:Act} {w:World} {K:Act→World→Prop} {Q:Exit→Act→World→Prop} {E:Prop} {T e sz bytes:Nat} {z:Value} (OK:ElOK T e sz bytes z)
  (hg:o.guard=none) (s x:Operand) (hop:o.op=Op.call { callee:=Callee.builtin Builtin.append,args:=#[s,x],argTypes:=#[T,T] })
  (v:Value) (n:Nat) (xs:List Value) (B:Nat) (hs:a.eval s=v) (hrow:w.ownsRow B e sz v n xs) (hB:B≤w.heap.size)
  (ad:Addr) (news:List Value) (hx:a.eval x=.slice (some ad) 1 1) (hn:news.length=sz) (hc:∀ j u,news[j]?=some u→w.cell? (ad.add j)=some u) (h1c:∀ u ∈ news,u.oneCell'=true) (hlen:n<1000000000000)
  (hK:∀ v' w',w'.ownsRow B e sz v' (n+1) (xs ++ news)→w.grownBy w' v.ownBlock→K (a.put o.dst v') w') :
  if Region.wanted o (yielded ops a.tmps)=true then Oper.wp Tryz.prog o a w K Q else E:=by
 have hw:Region.wanted o (yielded ops a.tmps)=true:=by simp [Region.wanted,hg]
 rw [if_pos hw]
 obtain⟨i0,hi,hz0,hz1,hz2⟩:=info_parts OK.hI
 have hb:=OK.hb
 have hmul:(n+1)*bytes≤1000000000000*64:=Nat.mul_le_mul (by omega) hb
 obtain⟨v',w',hrun,r1,r2,_⟩:=run_append_own (P:=Tryz.prog) (w:=w) B T o.type e i0 z sz bytes OK.hT hi hz0 hz1 hz2 OK.hz OK.hs v n xs hrow ad 1 1 news (by simpa using hn) hc h1c (by simp [maxLen];omega) (by omega) hB
 unfold Oper.wp
 simp [execOp,hop,resolve,invoke,builtin,hs,hx,hrun,Result.andThen]
 exact hK v' w' r1 r2
theorem elS4:ElOK 132 135 4 32 (.agg #[.int .i64 0,.int .i64 0,.int .i64 0,.int .i64 0]):=⟨Tryz.underlying132,by kernel_rfl,rfl,by decide,by decide⟩
abbrev spn0:Spn:=⟨0,0,0,0⟩
abbrev ArrS (W:World) (b:Nat) (l:List Spn):Prop:=Arr W b (flatC Spn.cells l) 135
section
variable {W:World} {b:Nat} {l:List Spn}
theorem ArrS.at (h:ArrS W b l) {i:Nat} {x:Spn} (hi:l[i]?=some x):SpnAt W b (i*4) x:=by
 have g:=fun j hj=>flatC_get Spn.cells_len l i j x hi hj
 exact⟨h.cell (j:=i*4) (by have:=g 0 (by omega);simpa [Spn.cells] using this),h.cell (j:=i*4+1) (by rw [g 1 (by omega)];rfl),h.cell (j:=i*4+2) (by rw [g 2 (by omega)];rfl),h.cell (j:=i*4+3) (by rw [g 3 (by omega)];rfl)⟩
theorem ArrS.put (h:ArrS W b l) {i:Nat} (hi:i<l.length) (x:Spn) :
  ArrS ((((W.setCell ⟨b,i*4,none⟩ (.int .i64 x.c)).setCell ⟨b,i*4+1,none⟩ (.int .i64 x.r)).setCell ⟨b,i*4+2,none⟩ (.int .i64 x.cs)).setCell ⟨b,i*4+3,none⟩ (.int .i64 x.rs)) b (l.set i x):=by
 have:=(((h.set (i*4) (.int .i64 x.c)).set (i*4+1) (.int .i64 x.r)).set (i*4+2) (.int .i64 x.cs)).set (i*4+3) (.int .i64 x.rs)
 unfold ArrS
 rw [flatC_set Spn.cells_len x l i hi]
 exact this
theorem ArrS.to (h:ArrS W b l) {l':List Spn} (e:l=l'):ArrS W b l':=e ▸ h
theorem ArrS.sl (h:ArrS W b l) (hl:l.length≤4398046511104) (c:Nat):SlS W (.slice (some ⟨b,0,none⟩) l.length c) l :=
 ⟨_,c,rfl,hl,fun i x hi=>⟨b,0,rfl,h.lt,by rw [Nat.zero_add];exact h.at hi⟩⟩
end
theorem ArrS.made (W:World) (n:Nat):ArrS (W.alloc (.cells (madeCells #[.int .i64 0,.int .i64 0,.int .i64 0,.int .i64 0] (n*4)) 135)) W.heap.size (List.replicate n spn0):=by
 unfold ArrS Arr
 rw [heap_alloc_new,← made_flat Spn.cells_len (by omega) spn0 n]
 rfl
theorem mk_spans (N:Nat) (hN:N≤4096) (w:World):(Instr.makeSlice 132 (.int .i64 N) (.int .i64 N)).run Tryz.prog w=.ok (.slice (some ⟨w.heap.size,0,none⟩) N N) (w.alloc (.cells (madeCells #[.int .i64 0,.int .i64 0,.int .i64 0,.int .i64 0] (N*4)) 135)):=by
 obtain⟨i0,hi,hz0,hz1,hz2⟩:=info_parts (P:=Tryz.prog) (show (Tryz.prog.info? 135).map (fun i=>(i.zero,i.size,i.bytes))=some (some (.agg #[.int .i64 0,.int .i64 0,.int .i64 0,.int .i64 0]),4,32) by kernel_rfl)
 have:=run_make (P:=Tryz.prog) w 132 135 i0 _ Tryz.underlying132 hi hz0 .i64 .i64 N N (by omega) (Int.le_refl _) (by rw [hz2];omega) (by omega)
 rw [hz1] at this
 simpa [Value.cells] using this
theorem sls_row {W:World} {B:Nat} {v:Value} {o:List Spn} (h:W.ownsRow B 135 4 v o.length (flatC Spn.cells o)) (hl:o.length≤4398046511104):SlS W v o:=by
 rcases h.2 with ⟨rfl,h0⟩|⟨g,cap,cur,rfl,hb,hg,hn,hc,hs,ht⟩
 ·exact⟨none,0,by rw [h0],hl,fun i x hi=>by obtain⟨h1,_⟩:=List.getElem?_eq_some_iff.1 hi;omega⟩
 ·refine⟨some ⟨g,0,none⟩,cap,rfl,hl,fun i x hi=>⟨g,0,rfl,(Array.getElem?_eq_some_iff.1 hg).1,?_⟩⟩
  have h1:i<o.length:=(List.getElem?_eq_some_iff.1 hi).1
  have gg:=fun j hj=>flatC_get Spn.cells_len o i j x hi hj
  have c:=fun j (hj:j<4)=>World.ownsRow.cellAt h (i*4+j) (by omega)
  rw [Nat.zero_add]
  have c0:=c 0 (by omega)
  have c1:=c 1 (by omega)
  have c2:=c 2 (by omega)
  have c3:=c 3 (by omega)
  rw [gg 0 (by omega)] at c0
  rw [gg 1 (by omega)] at c1
  rw [gg 2 (by omega)] at c2
  rw [gg 3 (by omega)] at c3
  exact⟨c0,c1,c2,c3⟩
structure FLW (W0 W:World) (bb ob B:Nat) (cols:Int) (v:Value) (tk out:List Spn):Prop where
 brd:Arr W bb [.int .i64 cols,v] 215
 row:W.ownsRow B 135 4 v tk.length (flatC Spn.cells tk)
 out:ArrS W ob out
 ne:bb ≠ ob
 n1:W0.heap.size≤bb
 n2:W0.heap.size≤ob
 b1:bb<B
 b2:ob<B
 g:Below W0.heap.size W0 W
section
variable {W0 W W':World} {bb ob B:Nat} {cols:Int} {v v':Value} {tk out:List Spn}
theorem FLW.below (h:FLW W0 W bb ob B cols v tk out) (hb:Below W.heap.size W W'):FLW W0 W' bb ob B cols v tk out :=
 ⟨h.brd.below hb,orow_belowSize h.row hb,h.out.below hb,h.ne,h.n1,h.n2,h.b1,h.b2,Below.trans h.g (hb.mono h.g.size)⟩
theorem FLW.drew (h:FLW W0 W bb ob B cols v tk out) (n:Nat):FLW W0 (W.drewN n) bb ob B cols v tk out:=h.below (below_drewN (Below.refl _ _) n)
theorem FLW.vne (h:FLW W0 W bb ob B cols v tk out) {k:Nat} (hk:k<B):v.ownBlock ≠ some k:=fun e=>by have:=(h.row.lt k e).1;omega
theorem FLW.put (h:FLW W0 W bb ob B cols v tk out) {i:Nat} (hi:i<out.length) (x:Spn):FLW W0 ((((W.setCell ⟨ob,i*4,none⟩ (.int .i64 x.c)).setCell ⟨ob,i*4+1,none⟩ (.int .i64 x.r)).setCell ⟨ob,i*4+2,none⟩ (.int .i64 x.cs)).setCell ⟨ob,i*4+3,none⟩ (.int .i64 x.rs)) bb ob B cols v tk (out.set i x):=by
 have hg:=grown_trans (grown_trans (grown_trans (grown_set W ob (i*4) (.int .i64 x.c)) (grown_set _ ob (i*4+1) (.int .i64 x.r))) (grown_set _ ob (i*4+2) (.int .i64 x.cs))) (grown_set _ ob (i*4+3) (.int .i64 x.rs))
 refine⟨h.brd.grown hg (by simpa using h.ne),h.row.kept hg (.inr (by have:=h.vne h.b2;simpa using this)),h.out.put hi x,h.ne,h.n1,h.n2,h.b1,h.b2,?_⟩
 exact(((h.g.setCell (p:=⟨ob,_,none⟩) h.n2 _).setCell (p:=⟨ob,_,none⟩) h.n2 _).setCell (p:=⟨ob,_,none⟩) h.n2 _).setCell (p:=⟨ob,_,none⟩) h.n2 _
theorem FLW.app (h:FLW W0 W bb ob B cols v tk out) {s:Spn} (hB:B≤W.heap.size) (hB0:W0.heap.size≤B) (hr:W'.ownsRow B 135 4 v' (tk.length+1) (flatC Spn.cells tk ++ s.cells)) (hg:W.grownBy W' v.ownBlock):FLW W0 (W'.setCell ⟨bb,1,none⟩ v') bb ob B cols v' (tk ++ [s]) out:=by
 have e1:Arr W' bb [.int .i64 cols,v] 215:=h.brd.grown hg (fun e=>h.vne h.b1 e.symm)
 have e2:ArrS W' ob out:=h.out.grown hg (fun e=>h.vne h.b2 e.symm)
 have hl:(tk ++ [s]).length=tk.length+1:=by simp
 have hf:flatC Spn.cells (tk ++ [s])=flatC Spn.cells tk ++ s.cells:=by rw [flatC_app];simp [flatC]
 refine⟨e1.set 1 v',?_,e2.other (Ne.symm h.ne) _ _,h.ne,h.n1,h.n2,h.b1,h.b2,?_⟩
 ·rw [hl,hf]
  refine hr.kept (grown_set W' bb 1 v') (.inr fun e=>?_)
  have:=(hr.lt bb e).1
  have:=h.b1
  omega
 ·refine Below.setCell ?_ (p:=⟨bb,1,none⟩) h.n1 _
  refine h.g.grown hg h.g.size (fun b hb=>?_)
  have:=(h.row.lt b hb).1
  omega
theorem FLW.board (h:FLW W0 W bb ob B cols v tk out) {M:Int} (ok:∀ t ∈ tk,SOk cols M t) (hM:0≤M∧M≤60000000) (hc:1≤cols∧cols≤64) (hn:tk.length≤8192):Brd W bb cols M tk :=
 ⟨h.brd.cell (j:=0) rfl,⟨v,h.brd.cell (j:=1) rfl,sls_row h.row (by omega)⟩,ok,hM,hc,hn⟩
end
theorem flowB_len (cols:Int):∀ (l:List Spn) (b:GB),(flowB cols l b).tk.length≤b.tk.length+l.length
 | [],b=>by simp [flowB]
 |s :: l,b=>by
  have:=flowB_len cols l (flow1 cols b s)
  have h1:(flow1 cols b s).tk.length≤b.tk.length+1:=by unfold flow1;split<;>simp
  simp only [flowB,List.length_cons]
  omega
end Go.Proofs.YtlenbcmgjancmaaGreatDoor
namespace Go.Proofs.YtlenbcmgjancmaaGreatDoor
open Go.RowKit
theorem news_block {w:World} {g:Nat} {cs:Array Value} {t:TypeId} {fr:Nat × Nat} (h:w.heap[g]?=some (.cells cs t fr)):∀ (j:Nat) u,cs.toList[j]?=some u→w.cell? ((⟨g,0,none⟩:Addr).add j)=some u:=fun j u hj=>by
 rw [show (⟨g,0,none⟩:Addr).add j=⟨g,j,none⟩ by unfold Addr.add;split<;>simp_all,cell_of_row w g j cs t fr h]
 simpa using hj
theorem within3_range (n:Int):1≤within3S n 1 64∧within3S n 1 64≤64:=by unfold within3S;omega
theorem FLW.oth {W0 W:World} {bb ob B:Nat} {cols:Int} {v:Value} {tk out:List Spn} (h:FLW W0 W bb ob B cols v tk out) {q:Nat} (hq:B≤q) (hq0:W0.heap.size≤q) (hv:v.ownBlock ≠ some q) (j:Nat) (x:Value):FLW W0 (W.setCell ⟨q,j,none⟩ x) bb ob B cols v tk out :=
 ⟨h.brd.other (by have:=h.b1;omega) _ _,h.row.kept (grown_set W q j x) (.inr hv),h.out.other (by have:=h.b2;omega) _ _,h.ne,h.n1,h.n2,h.b1,h.b2,h.g.setCell (p:=⟨q,_,none⟩) hq0 _⟩
theorem row_form {W:World} {B e sz n:Nat} {v:Value} {xs:List Value} (h:W.ownsRow B e sz v n xs):∃ p c,v=.slice p n c:=by
 rcases h.2 with ⟨rfl,h0⟩|⟨g,cap,cur,rfl,_⟩
 ·exact⟨none,0,by rw [h0]⟩
 ·exact⟨_,cap,rfl⟩
def LowS (B:Nat) (v:Value):Prop:=∀ a n c,v=.slice (some a) n c→B≤a.block
def FlowP (l:List Spn) (w:World) (e:Ending) (w':World):Prop :=
 ∃ v,e=.returned v∧Below w.heap.size w w'∧SlS w' v l∧LowS w.heap.size v
set_option maxRecDepth 100000 in
set_option maxHeartbeats 8000000 in
theorem flow_go (w:World) (v:Value) (spans:List Spn) (hv:SlS w v spans) (n:Int) (hsb:∀ s ∈ spans,-4096≤s.c∧s.c≤9223372036854770000∧s.cs≤9223372036854770000) :
  Calls Tryz.prog 131 #[v,.int .i64 n] w (FlowP (gflow spans n) w):=by
 obtain⟨p,c,rfl,hl,hx⟩:=hv
 have HX:=zH hx
 clear hx
 obtain⟨m,hm⟩:∃ m,spans.length=m:=⟨_,rfl⟩
 have HM:=zH hm
 rw [hm] at hl ⊢
 clear hm
 by_cases h4:4096<m
 ·as_aux_lemma=>
   have HR:Hid (gflow spans n=[]):=zH (by unfold gflow;rw [if_pos (by rw [HM.out];exact h4)])
   have e4:(m:Int) > 4096:=by omega
   go_enter Tryz.func131,Tryz.ntmps131
   go_wp2
   go_ret
   rw [HR.out]
   exact⟨_,rfl,Below.refl _ _,⟨none,0,rfl,by simp,fun i x hi=>by simp at hi⟩,fun a n c e=>by cases e⟩
 ·have hc:=within3_range n
  obtain⟨cols,hcols⟩:∃ cols,within3S n 1 64=cols:=⟨_,rfl⟩
  obtain⟨O,hO⟩:∃ O,spans.map (clampG cols)=O:=⟨_,rfl⟩
  have HR:Hid (gflow spans n=flowF cols O ⟨O.filter (fun s=>decide (setP s)),0,0⟩):=zH (by unfold gflow;rw [if_neg (by rw [HM.out];exact h4),hcols,hO])
  have HC:=zH hcols
  rw [hcols] at hc
  have hOl:O.length=m:=by rw [← hO,List.length_map,HM.out]
  have HOL:=zH hOl
  have hOk:∀ (k:Nat) s,spans[k]?=some s→O[k]?=some (clampG cols s):=fun k s hs=>by rw [← hO,List.getElem?_map,hs];rfl
  have HOK:=zH hOk
  have HIN:Hid (∀ s ∈ O,SIn cols s):=zH fun s hs=>by
   rw [← hO] at hs
   obtain⟨x,_,rfl⟩:=List.mem_map.1 hs
   exact clampG_ok hc.1 x
  have HSB:=zH hsb
  have hmk:=mk_spans m (by omega)
  have e4:decide ((m:Int) > 4096)=false:=decide_eq_false (by omega)
  have e4':decide (4096<(m:Int))=false:=decide_eq_false (by omega)
  clear hcols hO hOl hOk hsb
  go_enter Tryz.func131,Tryz.ntmps131
  go_wp2_with (go_at_call 132;((with_reducible refine(within3_any _ _ _ _).mono ?_);rintro e1' w2 ⟨rfl,hw2⟩;obtain rfl:=hw2.symm))
  rw [HC.out]
  have HMK:=zH (ArrS.made (w.alloc (.cells #[.int .i64 cols,.slice none 0 0] 215)) m)
  rw [World.size_alloc] at HMK
  have HBR:Hid (Arr (w.alloc (.cells #[.int .i64 cols,.slice none 0 0] 215)) w.heap.size [.int .i64 cols,.slice none 0 0] 215):=zH (by unfold Arr;rw [heap_alloc_new])
  go_loopw [25] (fun i wr=>∃ (k:Nat) (v:Value),i=.int .i64 k∧k≤m∧FLW w wr w.heap.size (w.heap.size+1) (w.heap.size+2) cols v ((O.take k).filter (fun s=>decide (setP s))) (partZ spn0 O k)∧w.heap.size+2≤wr.heap.size) (fun i _=>m - (intOf i).toNat)
  case atStart=>
   refine⟨0,.slice none 0 0,rfl,by omega,⟨HBR.out.alloc _,?_,?_,by omega,by omega,by omega,by omega,by omega,by(repeat (first|exact Below.refl _ _|assumption|refine below_drewN ?_ _|refine Below.drew ?_|(refine Below.alloc ?_ ?bs _;(case bs=>first|omega|(simp;done)|(simp;omega)))|(refine Below.setCell ?_ ?bs _;(case bs=>first|omega|(simp;done)|(simp;omega)))))⟩,by simp⟩
   ·exact World.ownsRow_nil _ _ _ _
   ·rw [partZ_zero,HOL.out];exact HMK.out
  case round=>
   obtain⟨k,tv,rfl,hk,hF,hsz⟩:=hrel
   have HF:=zH hF
   clear hF HMK HBR hmk
   obtain⟨tk,htk⟩:∃ tk,(O.take k).filter (fun s=>decide (setP s))=tk:=⟨_,rfl⟩
   rw [htk] at HF
   have HTK:=zH htk
   clear htk
   by_cases hlt:k<m
   ·have hltI:(k:Int)<(m:Int):=by omega
    obtain⟨s,hs⟩:∃ s,spans[k]?=some s:=⟨_,List.getElem?_eq_getElem (by rw [HM.out];exact hlt)⟩
    obtain⟨g,o,rfl,hg,⟨b1,b2,b3,b4⟩⟩:=HX.out k s hs
    have hss:=HSB.out s (List.mem_of_getElem? hs)
    have HO1:=zH (HOK.out k s hs)
    have d1:wr.cell? ⟨g,o+k*4,none⟩=some (.int .i64 s.c):=by rw [HF.out.g.cell (p:=⟨g,o+k*4,none⟩) hg];exact b1
    have d2:wr.cell? ⟨g,o+k*4+1,none⟩=some (.int .i64 s.r):=by rw [HF.out.g.cell (p:=⟨g,o+k*4+1,none⟩) hg];exact b2
    have d3:wr.cell? ⟨g,o+k*4+2,none⟩=some (.int .i64 s.cs):=by rw [HF.out.g.cell (p:=⟨g,o+k*4+2,none⟩) hg];exact b3
    have d4:wr.cell? ⟨g,o+k*4+3,none⟩=some (.int .i64 s.rs):=by rw [HF.out.g.cell (p:=⟨g,o+k*4+3,none⟩) hg];exact b4
    have hgw:g<wr.heap.size:=Nat.lt_of_lt_of_le hg HF.out.g.size
    clear hs b1 b2 b3 b4
    obtain⟨sc,sr,scs,srs⟩:=s
    dsimp only at d1 d2 d3 d4 hss
    have hsm:=clampG_ok hc.1 ⟨sc,sr,scs,srs⟩
    obtain⟨cs',hcs⟩:∃ x,within3S scs 1 cols=x:=⟨_,rfl⟩
    obtain⟨rs',hrs⟩:∃ x,within3S srs 1 4096=x:=⟨_,rfl⟩
    obtain⟨c',hc'⟩:∃ x,within3S sc (-1) (cols - cs')=x:=⟨_,rfl⟩
    obtain⟨r',hr'⟩:∃ x,within3S sr (-1) 4096=x:=⟨_,rfl⟩
    have hcl:clampG cols ⟨sc,sr,scs,srs⟩=⟨c',r',cs',rs'⟩:=by unfold clampG;dsimp only;rw [hcs,hrs,hc',hr']
    rw [hcl] at HO1 hsm
    have HW:=zH (And.intro hcs (And.intro hrs (And.intro hc' hr')))
    have hcsr:1≤cs'∧cs'≤cols:=⟨hsm.cs,hsm.c2⟩
    clear hcs hrs hc' hr' hcl
    have HE0:Hid (OneS (wr.alloc (.cells #[.int .i64 sc,.int .i64 sr,.int .i64 scs,.int .i64 srs] 135)) wr.heap.size ⟨sc,sr,scs,srs⟩):=zH (OneS.made wr sc sr scs srs)
    have hvq0:tv.ownBlock ≠ some wr.heap.size:=fun e=>by have:=(HF.out.row.lt _ e).2;omega
    go_upto_region 7 with (fail)
    go_cut [7,8] (fun v7 v8 W'=>v7=.int .i64 k∧∃ q:Nat,v8=.pointer (some ⟨q,0,none⟩)∧FLW w W' w.heap.size (w.heap.size+1) (w.heap.size+2) cols tv tk (partZ spn0 O k)∧OneS W' q ⟨sc,sr,scs,srs⟩∧w.heap.size+2≤q∧tv.ownBlock ≠ some q)
    case first=>as_aux_lemma=>
     go_wp2_with fail
     go_meet
     exact⟨rfl,_,rfl,HF.out.below (by(repeat (first|exact Below.refl _ _|assumption|refine below_drewN ?_ _|refine Below.drew ?_|(refine Below.alloc ?_ ?bs _;(case bs=>first|omega|(simp;done)|(simp;omega)))|(refine Below.setCell ?_ ?bs _;(case bs=>first|omega|(simp;done)|(simp;omega)))))),HE0.out,hsz,hvq0⟩
    case rest=>
    obtain⟨rfl,q,rfl,hF,hS,hq,hvq⟩:=hcut
    have HF1:=zH hF
    have HS1:=zH hS
    clear hF hS HF HE0 d1 d2 d3 d4 hgw
    go_upto_region 8 with (fail)
    go_cut [] (fun W'=>FLW w W' w.heap.size (w.heap.size+1) (w.heap.size+2) cols tv tk (partZ spn0 O k)∧OneS W' q ⟨sc,sr,cs',srs⟩)
    case first=>as_aux_lemma=>
     obtain⟨i1,i2,i3,i4⟩:=HS1.out.get
     dsimp only at i1 i2 i3 i4
     have a0:wc.cell? ⟨w.heap.size,0,none⟩=some (.int .i64 cols):=HF1.out.brd.cell (j:=0) rfl
     have a1:=HF1.out.brd.lt
     have a2:=HS1.out.lt
     have f1:=HS1.out.froz 2
     have HS2:Hid (OneS _ q ⟨sc,sr,cs',srs⟩):=zH (Arr.set HS1.out 2 (.int .i64 cs'))
     have HF2:Hid (FLW w _ w.heap.size (w.heap.size+1) (w.heap.size+2) cols tv tk (partZ spn0 O k)):=zH (HF1.out.oth hq (by omega) hvq 2 (.int .i64 cs'))
     have hwr:IntKind.i64.wrap (cols - cs')=cols - cs':=IntWalk.i64_in _ (by omega)
     go_region_with (go_at_call 132;((with_reducible refine(within3_any _ _ _ _).mono ?_);rintro e1' w2 ⟨rfl,hw2⟩;obtain rfl:=hw2.symm))
     all_goals
      rw [HW.out.1]
      go_wp2
      go_meet
      exact⟨HF2.out.below (Below.drew (Below.refl _ _)),HS2.out⟩
    case rest=>
    obtain⟨hF,hS⟩:=hcut
    have HF1:=zH hF
    have HS1:=zH hS
    clear hF hS
    go_upto_region 9 with (fail)
    go_cut [] (fun W'=>FLW w W' w.heap.size (w.heap.size+1) (w.heap.size+2) cols tv tk (partZ spn0 O k)∧OneS W' q ⟨sc,sr,cs',rs'⟩)
    case first=>as_aux_lemma=>
     obtain⟨i1,i2,i3,i4⟩:=HS1.out.get
     dsimp only at i1 i2 i3 i4
     have a0:wc.cell? ⟨w.heap.size,0,none⟩=some (.int .i64 cols):=HF1.out.brd.cell (j:=0) rfl
     have a1:=HF1.out.brd.lt
     have a2:=HS1.out.lt
     have f1:=HS1.out.froz 3
     have HS2:Hid (OneS _ q ⟨sc,sr,cs',rs'⟩):=zH (Arr.set HS1.out 3 (.int .i64 rs'))
     have HF2:Hid (FLW w _ w.heap.size (w.heap.size+1) (w.heap.size+2) cols tv tk (partZ spn0 O k)):=zH (HF1.out.oth hq (by omega) hvq 3 (.int .i64 rs'))
     go_wp2_with (go_at_call 132;((with_reducible refine(within3_any _ _ _ _).mono ?_);rintro e1' w2 ⟨rfl,hw2⟩;obtain rfl:=hw2.symm))
     rw [HW.out.2.1]
     go_meet
     exact⟨HF2.out,HS2.out⟩
    case rest=>
    obtain⟨hF,hS⟩:=hcut
    have HF1:=zH hF
    have HS1:=zH hS
    clear hF hS
    go_upto_region 10 with (fail)
    go_cut [] (fun W'=>FLW w W' w.heap.size (w.heap.size+1) (w.heap.size+2) cols tv tk (partZ spn0 O k)∧OneS W' q ⟨c',sr,cs',rs'⟩)
    case first=>as_aux_lemma=>
     obtain⟨i1,i2,i3,i4⟩:=HS1.out.get
     dsimp only at i1 i2 i3 i4
     have a0:wc.cell? ⟨w.heap.size,0,none⟩=some (.int .i64 cols):=HF1.out.brd.cell (j:=0) rfl
     have a1:=HF1.out.brd.lt
     have a2:=HS1.out.lt
     have f1:=HS1.out.froz 0
     have HS2:Hid (OneS _ q ⟨c',sr,cs',rs'⟩):=zH (Arr.set HS1.out 0 (.int .i64 c'))
     have HF2:Hid (FLW w _ w.heap.size (w.heap.size+1) (w.heap.size+2) cols tv tk (partZ spn0 O k)):=zH (HF1.out.oth hq (by omega) hvq 0 (.int .i64 c'))
     have hwr:IntKind.i64.wrap (cols - cs')=cols - cs':=IntWalk.i64_in _ (by omega)
     go_region_with (go_at_call 132;((with_reducible refine(within3_any _ _ _ _).mono ?_);rintro e1' w2 ⟨rfl,hw2⟩;obtain rfl:=hw2.symm))
     all_goals
      rw [HW.out.2.2.1]
      go_wp2
      go_meet
      exact⟨HF2.out.below (Below.drew (Below.refl _ _)),HS2.out⟩
    case rest=>
    obtain⟨hF,hS⟩:=hcut
    have HF1:=zH hF
    have HS1:=zH hS
    clear hF hS
    go_upto_region 11 with (fail)
    go_cut [] (fun W'=>FLW w W' w.heap.size (w.heap.size+1) (w.heap.size+2) cols tv tk (partZ spn0 O k)∧OneS W' q ⟨c',r',cs',rs'⟩)
    case first=>as_aux_lemma=>
     obtain⟨i1,i2,i3,i4⟩:=HS1.out.get
     dsimp only at i1 i2 i3 i4
     have a0:wc.cell? ⟨w.heap.size,0,none⟩=some (.int .i64 cols):=HF1.out.brd.cell (j:=0) rfl
     have a1:=HF1.out.brd.lt
     have a2:=HS1.out.lt
     have f1:=HS1.out.froz 1
     have HS2:Hid (OneS _ q ⟨c',r',cs',rs'⟩):=zH (Arr.set HS1.out 1 (.int .i64 r'))
     have HF2:Hid (FLW w _ w.heap.size (w.heap.size+1) (w.heap.size+2) cols tv tk (partZ spn0 O k)):=zH (HF1.out.oth hq (by omega) hvq 1 (.int .i64 r'))
     go_wp2_with (go_at_call 132;((with_reducible refine(within3_any _ _ _ _).mono ?_);rintro e1' w2 ⟨rfl,hw2⟩;obtain rfl:=hw2.symm))
     rw [HW.out.2.2.2]
     go_meet
     exact⟨HF2.out,HS2.out⟩
    case rest=>
    obtain⟨hF,hS⟩:=hcut
    have HF1:=zH hF
    have HS1:=zH hS
    clear hF hS
    have HPG:Hid ((partZ spn0 O k)[k]?=some spn0):=zH (partZ_get (by rw [HOL.out];exact hlt))
    have HPL:Hid (k<(partZ spn0 O k).length):=zH (by rw [partZ_len (by rw [HOL.out];omega),HOL.out];exact hlt)
    go_upto_region 12 with (fail)
    go_cut [] (fun W'=>FLW w W' w.heap.size (w.heap.size+1) (w.heap.size+2) cols tv tk (partZ spn0 O (k+1))∧OneS W' q ⟨c',r',cs',rs'⟩)
    case first=>as_aux_lemma=>
     obtain⟨i1,i2,i3,i4⟩:=HS1.out.get
     dsimp only at i1 i2 i3 i4
     obtain⟨j1,j2,j3,j4⟩:=HF1.out.out.at HPG.out
     dsimp only at j1 j2 j3 j4
     have f1:=HF1.out.out.froz (k*4)
     have f2:=HF1.out.out.froz (k*4+1)
     have f3:=HF1.out.out.froz (k*4+2)
     have f4:=HF1.out.out.froz (k*4+3)
     have l1:=HF1.out.out.lt
     have hne:w.heap.size+1 ≠ q:=by omega
     have HA:=HF1.out.put HPL.out ⟨c',r',cs',rs'⟩
     rw [partZ_set HO1.out] at HA
     have HA2:=zH HA
     have HB2:Hid (OneS _ q ⟨c',r',cs',rs'⟩):=zH ((((Arr.other HS1.out (b':=w.heap.size+1) (by omega) (k*4) (.int .i64 c')).other (b':=w.heap.size+1) (by omega) (k*4+1) (.int .i64 r')).other (b':=w.heap.size+1) (by omega) (k*4+2) (.int .i64 cs')).other (b':=w.heap.size+1) (by omega) (k*4+3) (.int .i64 rs'))
     clear HA
     go_wp2_with fail
     go_meet
     exact⟨HA2.out,HB2.out⟩
    case rest=>
    obtain⟨hF,hS⟩:=hcut
    have HF1:=zH hF
    have HS1:=zH hS
    clear hF hS HPG HPL
    obtain⟨i1,i2,i3,i4⟩:=HS1.out.get
    dsimp only at i1 i2 i3 i4
    have htl:tk.length≤4096:=by
     rw [← HTK.out]
     refine Nat.le_trans (List.length_filter_le _ _) ?_
     rw [List.length_take];omega
    have HT1:Hid ((O.take (k+1)).filter (fun s=>decide (setP s))=if 0≤c'∧0≤r' then tk ++ [⟨c',r',cs',rs'⟩] else tk):=zH (by
     have h1:=(List.getElem?_eq_some_iff.1 HO1.out)
     rw [List.take_succ_eq_append_getElem h1.1,h1.2,List.filter_append,HTK.out]
     by_cases hp:0≤c'∧0≤r'
     ·rw [if_pos hp];simp [setP,hp]
     ·rw [if_neg hp];simp [setP,hp])
    by_cases hc0:0≤c'
    ·have hcD:decide (c' ≥ 0)=true:=decide_eq_true hc0
     by_cases hr0:0≤r'
     ·as_aux_lemma=>
       have HT2:=HT1.out
       rw [if_pos ⟨hc0,hr0⟩] at HT2
       have HT3:=zH HT2
       clear HT2 HT1
       have a0:wc.cell? ⟨w.heap.size,1,none⟩=some tv:=HF1.out.brd.cell (j:=1) rfl
       have a1:=HF1.out.brd.lt
       obtain⟨p8,cp8,rfl⟩:=row_form HF1.out.row
       go_upto_region 14 with (fail)
       go_region_law (refine step_append_row elS4 rfl (.tmp 73) (.tmp 75) rfl _ tk.length (flatC Spn.cells tk) (w.heap.size+2) (by simp [Act.eval,Act.put]) (orow_belowSize HF1.out.row (by(repeat (first|exact Below.refl _ _|assumption|refine below_drewN ?_ _|refine Below.drew ?_|(refine Below.alloc ?_ ?bs _;(case bs=>first|omega|(simp;done)|(simp;omega)))|(refine Below.setCell ?_ ?bs _;(case bs=>first|omega|(simp;done)|(simp;omega))))))) (by simp;omega) ⟨wc.heap.size,0,none⟩ [.int .i64 c',.int .i64 r',.int .i64 cs',.int .i64 rs'] (by simp [Act.eval,Act.put]) rfl (news_block (cs:=#[.int .i64 c',.int .i64 r',.int .i64 cs',.int .i64 rs']) (t:=135) (fr:=(0,0)) (heap_alloc_new _ _)) (by simp [Value.oneCell']) (by omega) ?_;intro v' w9 hrow9 hgr9;have HA9:=zH (FLW.app (s:=⟨c',r',cs',rs'⟩) (HF1.out.below (by(repeat (first|exact Below.refl _ _|assumption|refine below_drewN ?_ _|refine Below.drew ?_|(refine Below.alloc ?_ ?bs _;(case bs=>first|omega|(simp;done)|(simp;omega)))|(refine Below.setCell ?_ ?bs _;(case bs=>first|omega|(simp;done)|(simp;omega))))))) (by simp;omega) (by omega) hrow9 hgr9);have HB9:Arr w9 w.heap.size [.int .i64 cols,_] 215:=Arr.grown (HF1.out.brd.below (by(repeat (first|exact Below.refl _ _|assumption|refine below_drewN ?_ _|refine Below.drew ?_|(refine Below.alloc ?_ ?bs _;(case bs=>first|omega|(simp;done)|(simp;omega)))|(refine Below.setCell ?_ ?bs _;(case bs=>first|omega|(simp;done)|(simp;omega))))))) hgr9 (fun e=>HF1.out.vne HF1.out.b1 e.symm);have c9:=HB9.cell (j:=1) rfl;have f9:=HB9.froz 1;have l9:=HB9.lt;obtain⟨p9,cp9,rfl⟩:=row_form hrow9;clear HB9 hrow9 hgr9)
       all_goals
        have l2:=HA9.out.out.lt
        go_wp2
        go_roundw
        case rel=>exact⟨k+1,_,by first|rfl|go_num,by omega,by rw [HT3.out];exact HA9.out,by omega⟩
        case measure=>simp [intOf]<;>omega
     ·as_aux_lemma=>
       have HT2:=HT1.out
       rw [if_neg (by omega)] at HT2
       have HT3:=zH HT2
       have hrD:decide (r' ≥ 0)=false:=decide_eq_false hr0
       have l2:=HF1.out.out.lt
       clear HT2 HT1
       go_wp2
       go_roundw
       case rel=>exact⟨k+1,_,by first|rfl|go_num,by omega,by rw [HT3.out];exact HF1.out,by omega⟩
       case measure=>simp [intOf]<;>omega
    ·as_aux_lemma=>
      have HT2:=HT1.out
      rw [if_neg (by omega)] at HT2
      have HT3:=zH HT2
      have hcD:decide (c' ≥ 0)=false:=decide_eq_false hc0
      have l2:=HF1.out.out.lt
      clear HT2 HT1
      go_wp2
      go_roundw
      case rel=>exact⟨k+1,_,by first|rfl|go_num,by omega,by rw [HT3.out];exact HF1.out,by omega⟩
      case measure=>simp [intOf]<;>omega
   ·obtain rfl:k=m:=by omega
    have hltI:decide ((k:Int)<(k:Int))=false:=decide_eq_false (by omega)
    obtain⟨B0,hB0⟩:∃ B0:GB,B0=⟨O.filter (fun s=>decide (setP s)),0,0⟩:=⟨_,rfl⟩
    have htk2:tk=B0.tk:=by rw [hB0,← HTK.out,List.take_of_length_le (by rw [HOL.out];exact Nat.le_refl _)]
    have hpo:partZ spn0 O k=O:=partZ_full HOL.out.symm
    rw [hpo,htk2] at HF
    have HR2:Hid (gflow spans n=flowF cols O B0):=zH (by rw [hB0];exact HR.out)
    have HG0:Hid (GBOk cols 8192 B0):=zH (by
     rw [hB0]
     refine⟨fun t ht=>?_,by dsimp only;omega,by dsimp only;omega⟩
     obtain⟨h1,h2⟩:=List.mem_filter.1 ht
     have h3:=HIN.out t h1
     have h4:=of_decide_eq_true h2
     have:=h3.cs
     have:=h3.cc
     have:=h3.rs
     have:=h3.r4
     have:=h3.r1
     exact⟨h4.1,h4.2,h3.cs,h3.cc,h3.rs,h3.r4,by omega⟩)
    have HL0:Hid (B0.tk.length≤k):=zH (by rw [hB0];exact Nat.le_trans (List.length_filter_le _ _) (by rw [HOL.out];exact Nat.le_refl _))
    have HB00:Hid (B0.row=0∧B0.col=0):=zH (by rw [hB0];exact⟨rfl,rfl⟩)
    clear hB0 htk2 hpo HTK HR hlt
    go_wp2
    go_loopw [9,10,82] (fun rv cv i wq=>∃ (a:Nat) (v:Value),i=.int .i64 a∧a≤k∧rv=.int .i64 (flowB cols (O.take a) B0).row∧cv=.int .i64 (flowB cols (O.take a) B0).col∧FLW w wq w.heap.size (w.heap.size+1) (w.heap.size+2) cols v (flowB cols (O.take a) B0).tk (flowF cols (O.take a) B0 ++ O.drop a)∧w.heap.size+2≤wq.heap.size) (fun _ _ i _=>k - (intOf i).toNat)
    case atStart=>exact⟨0,tv,rfl,by omega,by rw [List.take_zero];simp only [flowB];rw [HB00.out.1],by rw [List.take_zero];simp only [flowB];rw [HB00.out.2],by rw [List.take_zero,List.drop_zero];exact HF.out,hsz⟩
    case round=>
     obtain⟨a,tv,rfl,hak,rfl,rfl,hF,hsz2⟩:=hrel
     have HF2:=zH hF
     clear hF HF
     have hSok:GBOk cols (8192+4097*(a:Int)) (flowB cols (O.take a) B0):=by
      have hl:(O.take a).length=a:=by rw [List.length_take,HOL.out];omega
      have:=flowB_ok hc (O.take a) B0 8192 (fun s hs=>HIN.out s (List.mem_of_mem_take hs)) HG0.out (by omega) (by rw [hl];omega)
      rwa [hl] at this
     have hSl:(flowB cols (O.take a) B0).tk.length≤8192:=by
      have:=flowB_len cols (O.take a) B0
      rw [List.length_take] at this
      have:=HL0.out
      omega
     have hFl:(flowF cols (O.take a) B0).length=a:=by rw [flowF_len,List.length_take,HOL.out];omega
     by_cases hlt3:a<k
     ·obtain⟨s,hs⟩:∃ s,O[a]?=some s:=⟨_,List.getElem?_eq_getElem (by rw [HOL.out];exact hlt3)⟩
      obtain⟨hs1,hs2⟩:=List.getElem?_eq_some_iff.1 hs
      have hB1:flowB cols (O.take (a+1)) B0=flow1 cols (flowB cols (O.take a) B0) s:=by
       rw [List.take_succ_eq_append_getElem hs1,flowB_append,hs2];rfl
      have hF1:flowF cols (O.take (a+1)) B0=flowF cols (O.take a) B0 ++ [flow0 cols (flowB cols (O.take a) B0) s]:=by
       rw [List.take_succ_eq_append_getElem hs1,flowF_append,hs2];rfl
      have hdr:O.drop a=s :: O.drop (a+1):=by rw [List.drop_eq_getElem_cons hs1,hs2]
      have hsin:=HIN.out s (List.mem_of_getElem? hs)
      generalize flowB cols (O.take a) B0=S at *
      generalize flowF cols (O.take a) B0=F at *
      rw [hdr] at HF2
      have HG1:Hid ((F ++ s :: O.drop (a+1))[a]?=some s):=zH (by rw [List.getElem?_append_right (by omega),hFl,Nat.sub_self];rfl)
      have HG2:Hid (∀ x,(F ++ s :: O.drop (a+1)).set a x=(F ++ [x]) ++ O.drop (a+1)):=zH fun x=>by
       rw [List.set_append_right _ _ (by omega),hFl,Nat.sub_self,List.set_cons_zero,List.append_assoc];rfl
      have HGL:Hid (a<(F ++ s :: O.drop (a+1)).length):=zH (by simp;omega)
      have HB1:=zH hB1
      have HF1':=zH hF1
      have HSOK:=zH hSok
      have HSL:=zH hSl
      have HSIN:=zH hsin
      clear hs hs1 hs2 hB1 hF1 hdr hFl hSok hSl
      have hlt3I:(a:Int)<(k:Int):=by omega
      obtain⟨e1,e2,e3,e4⟩:=HF2.out.out.at HG1.out
      have l1:=HF2.out.out.lt
      have HSQ:Hid (OneS (wr.alloc (.cells #[.int .i64 s.c,.int .i64 s.r,.int .i64 s.cs,.int .i64 s.rs] 135)) wr.heap.size s):=zH (OneS.made wr s.c s.r s.cs s.rs)
      have hvq0:tv.ownBlock ≠ some wr.heap.size:=fun e=>by have:=(HF2.out.row.lt _ e).2;omega
      go_upto_region 19 with (fail)
      go_cut [11,12] (fun v11 v12 W'=>v11=.int .i64 a∧∃ q:Nat,v12=.pointer (some ⟨q,0,none⟩)∧FLW w W' w.heap.size (w.heap.size+1) (w.heap.size+2) cols tv S.tk (F ++ s :: O.drop (a+1))∧OneS W' q s∧w.heap.size+2≤q∧tv.ownBlock ≠ some q)
      case first=>as_aux_lemma=>
       go_wp2_with fail
       go_meet
       exact⟨rfl,_,rfl,HF2.out.below (Below.alloc (Below.refl _ _) (Nat.le_refl _) _),HSQ.out,hsz2,hvq0⟩
      case rest=>
      obtain⟨rfl,q,rfl,hF,hS,hq,hvq⟩:=hcut
      have HF3:=zH hF
      have HS3:=zH hS
      have hBR:Brd wc w.heap.size cols (8192+4097*(a:Int)) S.tk:=hF.board HSOK.out.tk (by omega) hc HSL.out
      have HBR:=zH hBR
      have l5:=hF.out.lt
      clear hF hS hBR HF2 HSQ e1 e2 e3 e4 l1
      obtain⟨i1,i2,i3,i4⟩:=HS3.out.get
      have l2:=HS3.out.lt
      have q1:=hsin.cs
      have q2:=hsin.c2
      have q3:=hsin.rs
      have q4:=hsin.r4
      have q5:=hsin.r1
      have q6:=hsin.cc
      by_cases hr0:0≤s.r
      ·have hrD:decide (s.r ≥ 0)=true:=decide_eq_true hr0
       by_cases hc0:0≤s.c
       ·as_aux_lemma=>
         have hcD:decide (s.c ≥ 0)=true:=decide_eq_true hc0
         have HE1:Hid (flow1 cols S s=S):=zH (by unfold flow1;rw [if_pos ⟨hc0,hr0⟩])
         have HE0:Hid (flow0 cols S s=s):=zH (by unfold flow0;rw [if_pos ⟨hc0,hr0⟩])
         clear hsin HBR
         go_wp2
         go_roundw
         case rel=>exact⟨a+1,tv,by first|rfl|go_num,by omega,by rw [HB1.out,HE1.out],by rw [HB1.out,HE1.out],by rw [HB1.out,HE1.out,HF1'.out,HE0.out,List.append_assoc];exact HF3.out,by omega⟩
         case measure=>simp [intOf]<;>omega
       ·
         have hcD:decide (s.c ≥ 0)=false:=decide_eq_false hc0
         obtain⟨s',hs'⟩:∃ s',putG cols S s=s':=⟨_,rfl⟩
         have hpg:acrossF cols S.tk fuelG { s with c:=0 }=s':=by rw [← hs'];unfold putG;rw [if_pos hr0]
         have HE1:Hid (flow1 cols S s=⟨S.tk ++ [s'],S.row,S.col⟩):=zH (by unfold flow1;rw [if_neg (by omega),hs',if_neg (by omega),if_neg (by omega)])
         have HE0:Hid (flow0 cols S s=s'):=zH (by unfold flow0;rw [if_neg (by omega),hs'])
         have HA:=zH (across_any wc w.heap.size cols _ S.tk HBR.out s ⟨q1,q2⟩ ⟨hr0,by omega⟩ ⟨q3,q4⟩)
         rw [hpg] at HA
         unfold Spn.val at HA
         clear hs' hpg HBR hsin
         go_upto_region 27 with (go_at_call 159;((with_reducible refine(HA.out).mono ?_);rintro e1' w2 ⟨rfl,hb2⟩;have HF4:=zH (HF3.out.below hb2);have HS4:Hid (OneS w2 q s):=zH (Arr.below HS3.out hb2);obtain⟨j1,j2,j3,j4⟩:=HS4.out.get;have g1:=HS4.out.froz 0;have g2:=HS4.out.froz 1;have g3:=HS4.out.froz 2;have g4:=HS4.out.froz 3;have l4:=HS4.out.lt;clear hb2))
         have HS5:Hid (OneS _ q s'):=zH (OneS.put w2 HS4.out s')
         have HF5:Hid (FLW w _ w.heap.size (w.heap.size+1) (w.heap.size+2) cols tv S.tk (F ++ s :: O.drop (a+1))):=zH ((((HF4.out.oth hq (by omega) hvq 0 (.int .i64 s'.c)).oth hq (by omega) hvq 1 (.int .i64 s'.r)).oth hq (by omega) hvq 2 (.int .i64 s'.cs)).oth hq (by omega) hvq 3 (.int .i64 s'.rs))
         generalize World.setCell (World.setCell (World.setCell (World.setCell w2 _ _) _ _) _ _) _ _=w5 at HS5 HF5 ⊢
         clear HF4 HS4 HF3 HS3 i1 i2 i3 i4 j1 j2 j3 j4 g1 g2 g3 g4 l4 l5
         have ne1:w.heap.size+1 ≠ q:=by omega
         obtain⟨i1,i2,i3,i4⟩:=HS5.out.get
         obtain⟨e1,e2,e3,e4⟩:=HF5.out.out.at HG1.out
         have f1:=HF5.out.out.froz (a*4)
         have f2:=HF5.out.out.froz (a*4+1)
         have f3:=HF5.out.out.froz (a*4+2)
         have f4:=HF5.out.out.froz (a*4+3)
         have l1:=HF5.out.out.lt
         have l4:=HS5.out.lt
         have hPT:=HF5.out.put HGL.out s'
         rw [HG2.out] at hPT
         have HF6:=zH hPT
         have HS6:Hid (OneS _ q s'):=zH ((((Arr.other HS5.out (b':=w.heap.size+1) (by omega) (a*4) (.int .i64 s'.c)).other (b':=w.heap.size+1) (by omega) (a*4+1) (.int .i64 s'.r)).other (b':=w.heap.size+1) (by omega) (a*4+2) (.int .i64 s'.cs)).other (b':=w.heap.size+1) (by omega) (a*4+3) (.int .i64 s'.rs))
         clear hPT
         go_upto_region 28 with (fail)
         generalize World.setCell (World.setCell (World.setCell (World.setCell w5 _ _) _ _) _ _) _ _=w6 at HS6 HF6 ⊢
         clear HF5 HS5 i1 i2 i3 i4 e1 e2 e3 e4 f1 f2 f3 f4 l1 l4
         obtain⟨i1,i2,i3,i4⟩:=HS6.out.get
         have a0:w6.cell? ⟨w.heap.size,1,none⟩=some tv:=HF6.out.brd.cell (j:=1) rfl
         have a1:=HF6.out.brd.lt
         have a2:=HS6.out.lt
         have a3:=HF6.out.out.lt
         obtain⟨p8,cp8,rfl⟩:=row_form HF6.out.row
         go_region_law (refine step_append_row elS4 rfl (.tmp 127) (.tmp 129) rfl _ S.tk.length (flatC Spn.cells S.tk) (w.heap.size+2) (by simp [Act.eval,Act.put]) (orow_belowSize HF6.out.row (by first|exact Below.alloc (Below.refl _ _) (Nat.le_refl _) _|exact Below.drew (Below.alloc (Below.refl _ _) (Nat.le_refl _) _)|exact Below.alloc (Below.drew (Below.refl _ _)) (Nat.le_refl _) _|exact Below.alloc (below_drewN (Below.refl _ _) _) (Nat.le_refl _) _|exact below_drewN (Below.alloc (Below.refl _ _) (Nat.le_refl _) _) _|(repeat (first|exact Below.refl _ _|assumption|refine below_drewN ?_ _|refine Below.drew ?_|(refine Below.alloc ?_ ?bs _;(case bs=>first|omega|(simp;done)|(simp;omega)))|(refine Below.setCell ?_ ?bs _;(case bs=>first|omega|(simp;done)|(simp;omega))))))) (by simp;omega) ⟨w6.heap.size,0,none⟩ [.int .i64 s'.c,.int .i64 s'.r,.int .i64 s'.cs,.int .i64 s'.rs] (by simp [Act.eval,Act.put]) rfl (news_block (cs:=#[.int .i64 s'.c,.int .i64 s'.r,.int .i64 s'.cs,.int .i64 s'.rs]) (t:=135) (fr:=(0,0)) (heap_alloc_new _ _)) (by simp [Value.oneCell']) (by have:=HSL.out;omega) ?_;intro v' w9 hrow9 hgr9;have HA9:=zH (FLW.app (s:=s') (HF6.out.below (by first|exact Below.alloc (Below.refl _ _) (Nat.le_refl _) _|exact Below.drew (Below.alloc (Below.refl _ _) (Nat.le_refl _) _)|exact Below.alloc (Below.drew (Below.refl _ _)) (Nat.le_refl _) _|exact Below.alloc (below_drewN (Below.refl _ _) _) (Nat.le_refl _) _|exact below_drewN (Below.alloc (Below.refl _ _) (Nat.le_refl _) _) _|(repeat (first|exact Below.refl _ _|assumption|refine below_drewN ?_ _|refine Below.drew ?_|(refine Below.alloc ?_ ?bs _;(case bs=>first|omega|(simp;done)|(simp;omega)))|(refine Below.setCell ?_ ?bs _;(case bs=>first|omega|(simp;done)|(simp;omega))))))) (by simp;omega) (by omega) hrow9 hgr9);have HB9:Arr w9 w.heap.size [.int .i64 cols,_] 215:=Arr.grown (HF6.out.brd.below (by first|exact Below.alloc (Below.refl _ _) (Nat.le_refl _) _|exact Below.drew (Below.alloc (Below.refl _ _) (Nat.le_refl _) _)|exact Below.alloc (Below.drew (Below.refl _ _)) (Nat.le_refl _) _|exact Below.alloc (below_drewN (Below.refl _ _) _) (Nat.le_refl _) _|exact below_drewN (Below.alloc (Below.refl _ _) (Nat.le_refl _) _) _|(repeat (first|exact Below.refl _ _|assumption|refine below_drewN ?_ _|refine Below.drew ?_|(refine Below.alloc ?_ ?bs _;(case bs=>first|omega|(simp;done)|(simp;omega)))|(refine Below.setCell ?_ ?bs _;(case bs=>first|omega|(simp;done)|(simp;omega))))))) hgr9 (fun e=>HF6.out.vne HF6.out.b1 e.symm);have c9:=HB9.cell (j:=1) rfl;have f9:=HB9.froz 1;have l9:=HB9.lt;obtain⟨p9,cp9,rfl⟩:=row_form hrow9;clear HB9 hrow9 hgr9)
         all_goals
          have l2:=HA9.out.out.lt
          go_wp2
          go_roundw
          case rel=>exact⟨a+1,_,by first|rfl|go_num,by omega,by rw [HB1.out,HE1.out],by rw [HB1.out,HE1.out],by rw [HB1.out,HE1.out,HF1'.out,HE0.out];exact HA9.out,by omega⟩
          case measure=>simp [intOf]<;>omega
      ·have hrD:decide (s.r ≥ 0)=false:=decide_eq_false hr0
       by_cases hc0:0≤s.c
       ·
         have hcD:decide (s.c ≥ 0)=true:=decide_eq_true hc0
         obtain⟨s',hs'⟩:∃ s',putG cols S s=s':=⟨_,rfl⟩
         have hpg:downF S.tk fuelG { s with r:=0 }=s':=by rw [← hs'];unfold putG;rw [if_neg hr0,if_pos hc0]
         have HE1:Hid (flow1 cols S s=⟨S.tk ++ [s'],S.row,S.col⟩):=zH (by unfold flow1;rw [if_neg (by omega),hs',if_neg (by omega),if_neg (by omega)])
         have HE0:Hid (flow0 cols S s=s'):=zH (by unfold flow0;rw [if_neg (by omega),hs'])
         have HA:=zH (down_any wc w.heap.size cols _ S.tk HBR.out s ⟨hc0,by omega⟩ ⟨q1,q2⟩ ⟨q3,q4⟩)
         rw [hpg] at HA
         unfold Spn.val at HA
         clear hs' hpg HBR hsin
         go_upto_region 27 with (go_at_call 160;((with_reducible refine(HA.out).mono ?_);rintro e1' w2 ⟨rfl,hb2⟩;have HF4:=zH (HF3.out.below hb2);have HS4:Hid (OneS w2 q s):=zH (Arr.below HS3.out hb2);obtain⟨j1,j2,j3,j4⟩:=HS4.out.get;have g1:=HS4.out.froz 0;have g2:=HS4.out.froz 1;have g3:=HS4.out.froz 2;have g4:=HS4.out.froz 3;have l4:=HS4.out.lt;clear hb2))
         have HS5:Hid (OneS _ q s'):=zH (OneS.put w2 HS4.out s')
         have HF5:Hid (FLW w _ w.heap.size (w.heap.size+1) (w.heap.size+2) cols tv S.tk (F ++ s :: O.drop (a+1))):=zH ((((HF4.out.oth hq (by omega) hvq 0 (.int .i64 s'.c)).oth hq (by omega) hvq 1 (.int .i64 s'.r)).oth hq (by omega) hvq 2 (.int .i64 s'.cs)).oth hq (by omega) hvq 3 (.int .i64 s'.rs))
         generalize World.setCell (World.setCell (World.setCell (World.setCell w2 _ _) _ _) _ _) _ _=w5 at HS5 HF5 ⊢
         clear HF4 HS4 HF3 HS3 i1 i2 i3 i4 j1 j2 j3 j4 g1 g2 g3 g4 l4 l5
         have ne1:w.heap.size+1 ≠ q:=by omega
         obtain⟨i1,i2,i3,i4⟩:=HS5.out.get
         obtain⟨e1,e2,e3,e4⟩:=HF5.out.out.at HG1.out
         have f1:=HF5.out.out.froz (a*4)
         have f2:=HF5.out.out.froz (a*4+1)
         have f3:=HF5.out.out.froz (a*4+2)
         have f4:=HF5.out.out.froz (a*4+3)
         have l1:=HF5.out.out.lt
         have l4:=HS5.out.lt
         have hPT:=HF5.out.put HGL.out s'
         rw [HG2.out] at hPT
         have HF6:=zH hPT
         have HS6:Hid (OneS _ q s'):=zH ((((Arr.other HS5.out (b':=w.heap.size+1) (by omega) (a*4) (.int .i64 s'.c)).other (b':=w.heap.size+1) (by omega) (a*4+1) (.int .i64 s'.r)).other (b':=w.heap.size+1) (by omega) (a*4+2) (.int .i64 s'.cs)).other (b':=w.heap.size+1) (by omega) (a*4+3) (.int .i64 s'.rs))
         clear hPT
         go_upto_region 28 with (fail)
         generalize World.setCell (World.setCell (World.setCell (World.setCell w5 _ _) _ _) _ _) _ _=w6 at HS6 HF6 ⊢
         clear HF5 HS5 i1 i2 i3 i4 e1 e2 e3 e4 f1 f2 f3 f4 l1 l4
         obtain⟨i1,i2,i3,i4⟩:=HS6.out.get
         have a0:w6.cell? ⟨w.heap.size,1,none⟩=some tv:=HF6.out.brd.cell (j:=1) rfl
         have a1:=HF6.out.brd.lt
         have a2:=HS6.out.lt
         have a3:=HF6.out.out.lt
         obtain⟨p8,cp8,rfl⟩:=row_form HF6.out.row
         go_region_law (refine step_append_row elS4 rfl (.tmp 127) (.tmp 129) rfl _ S.tk.length (flatC Spn.cells S.tk) (w.heap.size+2) (by simp [Act.eval,Act.put]) (orow_belowSize HF6.out.row (by first|exact Below.alloc (Below.refl _ _) (Nat.le_refl _) _|exact Below.drew (Below.alloc (Below.refl _ _) (Nat.le_refl _) _)|exact Below.alloc (Below.drew (Below.refl _ _)) (Nat.le_refl _) _|exact Below.alloc (below_drewN (Below.refl _ _) _) (Nat.le_refl _) _|exact below_drewN (Below.alloc (Below.refl _ _) (Nat.le_refl _) _) _|(repeat (first|exact Below.refl _ _|assumption|refine below_drewN ?_ _|refine Below.drew ?_|(refine Below.alloc ?_ ?bs _;(case bs=>first|omega|(simp;done)|(simp;omega)))|(refine Below.setCell ?_ ?bs _;(case bs=>first|omega|(simp;done)|(simp;omega))))))) (by simp;omega) ⟨w6.heap.size,0,none⟩ [.int .i64 s'.c,.int .i64 s'.r,.int .i64 s'.cs,.int .i64 s'.rs] (by simp [Act.eval,Act.put]) rfl (news_block (cs:=#[.int .i64 s'.c,.int .i64 s'.r,.int .i64 s'.cs,.int .i64 s'.rs]) (t:=135) (fr:=(0,0)) (heap_alloc_new _ _)) (by simp [Value.oneCell']) (by have:=HSL.out;omega) ?_;intro v' w9 hrow9 hgr9;have HA9:=zH (FLW.app (s:=s') (HF6.out.below (by first|exact Below.alloc (Below.refl _ _) (Nat.le_refl _) _|exact Below.drew (Below.alloc (Below.refl _ _) (Nat.le_refl _) _)|exact Below.alloc (Below.drew (Below.refl _ _)) (Nat.le_refl _) _|exact Below.alloc (below_drewN (Below.refl _ _) _) (Nat.le_refl _) _|exact below_drewN (Below.alloc (Below.refl _ _) (Nat.le_refl _) _) _|(repeat (first|exact Below.refl _ _|assumption|refine below_drewN ?_ _|refine Below.drew ?_|(refine Below.alloc ?_ ?bs _;(case bs=>first|omega|(simp;done)|(simp;omega)))|(refine Below.setCell ?_ ?bs _;(case bs=>first|omega|(simp;done)|(simp;omega))))))) (by simp;omega) (by omega) hrow9 hgr9);have HB9:Arr w9 w.heap.size [.int .i64 cols,_] 215:=Arr.grown (HF6.out.brd.below (by first|exact Below.alloc (Below.refl _ _) (Nat.le_refl _) _|exact Below.drew (Below.alloc (Below.refl _ _) (Nat.le_refl _) _)|exact Below.alloc (Below.drew (Below.refl _ _)) (Nat.le_refl _) _|exact Below.alloc (below_drewN (Below.refl _ _) _) (Nat.le_refl _) _|exact below_drewN (Below.alloc (Below.refl _ _) (Nat.le_refl _) _) _|(repeat (first|exact Below.refl _ _|assumption|refine below_drewN ?_ _|refine Below.drew ?_|(refine Below.alloc ?_ ?bs _;(case bs=>first|omega|(simp;done)|(simp;omega)))|(refine Below.setCell ?_ ?bs _;(case bs=>first|omega|(simp;done)|(simp;omega))))))) hgr9 (fun e=>HF6.out.vne HF6.out.b1 e.symm);have c9:=HB9.cell (j:=1) rfl;have f9:=HB9.froz 1;have l9:=HB9.lt;obtain⟨p9,cp9,rfl⟩:=row_form hrow9;clear HB9 hrow9 hgr9)
         all_goals
          have l2:=HA9.out.out.lt
          go_wp2
          go_roundw
          case rel=>exact⟨a+1,_,by first|rfl|go_num,by omega,by rw [HB1.out,HE1.out],by rw [HB1.out,HE1.out],by rw [HB1.out,HE1.out,HF1'.out,HE0.out];exact HA9.out,by omega⟩
          case measure=>simp [intOf]<;>omega
       ·
         have hcD:decide (s.c ≥ 0)=false:=decide_eq_false hc0
         obtain⟨s',hs'⟩:∃ s',putG cols S s=s':=⟨_,rfl⟩
         have hpg:behindF cols S.tk s fuelG S.row S.col.toNat=s':=by rw [← hs'];unfold putG;rw [if_neg hr0,if_neg hc0]
         have HE1:Hid (flow1 cols S s=⟨S.tk ++ [s'],s'.r,s'.c⟩):=zH (by unfold flow1;rw [if_neg (by omega),hs',if_pos (by omega),if_pos (by omega)])
         have HE0:Hid (flow0 cols S s=s'):=zH (by unfold flow0;rw [if_neg (by omega),hs'])
         obtain⟨cn,hcn⟩:∃ cn:Nat,cols=cn:=⟨cols.toNat,by omega⟩
         have hbb:=HBR.out
         rw [hcn] at hbb
         have HA:=zH (behind_any wc w.heap.size cn _ S.tk hbb s (by rw [← hcn];exact⟨q1,q2⟩) ⟨q3,q4⟩ S.row S.col HSOK.out.row (by rw [← hcn];exact HSOK.out.col))
         rw [← hcn,hpg] at HA
         unfold Spn.val at HA
         clear hs' hpg HBR hsin hbb hcn
         go_upto_region 21 with (go_at_call 161;((with_reducible refine(HA.out).mono ?_);rintro e1' w2 ⟨rfl,hb2⟩;have HF4:=zH (HF3.out.below hb2);have HS4:Hid (OneS w2 q s):=zH (Arr.below HS3.out hb2);obtain⟨j1,j2,j3,j4⟩:=HS4.out.get;have g1:=HS4.out.froz 0;have g2:=HS4.out.froz 1;have g3:=HS4.out.froz 2;have g4:=HS4.out.froz 3;have l4:=HS4.out.lt;clear hb2))
         have HS5:Hid (OneS _ q s'):=zH (OneS.put w2 HS4.out s')
         have HF5:Hid (FLW w _ w.heap.size (w.heap.size+1) (w.heap.size+2) cols tv S.tk (F ++ s :: O.drop (a+1))):=zH ((((HF4.out.oth hq (by omega) hvq 0 (.int .i64 s'.c)).oth hq (by omega) hvq 1 (.int .i64 s'.r)).oth hq (by omega) hvq 2 (.int .i64 s'.cs)).oth hq (by omega) hvq 3 (.int .i64 s'.rs))
         generalize World.setCell (World.setCell (World.setCell (World.setCell w2 _ _) _ _) _ _) _ _=w5 at HS5 HF5 ⊢
         clear HF4 HS4 HF3 HS3 i1 i2 i3 i4 j1 j2 j3 j4 g1 g2 g3 g4 l4 l5
         obtain⟨i1,i2,i3,i4⟩:=HS5.out.get
         have l4:=HS5.out.lt
         go_quiet (fail)
         have HF7:=zH (HF5.out.drew nq)
         have HS7:Hid (OneS (w5.drewN nq) q s'):=zH (Arr.drew HS5.out nq)
         clear HF5 HS5 i1 i2 i3 i4 l4
         generalize w5.drewN nq=w5 at HF7 HS7 ⊢
         have HF5:=HF7
         have HS5:=HS7
         clear HF7 HS7
         have ne1:w.heap.size+1 ≠ q:=by omega
         obtain⟨i1,i2,i3,i4⟩:=HS5.out.get
         obtain⟨e1,e2,e3,e4⟩:=HF5.out.out.at HG1.out
         have f1:=HF5.out.out.froz (a*4)
         have f2:=HF5.out.out.froz (a*4+1)
         have f3:=HF5.out.out.froz (a*4+2)
         have f4:=HF5.out.out.froz (a*4+3)
         have l1:=HF5.out.out.lt
         have l4:=HS5.out.lt
         have hPT:=HF5.out.put HGL.out s'
         rw [HG2.out] at hPT
         have HF6:=zH hPT
         have HS6:Hid (OneS _ q s'):=zH ((((Arr.other HS5.out (b':=w.heap.size+1) (by omega) (a*4) (.int .i64 s'.c)).other (b':=w.heap.size+1) (by omega) (a*4+1) (.int .i64 s'.r)).other (b':=w.heap.size+1) (by omega) (a*4+2) (.int .i64 s'.cs)).other (b':=w.heap.size+1) (by omega) (a*4+3) (.int .i64 s'.rs))
         clear hPT
         go_upto_region 28 with (fail)
         generalize World.setCell (World.setCell (World.setCell (World.setCell w5 _ _) _ _) _ _) _ _=w6 at HS6 HF6 ⊢
         clear HF5 HS5 i1 i2 i3 i4 e1 e2 e3 e4 f1 f2 f3 f4 l1 l4
         obtain⟨i1,i2,i3,i4⟩:=HS6.out.get
         have a0:w6.cell? ⟨w.heap.size,1,none⟩=some tv:=HF6.out.brd.cell (j:=1) rfl
         have a1:=HF6.out.brd.lt
         have a2:=HS6.out.lt
         have a3:=HF6.out.out.lt
         obtain⟨p8,cp8,rfl⟩:=row_form HF6.out.row
         go_region_law (refine step_append_row elS4 rfl (.tmp 127) (.tmp 129) rfl _ S.tk.length (flatC Spn.cells S.tk) (w.heap.size+2) (by simp [Act.eval,Act.put]) (orow_belowSize HF6.out.row (by first|exact Below.alloc (Below.refl _ _) (Nat.le_refl _) _|exact Below.drew (Below.alloc (Below.refl _ _) (Nat.le_refl _) _)|exact Below.alloc (Below.drew (Below.refl _ _)) (Nat.le_refl _) _|exact Below.alloc (below_drewN (Below.refl _ _) _) (Nat.le_refl _) _|exact below_drewN (Below.alloc (Below.refl _ _) (Nat.le_refl _) _) _|(repeat (first|exact Below.refl _ _|assumption|refine below_drewN ?_ _|refine Below.drew ?_|(refine Below.alloc ?_ ?bs _;(case bs=>first|omega|(simp;done)|(simp;omega)))|(refine Below.setCell ?_ ?bs _;(case bs=>first|omega|(simp;done)|(simp;omega))))))) (by simp;omega) ⟨w6.heap.size,0,none⟩ [.int .i64 s'.c,.int .i64 s'.r,.int .i64 s'.cs,.int .i64 s'.rs] (by simp [Act.eval,Act.put]) rfl (news_block (cs:=#[.int .i64 s'.c,.int .i64 s'.r,.int .i64 s'.cs,.int .i64 s'.rs]) (t:=135) (fr:=(0,0)) (heap_alloc_new _ _)) (by simp [Value.oneCell']) (by have:=HSL.out;omega) ?_;intro v' w9 hrow9 hgr9;have HA9:=zH (FLW.app (s:=s') (HF6.out.below (by first|exact Below.alloc (Below.refl _ _) (Nat.le_refl _) _|exact Below.drew (Below.alloc (Below.refl _ _) (Nat.le_refl _) _)|exact Below.alloc (Below.drew (Below.refl _ _)) (Nat.le_refl _) _|exact Below.alloc (below_drewN (Below.refl _ _) _) (Nat.le_refl _) _|exact below_drewN (Below.alloc (Below.refl _ _) (Nat.le_refl _) _) _|(repeat (first|exact Below.refl _ _|assumption|refine below_drewN ?_ _|refine Below.drew ?_|(refine Below.alloc ?_ ?bs _;(case bs=>first|omega|(simp;done)|(simp;omega)))|(refine Below.setCell ?_ ?bs _;(case bs=>first|omega|(simp;done)|(simp;omega))))))) (by simp;omega) (by omega) hrow9 hgr9);have HB9:Arr w9 w.heap.size [.int .i64 cols,_] 215:=Arr.grown (HF6.out.brd.below (by first|exact Below.alloc (Below.refl _ _) (Nat.le_refl _) _|exact Below.drew (Below.alloc (Below.refl _ _) (Nat.le_refl _) _)|exact Below.alloc (Below.drew (Below.refl _ _)) (Nat.le_refl _) _|exact Below.alloc (below_drewN (Below.refl _ _) _) (Nat.le_refl _) _|exact below_drewN (Below.alloc (Below.refl _ _) (Nat.le_refl _) _) _|(repeat (first|exact Below.refl _ _|assumption|refine below_drewN ?_ _|refine Below.drew ?_|(refine Below.alloc ?_ ?bs _;(case bs=>first|omega|(simp;done)|(simp;omega)))|(refine Below.setCell ?_ ?bs _;(case bs=>first|omega|(simp;done)|(simp;omega))))))) hgr9 (fun e=>HF6.out.vne HF6.out.b1 e.symm);have c9:=HB9.cell (j:=1) rfl;have f9:=HB9.froz 1;have l9:=HB9.lt;obtain⟨p9,cp9,rfl⟩:=row_form hrow9;clear HB9 hrow9 hgr9)
         all_goals
          have l2:=HA9.out.out.lt
          go_wp2
          go_roundw
          case rel=>exact⟨a+1,_,by first|rfl|go_num,by omega,by rw [HB1.out,HE1.out],by rw [HB1.out,HE1.out],by rw [HB1.out,HE1.out,HF1'.out,HE0.out];exact HA9.out,by omega⟩
          case measure=>simp [intOf]<;>omega
     ·as_aux_lemma=>
       have hlt3D:decide ((a:Int)<(k:Int))=false:=decide_eq_false (by omega)
       obtain rfl:a=k:=by omega
       have HE:Hid (flowF cols (O.take a) B0 ++ O.drop a=gflow spans n):=zH (by rw [HR2.out,List.take_of_length_le (by rw [HOL.out];exact Nat.le_refl _),List.drop_of_length_le (by rw [HOL.out];exact Nat.le_refl _),List.append_nil])
       have HLN:Hid ((flowF cols (O.take a) B0 ++ O.drop a).length=a):=zH (by simp [hFl,HOL.out])
       clear hSok hSl hFl
       go_wp2
       go_ret
       rw [← HE.out]
       refine⟨_,rfl,HF2.out.g,?_,fun a' n' c' e=>by
        have e2:Value.slice (some ⟨w.heap.size+1,0,none⟩) a a=Value.slice (some a') n' c':=e
        injection e2 with e1 _ _
        injection e1 with e1
        subst e1
        simp⟩
       have:=HF2.out.out.sl (by rw [HLN.out];omega) a
       rw [HLN.out] at this
       exact this
end Go.Proofs.YtlenbcmgjancmaaGreatDoor
