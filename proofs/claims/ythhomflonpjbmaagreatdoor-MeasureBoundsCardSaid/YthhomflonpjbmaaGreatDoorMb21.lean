/-
 Blocks of a call's own, sums; solve's small functions at any input.
-/
import Derived.Test.YthhomflonpjbmaaGreatDoorMb18
import Derived.Test.YthhomflonpjbmaaGreatDoorMb20
import Derived.Deep.RegionWith
import Derived.Deep.DeepCutAuto
import Derived.BigQuiet
import Derived.Deep.QuietTactic
set_option linter.unusedVariables false
set_option linter.unusedSimpArgs false
namespace Go.Proofs.YthhomflonpjbmaaGreatDoor
open Go.RowKit
def Arr (W : World) (b : Nat) (l : List Value) (e : TypeId) : Prop:=W.heap[b]? = some (.cells l.toArray e (0,0))
section
variable {W W' : World} {b : Nat} {l : List Value} {e : TypeId}
theorem Arr.lt (h : Arr W b l e) : b < W.heap.size:=(Array.getElem?_eq_some_iff.1 h).1
theorem Arr.cell (h : Arr W b l e) {j : Nat} {v : Value} (hj : l[j]? = some v) : W.cell? ⟨b,j,none⟩ = some v:=by
 rw [cell_of_row W b j _ e _ h];simpa using hj
theorem Arr.froz (h : Arr W b l e) (j : Nat) : W.frozen? ⟨b,j,none⟩ = false:=frozen_of_row W b j _ e h
theorem Arr.set (h : Arr W b l e) (j : Nat) (v : Value) : Arr (W.setCell ⟨b,j,none⟩ v) b (l.set j v) e:=by
 have:=heap_setCell_same W b j _ e v h
 unfold Arr
 rw [this];simp
theorem Arr.other (h : Arr W b l e) {b' : Nat} (hne : b ≠ b') (j : Nat) (v : Value) : Arr (W.setCell ⟨b',j,none⟩ v) b l e:=by
 unfold Arr
 rw [heap_setCell_other W _ b v (by simpa using hne)];exact h
theorem Arr.below (h : Arr W b l e) (hb : Below W.heap.size W W') : Arr W' b l e:=by
 unfold Arr
 rw [hb.block b h.lt];exact h
theorem Arr.grown {row : Option Nat} (h : Arr W b l e) (hg : W.grownBy W' row) (hne : some b ≠ row) : Arr W' b l e:=by
 unfold Arr
 rw [hg.block b h.lt hne];exact h
theorem Arr.alloc (h : Arr W b l e) (o : Obj) : Arr (W.alloc o) b l e:=by
 exact h.grown (World.grownBy_alloc W o none) (by simp)
theorem Arr.drew (h : Arr W b l e) (m : Nat) : Arr (W.drewN m) b l e:=h
theorem Arr.made (W : World) (n : Nat) (z : Value) (e : TypeId) : Arr (W.alloc (.cells (madeCells #[z] n) e)) W.heap.size (List.replicate n z) e:=by
 unfold Arr
 rw [heap_alloc_new,← toList_madeCells_one]
theorem grown_set (W : World) (b j : Nat) (v : Value) : W.grownBy (W.setCell ⟨b,j,none⟩ v) (some b) :=
 ⟨rfl,rfl,rfl,by simp,fun k _ hk=>heap_setCell_other W ⟨b,j,none⟩ k v (fun e=>hk (by simp [e]))⟩
theorem grown_trans {w w1 w2 : World} {row : Option Nat} (h : w.grownBy w1 row) (k : w1.grownBy w2 row) : w.grownBy w2 row :=
 ⟨k.os.trans h.os,k.tape.trans h.tape,k.output.trans h.output,Nat.le_trans h.size k.size,fun i hi hn=>(k.block i (Nat.lt_of_lt_of_le hi h.size) hn).trans (h.block i hi hn)⟩
theorem grown_below {w w1 : World} {row : Option Nat} (h : Below w.heap.size w w1) : w.grownBy w1 row :=
 ⟨h.os,h.tape,h.output,h.size,fun i hi _=>h.block i hi⟩
end
abbrev ivl (l : List Int) : List Value:=l.map (Value.int .i64)
abbrev ArrI (W : World) (b : Nat) (l : List Int) : Prop:=Arr W b (ivl l) 3
theorem ArrI.at {W : World} {b : Nat} {l : List Int} (h : ArrI W b l) {j : Nat} {x : Int} (hj : l[j]? = some x) : W.cell? ⟨b,j,none⟩ = some (.int .i64 x) :=
 h.cell (by simp [hj])
theorem ArrI.put {W : World} {b : Nat} {l : List Int} (h : ArrI W b l) (j : Nat) (x : Int) : ArrI (W.setCell ⟨b,j,none⟩ (.int .i64 x)) b (l.set j x):=by
 have:=h.set j (.int .i64 x)
 simpa [ArrI,ivl,List.map_set] using this
theorem ArrI.sl {W : World} {b : Nat} {l : List Int} (h : ArrI W b l) (hl : l.length≤17592186044416) (c : Nat) : SlI W (.slice (some ⟨b,0,none⟩) l.length c) l :=
 ⟨_,c,rfl,hl,fun i x hi=>⟨b,0,rfl,h.lt,by rw [Nat.zero_add];exact h.at hi⟩⟩
theorem ArrI.made (W : World) (n : Nat) : ArrI (W.alloc (.cells (madeCells #[.int .i64 0] n) 3)) W.heap.size (List.replicate n 0):=by
 have:=Arr.made W n (.int .i64 0) 3
 simpa [ArrI,ivl] using this
def sumL : List Int→Int
 | []=>0
 |x :: l=>x + sumL l
theorem sumL_append (l m : List Int) : sumL (l ++ m) = sumL l + sumL m:=by
 induction l with
 |nil=>simp [sumL]
 |cons x l ih=>simp only [List.cons_append,sumL];rw [ih];omega
theorem sumL_bound (l : List Int) (b : Int) (h : ∀ x ∈ l,0≤x∧x≤b) : 0≤sumL l∧sumL l≤b * l.length:=by
 induction l with
 |nil=>simp [sumL]
 |cons x l ih=>
  have h1:=h x (by simp)
  have h2:=ih fun y hy=>h y (by simp [hy])
  rw [List.length_cons]
  have : b * ((l.length + 1 : Nat) : Int) = b * l.length + b:=by push_cast;rw [Int.mul_add,Int.mul_one]
  simp only [sumL]
  omega
theorem take_succ_sum {l : List Int} {a : Nat} {x : Int} (h : l[a]? = some x) : sumL (l.take (a + 1)) = sumL (l.take a) + x:=by
 obtain ⟨h1,rfl⟩:=List.getElem?_eq_some_iff.1 h
 rw [List.take_succ_eq_append_getElem h1,sumL_append]
 simp [sumL]
theorem sumL_map {α : Type} (f : α→Int) (l : List α) : sumL (l.map f) = sumF f l:=by
 induction l with
 |nil=>rfl
 |cons x l ih=>simp only [List.map_cons,sumL,sumF,ih]
theorem sum_take_bound {l : List Int} {b : Int} (h : ∀ x ∈ l,0≤x∧x≤b) (hb : 0≤b) (a : Nat) (hl : l.length≤1048576) : 0≤sumL (l.take a)∧sumL (l.take a)≤b * 1048576:=by
 have:=sumL_bound (l.take a) b fun x hx=>h x (List.mem_of_mem_take hx)
 refine ⟨this.1,Int.le_trans this.2 (Int.mul_le_mul_of_nonneg_left ?_ hb)⟩
 have h2 : (l.take a).length≤1048576:=by rw [List.length_take];omega
 omega
set_option maxRecDepth 100000 in
set_option maxHeartbeats 4000000 in
theorem ssum_any (v : Value) (l : List Int) (w : World) (hv : SlI w v l) (hl : l.length≤1048576) (hb : ∀ x ∈ l,0≤x∧x≤1099511627776) :
  Calls Tryz.prog 128 #[v] w (VRet (.int .i64 (sumL l)) w):=by
 obtain ⟨p,c,rfl,_,hx⟩:=hv
 have HX:=zH hx
 have HB:=zH hb
 clear hx hb
 go_enter Tryz.func128,Tryz.ntmps128
 go_wp2
 go_loopw [8,3] (fun i s wr=>∃ a : Nat,i = .int .i64 a∧a≤l.length∧s = .int .i64 (sumL (l.take a))∧wr = w) (fun i _ _=>l.length - (intOf i).toNat)
 case atStart=>exact ⟨0,rfl,by omega,by simp [sumL],rfl⟩
 case round=>
  obtain ⟨a,rfl,hle,rfl,rfl⟩:=hrel
  by_cases hlt : a < l.length
  ·have hltI : (a : Int) < (l.length : Int):=by omega
   obtain ⟨x,hx⟩ : ∃ x,l[a]? = some x:=⟨_,List.getElem?_eq_getElem hlt⟩
   obtain ⟨g,o,rfl,hg,hc⟩:=HX.out a x hx
   have HS:=zH (take_succ_sum hx)
   have hb1:=HB.out x (List.mem_of_getElem? hx)
   have hb2:=sum_take_bound HB.out (by omega) a hl
   clear hx
   generalize sumL (l.take a) = s at *
   go_wp2
   go_roundw
   case rel=>exact ⟨a + 1,by first | rfl | go_num,by omega,by rw [HS.out],by first | rfl | trivial⟩
   case measure=>simp [intOf];omega
  ·have hlt' : ¬ (a : Int) < (l.length : Int):=by omega
   obtain rfl : a = l.length:=by omega
   rw [List.take_length]
   go_wp2
   go_ret
   exact ⟨rfl,rfl⟩
def sideS (n : Int) : Int:=min (max n 0) 4096
theorem sideS_range (n : Int) : 0≤sideS n∧sideS n≤4096:=by unfold sideS;omega
set_option maxRecDepth 100000 in
theorem sside_any (n : Int) (w : World) : Calls Tryz.prog 126 #[.int .i64 n] w (VRet (.int .i64 (sideS n)) w):=by
 go_enter Tryz.func126,Tryz.ntmps126
 go_wp2
 go_ret
 exact ⟨by unfold sideS;rfl,rfl⟩
def intoS (n : Int) (it : Itm) : Int:=if 0 < it.mx then min (max n it.mn) it.mx else max n it.mn
set_option maxRecDepth 100000 in
theorem sinto_any (n : Int) (it : Itm) (w : World) : Calls Tryz.prog 127 #[.int .i64 n,it.val] w (VBel (.int .i64 (intoS n it)) w):=by
 obtain ⟨k,m,d,mn,mx⟩:=it
 by_cases h : 0 < mx
 ·have HR : Hid (intoS n ⟨k,m,d,mn,mx⟩ = min (max n mn) mx):=zH (by simp [intoS,h])
  unfold Itm.val
  go_enter Tryz.func127,Tryz.ntmps127
  go_wp2
  go_ret
  exact ⟨by rw [HR.out];rfl,by (repeat (first | exact Below.refl _ _ | assumption | refine below_drewN ?_ _ | refine Below.drew ?_ | (refine Below.alloc ?_ ?bs _;(case bs=>first | omega | (simp;done) | (simp;omega))) | (refine Below.setCell ?_ ?bs _;(case bs=>first | omega | (simp;done) | (simp;omega)))))⟩
 ·have HR : Hid (intoS n ⟨k,m,d,mn,mx⟩ = max n mn):=zH (by simp [intoS,h])
  unfold Itm.val
  go_enter Tryz.func127,Tryz.ntmps127
  go_wp2
  go_ret
  exact ⟨by rw [HR.out];rfl,by (repeat (first | exact Below.refl _ _ | assumption | refine below_drewN ?_ _ | refine Below.drew ?_ | (refine Below.alloc ?_ ?bs _;(case bs=>first | omega | (simp;done) | (simp;omega))) | (refine Below.setCell ?_ ?bs _;(case bs=>first | omega | (simp;done) | (simp;omega)))))⟩
set_option maxRecDepth 100000 in
theorem into_any (n : Int) (it : Itm) (w : World) : Calls Tryz.prog 95 #[.int .i64 n,it.val] w (VBel (.int .i64 (intoS n it)) w):=by
 obtain ⟨k,m,d,mn,mx⟩:=it
 by_cases h : 0 < mx
 ·have HR : Hid (intoS n ⟨k,m,d,mn,mx⟩ = min (max n mn) mx):=zH (by simp [intoS,h])
  unfold Itm.val
  go_enter Tryz.func95,Tryz.ntmps95
  go_wp2
  go_ret
  exact ⟨by rw [HR.out];rfl,by (repeat (first | exact Below.refl _ _ | assumption | refine below_drewN ?_ _ | refine Below.drew ?_ | (refine Below.alloc ?_ ?bs _;(case bs=>first | omega | (simp;done) | (simp;omega))) | (refine Below.setCell ?_ ?bs _;(case bs=>first | omega | (simp;done) | (simp;omega)))))⟩
 ·have HR : Hid (intoS n ⟨k,m,d,mn,mx⟩ = max n mn):=zH (by simp [intoS,h])
  unfold Itm.val
  go_enter Tryz.func95,Tryz.ntmps95
  go_wp2
  go_ret
  exact ⟨by rw [HR.out];rfl,by (repeat (first | exact Below.refl _ _ | assumption | refine below_drewN ?_ _ | refine Below.drew ?_ | (refine Below.alloc ?_ ?bs _;(case bs=>first | omega | (simp;done) | (simp;omega))) | (refine Below.setCell ?_ ?bs _;(case bs=>first | omega | (simp;done) | (simp;omega)))))⟩
set_option maxRecDepth 100000 in
theorem brought_any (n : Int) (it : Itm) (w : World) : Calls Tryz.prog 133 #[.int .i64 n,it.val] w (VBel (.int .i64 (intoS n it)) w):=by
 obtain ⟨k,m,d,mn,mx⟩:=it
 by_cases h : 0 < mx
 ·have HR : Hid (intoS n ⟨k,m,d,mn,mx⟩ = min (max n mn) mx):=zH (by simp [intoS,h])
  unfold Itm.val
  go_enter Tryz.func133,Tryz.ntmps133
  go_wp2
  go_ret
  exact ⟨by rw [HR.out];rfl,by (repeat (first | exact Below.refl _ _ | assumption | refine below_drewN ?_ _ | refine Below.drew ?_ | (refine Below.alloc ?_ ?bs _;(case bs=>first | omega | (simp;done) | (simp;omega))) | (refine Below.setCell ?_ ?bs _;(case bs=>first | omega | (simp;done) | (simp;omega)))))⟩
 ·have HR : Hid (intoS n ⟨k,m,d,mn,mx⟩ = max n mn):=zH (by simp [intoS,h])
  unfold Itm.val
  go_enter Tryz.func133,Tryz.ntmps133
  go_wp2
  go_ret
  exact ⟨by rw [HR.out];rfl,by (repeat (first | exact Below.refl _ _ | assumption | refine below_drewN ?_ _ | refine Below.drew ?_ | (refine Below.alloc ?_ ?bs _;(case bs=>first | omega | (simp;done) | (simp;omega))) | (refine Below.setCell ?_ ?bs _;(case bs=>first | omega | (simp;done) | (simp;omega)))))⟩
def boundS (it : Itm) : Int:=if 0 < it.mx then it.mx else 8192
set_option maxRecDepth 100000 in
theorem bound_any (it : Itm) (w : World) : Calls Tryz.prog 158 #[it.val] w (VBel (.int .i64 (boundS it)) w):=by
 obtain ⟨k,m,d,mn,mx⟩:=it
 by_cases h : 0 < mx
 ·have HR : Hid (boundS ⟨k,m,d,mn,mx⟩ = mx):=zH (by simp [boundS,h])
  unfold Itm.val
  go_enter Tryz.func158,Tryz.ntmps158
  go_wp2
  go_ret
  exact ⟨by rw [HR.out];rfl,by (repeat (first | exact Below.refl _ _ | assumption | refine below_drewN ?_ _ | refine Below.drew ?_ | (refine Below.alloc ?_ ?bs _;(case bs=>first | omega | (simp;done) | (simp;omega))) | (refine Below.setCell ?_ ?bs _;(case bs=>first | omega | (simp;done) | (simp;omega)))))⟩
 ·have HR : Hid (boundS ⟨k,m,d,mn,mx⟩ = 8192):=zH (by simp [boundS,h])
  unfold Itm.val
  go_enter Tryz.func158,Tryz.ntmps158
  go_wp2
  go_ret
  exact ⟨by rw [HR.out];rfl,by (repeat (first | exact Below.refl _ _ | assumption | refine below_drewN ?_ _ | refine Below.drew ?_ | (refine Below.alloc ?_ ?bs _;(case bs=>first | omega | (simp;done) | (simp;omega))) | (refine Below.setCell ?_ ?bs _;(case bs=>first | omega | (simp;done) | (simp;omega)))))⟩
def within3S (n lo hi : Int) : Int:=min (max n lo) hi
set_option maxRecDepth 100000 in
theorem within3_any (n lo hi : Int) (w : World) : Calls Tryz.prog 132 #[.int .i64 n,.int .i64 lo,.int .i64 hi] w (VRet (.int .i64 (within3S n lo hi)) w):=by
 go_enter Tryz.func132,Tryz.ntmps132
 go_wp2
 go_ret
 exact ⟨by unfold within3S;rfl,rfl⟩
end Go.Proofs.YthhomflonpjbmaaGreatDoor
/-
 The walks of slices' stable sort at ints, compared by a row that a closure has captured (solve.topped): the small parts.
-/
namespace Go.Proofs.YthhomflonpjbmaaGreatDoor
open Go.RowKit
abbrev cmpV (bx : Nat) : Value:=.func (.func 175) #[] #[.pointer (some ⟨bx,0,none⟩)]
abbrev ltR (r : List Int) (x y : Int) : Bool:=decide (gd r y.toNat - gd r x.toNat < 0)
structure Srt (W0 : World) (d bx br cr : Nat) (r l : List Int) (W : World) : Prop where
 dat : ArrI W d l
 row : ArrI W br r
 box : W.cell? ⟨bx,0,none⟩ = some (.slice (some ⟨br,0,none⟩) r.length cr)
 n1 : bx ≠ d
 n2 : br ≠ d
 g : W0.grownBy W (some d)
 ln : l.length = r.length
 ok : ∀ x ∈ l,0≤x∧x < r.length
 rb : ∀ x ∈ r,0≤x∧x≤1099511627776
 rn : r.length≤1048576
section
variable {W0 W W' : World} {d bx br cr : Nat} {r l : List Int}
theorem Srt.below (h : Srt W0 d bx br cr r l W) (hb : Below W.heap.size W W') : Srt W0 d bx br cr r l W' :=
 ⟨h.dat.below hb,h.row.below hb,by rw [hb.cell (p:=⟨bx,0,none⟩) (World.block_lt_of_cell? W _ h.box)];exact h.box,h.n1,h.n2,grown_trans h.g (grown_below hb),h.ln,h.ok,h.rb,h.rn⟩
theorem Srt.drew (h : Srt W0 d bx br cr r l W) : Srt W0 d bx br cr r l W.drew :=
 ⟨h.dat,h.row,h.box,h.n1,h.n2,⟨h.g.os,h.g.tape,h.g.output,h.g.size,h.g.block⟩,h.ln,h.ok,h.rb,h.rn⟩
theorem Srt.drewN (h : Srt W0 d bx br cr r l W) (m : Nat) : Srt W0 d bx br cr r l (W.drewN m) :=
 ⟨h.dat,h.row,h.box,h.n1,h.n2,⟨h.g.os,h.g.tape,h.g.output,h.g.size,h.g.block⟩,h.ln,h.ok,h.rb,h.rn⟩
theorem Srt.swap (h : Srt W0 d bx br cr r l W) {i j : Nat} (hi : i < l.length) (hj : j < l.length) :
  Srt W0 d bx br cr r (swp l i j) ((W.setCell ⟨d,i,none⟩ (.int .i64 (gd l j))).setCell ⟨d,j,none⟩ (.int .i64 (gd l i))) :=
 have h2:=sub_swp hi hj
 ⟨(h.dat.put i _).put j _,(h.row.other h.n2 _ _).other h.n2 _ _,(grown_trans (grown_set W d i _) (grown_set _ d j _)).cell h.box (by simpa using h.n1),h.n1,h.n2,
  grown_trans h.g (grown_trans (grown_set W d i _) (grown_set _ d j _)),h2.1.trans h.ln,fun x hx=>h.ok x (h2.2 x hx),h.rb,h.rn⟩
theorem Srt.to (h : Srt W0 d bx br cr r l W) {l' : List Int} (e : l = l') : Srt W0 d bx br cr r l' W:=e ▸ h
theorem Srt.at (h : Srt W0 d bx br cr r l W) {i : Nat} (hi : i < l.length) : W.cell? ⟨d,i,none⟩ = some (.int .i64 (gd l i)) :=
 h.dat.at (by simp [gd,List.getElem?_eq_getElem hi])
theorem Srt.mid (h : Srt W0 d bx br cr r l W) {i j : Nat} (hj : j < l.length) (x : Int) : ∃ y,(W.setCell ⟨d,i,none⟩ (.int .i64 x)).cell? ⟨d,j,none⟩ = some (.int .i64 y)∧(W.setCell ⟨d,i,none⟩ (.int .i64 x)).frozen? ⟨d,j,none⟩ = false:=by
 have h1:=h.dat.put i x
 have h2 : j < (l.set i x).length:=by simpa using hj
 exact ⟨_,h1.at (List.getElem?_eq_getElem h2),h1.froz j⟩
theorem Srt.rat (h : Srt W0 d bx br cr r l W) {x : Int} (h0 : 0≤x) (hi : x < r.length) : W.cell? ⟨br,x.toNat,none⟩ = some (.int .i64 (gd r x.toNat)) :=
 have h2 : x.toNat < r.length:=by omega
 h.row.at (by simp [gd,List.getElem?_eq_getElem h2])
end
set_option maxRecDepth 100000 in
set_option maxHeartbeats 4000000 in
theorem cmp_any {W0 W : World} {d bx br cr : Nat} {r l : List Int} (h : Srt W0 d bx br cr r l W) (x y : Int) (hx : 0≤x∧x < r.length) (hy : 0≤y∧y < r.length) :
  Calls Tryz.prog 175 #[.int .i64 x,.int .i64 y,.pointer (some ⟨bx,0,none⟩)] W (fun e w'=>e = .returned (.int .i64 (gd r y.toNat - gd r x.toNat))∧∃ m,w' = W.drewN m):=by
 obtain ⟨i,rfl⟩ : ∃ i : Nat,x = i:=⟨x.toNat,by omega⟩
 obtain ⟨j,rfl⟩ : ∃ j : Nat,y = j:=⟨y.toNat,by omega⟩
 have c1:=h.box
 have c2:=h.rat hx.1 hx.2
 have c3:=h.rat hy.1 hy.2
 have b1:=h.rb (gd r (i : Int).toNat) (gd_mem (by omega))
 have b2:=h.rb (gd r (j : Int).toNat) (gd_mem (by omega))
 clear h
 obtain ⟨-,hx⟩:=hx
 obtain ⟨-,hy⟩:=hy
 simp only [Int.toNat_natCast] at *
 generalize gd r i = u at *
 generalize gd r j = v at *
 go_enter Tryz.func175,Tryz.ntmps175
 go_wp2
 go_quiet (fail)
 go_wp2
 go_ret
 exact ⟨rfl,_,rfl⟩
set_option maxRecDepth 100000 in
set_option maxHeartbeats 4000000 in
theorem swr_any {W0 W : World} {d bx br cr : Nat} {r l : List Int} (h : Srt W0 d bx br cr r l W) {N : Nat} (hN : l.length = N) {A B C : Int} (a b n c : Nat) (eA : A = a) (eB : B = b) (eC : C = n) (ha : a + n≤N) (hb : b + n≤N) :
  Calls Tryz.prog 197 #[.slice (some ⟨d,0,none⟩) N c,.int .i64 A,.int .i64 B,.int .i64 C,cmpV bx] W (fun e W'=>e = .returned (.tuple #[])∧Srt W0 d bx br cr r (swr a b n 0 l) W'):=by
 subst eA eB eC
 have H:=zH h
 have hrn : N≤1048576:=by have:=h.rn;have:=h.ln;omega
 clear h
 have HN:=zH hN
 clear hN
 go_enter Tryz.func197,Tryz.ntmps197
 go_wp2
 go_loopw [10] (fun i wr=>∃ (k : Nat) (m : List Int),i = .int .i64 k∧k≤n∧m.length = N∧Srt W0 d bx br cr r m wr∧swr a b (n - k) k m = swr a b n 0 l) (fun i _=>n - (intOf i).toNat)
 case atStart=>exact ⟨0,l,rfl,by omega,HN.out,H.out,rfl⟩
 case round=>
  obtain ⟨k,m,rfl,hk,hm,hS,hR⟩:=hrel
  have HS:=zH hS
  have HR:=zH hR
  have HM:=zH hm
  clear hS hR hm
  by_cases hlt : k < n
  ·have hltI : (k : Int) < (n : Int):=by omega
   have hI1 : (a : Int) + (k : Int) < (N : Int):=by omega
   have hI2 : (b : Int) + (k : Int) < (N : Int):=by omega
   have c1:=HS.out.at (i:=a + k) (by have:=HM.out;omega)
   have c2:=HS.out.at (i:=b + k) (by have:=HM.out;omega)
   have f1:=HS.out.dat.froz (a + k)
   have f2:=HS.out.dat.froz (b + k)
   obtain ⟨y1,c3,f3⟩:=HS.out.mid (i:=a + k) (j:=b + k) (by have:=HM.out;omega) (gd m (b + k))
   have HW:=zH (HS.out.swap (i:=a + k) (j:=b + k) (by have:=HM.out;omega) (by have:=HM.out;omega))
   generalize gd m (a + k) = u at *
   generalize gd m (b + k) = v at *
   go_wp2
   go_region
   go_wp2
   go_roundw
   case rel=>exact ⟨k + 1,swp m (a + k) (b + k),by first | rfl | go_num,by omega,by rw [swp_len];exact HM.out,by first | exact HW.out | exact HW.out.drew,by rw [← HR.out,show n - k = (n - (k + 1)) + 1 by omega];rfl⟩
   case measure=>simp [intOf];omega
  ·have hlt' : ¬ (k : Int) < (n : Int):=by omega
   obtain rfl : k = n:=by omega
   go_wp2
   go_end0
   refine ⟨rfl,HS.out.to ?_⟩
   rw [← HR.out,Nat.sub_self];rfl
end Go.Proofs.YthhomflonpjbmaaGreatDoor
/-
 The walks of slices' stable sort at ints: rotate, insertion.
-/
namespace Go.Proofs.YthhomflonpjbmaaGreatDoor
open Go.RowKit
set_option maxRecDepth 100000 in
set_option maxHeartbeats 4000000 in
theorem rot_any {W0 W : World} {d bx br cr : Nat} {r l : List Int} (h : Srt W0 d bx br cr r l W) {N : Nat} (hN : l.length = N) {A M B : Int} (a m b c : Nat) (eA : A = a) (eM : M = m) (eB : B = b) (ha : a < m) (hm : m < b) (hb : b≤N) :
  Calls Tryz.prog 196 #[.slice (some ⟨d,0,none⟩) N c,.int .i64 A,.int .i64 M,.int .i64 B,cmpV bx] W (fun e W'=>e = .returned (.tuple #[])∧Srt W0 d bx br cr r (rotS a m b l) W'):=by
 subst eA eM eB
 have H:=zH h
 have hrn : N≤1048576:=by have:=h.rn;have:=h.ln;omega
 clear h
 have HN:=zH hN
 clear hN
 go_enter Tryz.func196,Tryz.ntmps196
 go_wp2
 go_loopw [10,11] (fun i j wr=>∃ (x y f : Nat) (k : List Int),i = .int .i64 x∧j = .int .i64 y∧1≤x∧1≤y∧x≤m∧m + y≤N∧x + y≤f∧k.length = N∧Srt W0 d bx br cr r k wr∧rotF m f x y k = rotS a m b l) (fun i j _=>(intOf i).toNat + (intOf j).toNat)
 case atStart=>exact ⟨m - a,b - m,b - a + 1,l,by first | rfl | go_num,by first | rfl | go_num,by omega,by omega,by omega,by omega,by omega,HN.out,H.out,rfl⟩
 case round=>
  obtain ⟨x,y,f,k,rfl,rfl,hx1,hy1,hxm,hyN,hf,hk,hS,hR⟩:=hrel
  obtain ⟨f,rfl⟩ : ∃ f',f = f' + 1:=⟨f - 1,by omega⟩
  have HS:=zH hS
  have HK:=zH hk
  clear hS hk
  simp only [rotF] at hR
  by_cases he : x = y
  ·subst he
   rw [if_pos rfl] at hR
   have HR:=zH hR
   clear hR
   go_wp2_with (go_at_call 197;(with_reducible refine (swr_any HS.out HK.out (m - x) m x c (by omega) (by omega) (by omega) (by omega) (by omega)).mono ?_);rintro e1' w1 ⟨rfl,hS1⟩)
   go_end0
   exact ⟨rfl,hS1.to HR.out⟩
  ·rw [if_neg he] at hR
   by_cases hlt : y < x
   ·rw [if_pos hlt] at hR
    have HR:=zH hR
    clear hR
    go_wp2_with (go_at_call 197;(with_reducible refine (swr_any HS.out HK.out (m - x) m y c (by omega) (by omega) (by omega) (by omega) (by omega)).mono ?_);rintro e1' w1 ⟨rfl,hS1⟩;have HS1:=zH hS1;clear hS1)
    go_roundw
    case rel=>exact ⟨x - y,y,f,_,by first | rfl | go_num,rfl,by omega,by omega,by omega,by omega,by omega,by rw [HS1.out.ln,← HS.out.ln,HK.out],HS1.out,HR.out⟩
    case measure=>simp [intOf] <;> omega
   ·rw [if_neg hlt] at hR
    have HR:=zH hR
    clear hR
    go_wp2_with (go_at_call 197;(with_reducible refine (swr_any HS.out HK.out (m - x) (m + y - x) x c (by omega) (by omega) (by omega) (by omega) (by omega)).mono ?_);rintro e1' w1 ⟨rfl,hS1⟩;have HS1:=zH hS1;clear hS1)
    go_roundw
    case rel=>exact ⟨x,y - x,f,_,rfl,by first | rfl | go_num,by omega,by omega,by omega,by omega,by omega,by rw [HS1.out.ln,← HS.out.ln,HK.out],HS1.out,HR.out⟩
    case measure=>simp [intOf] <;> omega
set_option maxRecDepth 100000 in
set_option maxHeartbeats 4000000 in
theorem ins_any {W0 W : World} {d bx br cr : Nat} {r l : List Int} (h : Srt W0 d bx br cr r l W) {N : Nat} (hN : l.length = N) {A B : Int} (a b c : Nat) (eA : A = a) (eB : B = b) (ha : a≤b) (hb : b≤N) :
  Calls Tryz.prog 191 #[.slice (some ⟨d,0,none⟩) N c,.int .i64 A,.int .i64 B,cmpV bx] W (fun e W'=>e = .returned (.tuple #[])∧Srt W0 d bx br cr r (insS (ltR r) a b l) W'):=by
 subst eA eB
 have H:=zH h
 have hrn : N≤1048576:=by have:=h.rn;have:=h.ln;omega
 clear h
 have HN:=zH hN
 clear hN
 go_enter Tryz.func191,Tryz.ntmps191
 go_wp2
 go_loopw [8] (fun i wr=>∃ (x : Nat) (k : List Int),i = .int .i64 x∧1≤x∧a < x∧x≤b + 1∧k.length = N∧Srt W0 d bx br cr r k wr∧insF (ltR r) a (b - x) x k = insS (ltR r) a b l) (fun i _=>b + 1 - (intOf i).toNat)
 case atStart=>exact ⟨a + 1,l,by first | rfl | go_num,by omega,by omega,by omega,HN.out,H.out,rfl⟩
 case round=>
  obtain ⟨x,k,rfl,hx1,hax,hxb,hk,hS,hR⟩:=hrel
  have HS:=zH hS
  have HK:=zH hk
  have HR:=zH hR
  clear hS hk hR
  by_cases hlt : x < b
  ·have hltI : (x : Int) < (b : Int):=by omega
   have HR1 : Hid (insF (ltR r) a (b - (x + 1)) (x + 1) (sink (ltR r) a x k) = insS (ltR r) a b l):=zH (by rw [← HR.out,show b - x = (b - (x + 1)) + 1 by omega];rfl)
   go_wp2
   go_loopw [9] (fun j wr=>∃ (y : Nat) (m : List Int),j = .int .i64 y∧a≤y∧y≤x∧m.length = N∧Srt W0 d bx br cr r m wr∧sink (ltR r) a y m = sink (ltR r) a x k) (fun j _=>(intOf j).toNat)
   case atStart=>exact ⟨x,k,rfl,by omega,by omega,HK.out,HS.out,rfl⟩
   case round=>
    obtain ⟨y,m,rfl,hay,hyx,hm,hT,hQ⟩:=hrel
    have HT:=zH hT
    have HM:=zH hm
    have HQ:=zH hQ
    clear hT hm hQ
    by_cases hlt2 : a < y
    ·have hltJ : (a : Int) < (y : Int):=by omega
     obtain ⟨q,rfl⟩ : ∃ q,y = q + 1:=⟨y - 1,by omega⟩
     have hltK : (a : Int) < (q : Int) + 1:=by omega
     have hI1 : ((q + 1 : Nat) : Int) < (N : Int):=by omega
     have hI3 : (q : Int) + 1 < (N : Int):=by omega
     have hI4 : (q : Int) < (N : Int):=by omega
     have hI2 : ((q + 1 : Nat) : Int) - 1 < (N : Int):=by omega
     have c1:=HT.out.at (i:=q + 1) (by have:=HM.out;omega)
     have c2:=HT.out.at (i:=q) (by have:=HM.out;omega)
     have HC:=zH fun n=>(cmp_any (HT.out.drewN n) (gd m (q + 1)) (gd m q) (HT.out.ok _ (gd_mem (by have:=HM.out;omega))) (HT.out.ok _ (gd_mem (by have:=HM.out;omega))))
     have hq : sink (ltR r) a (q + 1) m = if a < q + 1∧decide (gd r (gd m q).toNat - gd r (gd m (q + 1)).toNat < 0) = true then sink (ltR r) a q (swp m (q + 1) q) else m:=rfl
     rw [HQ.out] at hq
     generalize gd r (gd m q).toNat - gd r (gd m (q + 1)).toNat = D at *
     by_cases hD : D < 0
     ·rw [if_pos ⟨hlt2,by simpa using hD⟩] at hq
      have HQ1:=zH hq
      clear hq
      go_wp2
      go_quiet ((go_at_call 175;with_reducible exact Calls.quiet_of (HC.out _)))
      have f1:=HT.out.dat.froz (q + 1)
      have f2:=HT.out.dat.froz q
      obtain ⟨y1,c5,f5⟩:=HT.out.mid (i:=q + 1) (j:=q) (by have:=HM.out;omega) (gd m q)
      have HW:=zH (HT.out.swap (i:=q + 1) (j:=q) (by have:=HM.out;omega) (by have:=HM.out;omega))
      clear HC
      generalize gd m (q + 1) = u at *
      generalize gd m q = v at *
      go_wp2
      go_region
      go_wp2
      go_roundw
      case rel=>exact ⟨q,swp m (q + 1) q,by first | rfl | go_num,by omega,by omega,by rw [swp_len];exact HM.out,by first | exact HW.out.drewN _ | exact HW.out.drew | exact (HW.out.drewN _).drew,HQ1.out.symm⟩
      case measure=>simp [intOf] <;> omega
     ·rw [if_neg fun h=>hD (by simpa using h.2)] at hq
      have HQ1:=zH hq
      clear hq
      go_wp2
      go_quiet ((go_at_call 175;with_reducible exact Calls.quiet_of (HC.out _)))
      have HT1:=zH (HT.out.drewN nq)
      go_wp2
      go_roundw
      case rel=>exact ⟨x + 1,m,by first | rfl | go_num,by omega,by omega,by omega,HM.out,HT1.out,by rw [← HR1.out,HQ1.out]⟩
      case measure=>simp [intOf] <;> omega
    ·have hltJ : ¬ (a : Int) < (y : Int):=by omega
     obtain rfl : y = a:=by omega
     have HQ1 : Hid (m = sink (ltR r) y x k):=zH (by rw [← HQ.out];cases y <;> simp [sink])
     go_wp2
     go_quiet (fail)
     go_wp2
     go_roundw
     case rel=>exact ⟨x + 1,m,by first | rfl | go_num,by omega,by omega,by omega,HM.out,by first | exact HT.out | exact HT.out.drewN _,by rw [← HR1.out,HQ1.out]⟩
     case measure=>simp [intOf] <;> omega
  ·have hlt' : ¬ (x : Int) < (b : Int):=by omega
   have HE : Hid (k = insS (ltR r) a b l):=zH (by rw [← HR.out,show b - x = 0 by omega];rfl)
   go_wp2
   go_end0
   exact ⟨rfl,HS.out.to HE.out⟩
end Go.Proofs.YthhomflonpjbmaaGreatDoor
/-
 The walk of slices' stable merge at ints: the two short forms.
-/
namespace Go.Proofs.YthhomflonpjbmaaGreatDoor
open Go.RowKit
theorem bs_yes {p : Nat→Bool} {f i j q : Nat} (h : i < j) (hq : q = (i + j) / 2) (hp : p q = true) : bs p (f + 1) i j = bs p f (q + 1) j:=by
 subst hq
 simp only [bs,if_pos h,hp,if_true]
theorem bs_no {p : Nat→Bool} {f i j q : Nat} (h : i < j) (hq : q = (i + j) / 2) (hp : p q = false) : bs p (f + 1) i j = bs p f i q:=by
 subst hq
 simp only [bs,if_pos h,hp,Bool.false_eq_true,if_false]
set_option maxRecDepth 100000 in
set_option maxHeartbeats 4000000 in
theorem sym_one {W0 W : World} {d bx br cr : Nat} {r l : List Int} (h : Srt W0 d bx br cr r l W) {N : Nat} (hN : l.length = N) {A M B : Int} (a m b c : Nat) (eA : A = a) (eM : M = m) (eB : B = b) (ha : m = a + 1) (hm : m < b) (hb : b≤N) :
  Calls Tryz.prog 192 #[.slice (some ⟨d,0,none⟩) N c,.int .i64 A,.int .i64 M,.int .i64 B,cmpV bx] W (fun e W'=>e = .returned (.tuple #[])∧Srt W0 d bx br cr r (upF (bs (fun h=>ltR r (gd l h) (gd l a)) (b - m) m b - 1 - a) a l) W'):=by
 subst eA eM eB
 have H:=zH h
 have hrn : N≤1048576:=by have:=h.rn;have:=h.ln;omega
 clear h
 have HN:=zH hN
 clear hN
 obtain ⟨I,hI⟩ : ∃ I,bs (fun h=>ltR r (gd l h) (gd l a)) (b - m) m b = I:=⟨_,rfl⟩
 have HI:=zH hI
 rw [hI]
 clear hI
 have e1 : (m : Int) - (a : Int) = 1:=by omega
 go_enter Tryz.func192,Tryz.ntmps192
 go_wp2
 go_loopw [10,11] (fun i j wr=>∃ x y f : Nat,i = .int .i64 x∧j = .int .i64 y∧m≤x∧x≤y∧y≤b∧y - x≤f∧Srt W0 d bx br cr r l wr∧bs (fun h=>ltR r (gd l h) (gd l a)) f x y = I) (fun i j _=>(intOf j).toNat - (intOf i).toNat)
 case atStart=>exact ⟨m,b,b - m,rfl,rfl,by omega,by omega,by omega,by omega,H.out,HI.out⟩
 case round=>
  obtain ⟨x,y,f,rfl,rfl,hmx,hxy,hyb,hf,hS,hQ⟩:=hrel
  have HT:=zH hS
  clear hS
  by_cases hlt : x < y
  ·have hltI : (x : Int) < (y : Int):=by omega
   obtain ⟨f,rfl⟩ : ∃ f',f = f' + 1:=⟨f - 1,by omega⟩
   obtain ⟨q,hq⟩ : ∃ q,q = (x + y) / 2:=⟨_,rfl⟩
   have e2 : ((x : Int) + (y : Int)) / 2 = (q : Int):=by omega
   have hI1 : (q : Int) < (N : Int):=by omega
   have hI2 : (a : Int) < (N : Int):=by omega
   have c1:=HT.out.at (i:=q) (by have:=HN.out;omega)
   have c2:=HT.out.at (i:=a) (by have:=HN.out;omega)
   have HC:=zH fun n=>(cmp_any (HT.out.drewN n) (gd l q) (gd l a) (HT.out.ok _ (gd_mem (by have:=HN.out;omega))) (HT.out.ok _ (gd_mem (by have:=HN.out;omega))))
   have hY : gd r (gd l a).toNat - gd r (gd l q).toNat < 0→bs (fun h=>ltR r (gd l h) (gd l a)) f (q + 1) y = I:=fun hD=>by rw [← hQ];exact (bs_yes hlt hq (by simpa using hD)).symm
   have hZ : ¬ gd r (gd l a).toNat - gd r (gd l q).toNat < 0→bs (fun h=>ltR r (gd l h) (gd l a)) f x q = I:=fun hD=>by rw [← hQ];exact (bs_no hlt hq (by simpa using hD)).symm
   clear hQ
   generalize gd r (gd l a).toNat - gd r (gd l q).toNat = D at *
   by_cases hD : D < 0
   ·have HQ:=zH (hY hD)
    clear hY hZ
    have hqx : x≤q∧q < y:=by omega
    clear hq
    go_wp2
    go_quiet ((go_at_call 175;with_reducible exact Calls.quiet_of (HC.out _)))
    go_wp2
    go_roundw
    case rel=>exact ⟨q + 1,y,f,by first | rfl | go_num,rfl,by omega,by omega,by omega,by omega,HT.out.drewN _,HQ.out⟩
    case measure=>simp [intOf] <;> omega
   ·have hDd : decide (D < 0) = false:=decide_eq_false hD
    have HQ:=zH (hZ hD)
    clear hD
    clear hY hZ
    have hqx : x≤q∧q < y:=by omega
    clear hq
    go_wp2
    go_quiet ((go_at_call 175;with_reducible exact Calls.quiet_of (HC.out _)))
    go_wp2
    go_roundw
    case rel=>exact ⟨x,q,f,rfl,by first | rfl | go_num,by omega,by omega,by omega,by omega,HT.out.drewN _,HQ.out⟩
    case measure=>simp [intOf] <;> omega
  ·obtain rfl : y = x:=by omega
   have hIx : y = I:=by
    rw [← hQ]
    cases f <;> simp [bs]
   subst hIx
   clear hQ HI
   go_wp2
   go_loopw [13] (fun k wr=>∃ (x : Nat) (l1 : List Int),k = .int .i64 x∧a≤x∧x + 1≤y∧l1.length = N∧Srt W0 d bx br cr r l1 wr∧upF (y - 1 - x) x l1 = upF (y - 1 - a) a l) (fun k _=>y - (intOf k).toNat)
   case atStart=>exact ⟨a,l,rfl,by omega,by omega,HN.out,HT.out,rfl⟩
   case round=>
    obtain ⟨x,l1,rfl,hax,hxy2,hl1,hS,hQ⟩:=hrel
    have HT1:=zH hS
    have HL:=zH hl1
    have HQ:=zH hQ
    clear hS hl1 hQ HT
    by_cases hlt3 : x < y - 1
    ·have hltI : (x : Int) < (y : Int) - 1:=by omega
     have hI1 : (x : Int) < (N : Int):=by omega
     have hI2 : (x : Int) + 1 < (N : Int):=by omega
     have c1:=HT1.out.at (i:=x) (by have:=HL.out;omega)
     have c2:=HT1.out.at (i:=x + 1) (by have:=HL.out;omega)
     have f1:=HT1.out.dat.froz x
     have f2:=HT1.out.dat.froz (x + 1)
     obtain ⟨y1,c5,f5⟩:=HT1.out.mid (i:=x) (j:=x + 1) (by have:=HL.out;omega) (gd l1 (x + 1))
     have HW:=zH (HT1.out.swap (i:=x) (j:=x + 1) (by have:=HL.out;omega) (by have:=HL.out;omega))
     generalize gd l1 x = u at *
     generalize gd l1 (x + 1) = v at *
     go_wp2
     go_region
     go_wp2
     go_roundw
     case rel=>exact ⟨x + 1,swp l1 x (x + 1),by first | rfl | go_num,by omega,by omega,by rw [swp_len];exact HL.out,by first | exact HW.out.drew | exact HW.out.drewN _ | exact HW.out,by rw [← HQ.out,show y - 1 - x = (y - 1 - (x + 1)) + 1 by omega];rfl⟩
     case measure=>simp [intOf] <;> omega
    ·have hltI : ¬ (x : Int) < (y : Int) - 1:=by omega
     have HE : Hid (l1 = upF (y - 1 - a) a l):=zH (by rw [← HQ.out,show y - 1 - x = 0 by omega];rfl)
     go_wp2
     refine bodyPost_ret (results_none rfl _ _ _) rfl ?_
     exact ⟨rfl,HT1.out.to HE.out⟩
set_option maxRecDepth 100000 in
set_option maxHeartbeats 4000000 in
theorem sym_two {W0 W : World} {d bx br cr : Nat} {r l : List Int} (h : Srt W0 d bx br cr r l W) {N : Nat} (hN : l.length = N) {A M B : Int} (a m b c : Nat) (eA : A = a) (eM : M = m) (eB : B = b) (ha : a + 1 < m) (hm : b = m + 1) (hb : b≤N) :
  Calls Tryz.prog 192 #[.slice (some ⟨d,0,none⟩) N c,.int .i64 A,.int .i64 M,.int .i64 B,cmpV bx] W (fun e W'=>e = .returned (.tuple #[])∧Srt W0 d bx br cr r (dnF (bs (fun h=>!ltR r (gd l m) (gd l h)) (m - a) a m) m l) W'):=by
 subst eA eM eB
 have H:=zH h
 have hrn : N≤1048576:=by have:=h.rn;have:=h.ln;omega
 clear h
 have HN:=zH hN
 clear hN
 obtain ⟨I,hI⟩ : ∃ I,bs (fun h=>!ltR r (gd l m) (gd l h)) (m - a) a m = I:=⟨_,rfl⟩
 have HI:=zH hI
 rw [hI]
 clear hI
 have e0 : ((m : Int) - (a : Int) == 1) = false:=by rw [beq_eq_false_iff_ne];omega
 have e1 : (b : Int) - (m : Int) = 1:=by omega
 go_enter Tryz.func192,Tryz.ntmps192
 go_wp2
 go_loopw [14,15] (fun i j wr=>∃ x y f : Nat,i = .int .i64 x∧j = .int .i64 y∧a≤x∧x≤y∧y≤m∧y - x≤f∧Srt W0 d bx br cr r l wr∧bs (fun h=>!ltR r (gd l m) (gd l h)) f x y = I) (fun i j _=>(intOf j).toNat - (intOf i).toNat)
 case atStart=>exact ⟨a,m,m - a,rfl,rfl,by omega,by omega,by omega,by omega,H.out,HI.out⟩
 case round=>
  obtain ⟨x,y,f,rfl,rfl,hmx,hxy,hyb,hf,hS,hQ⟩:=hrel
  have HT:=zH hS
  clear hS
  by_cases hlt : x < y
  ·have hltI : (x : Int) < (y : Int):=by omega
   obtain ⟨f,rfl⟩ : ∃ f',f = f' + 1:=⟨f - 1,by omega⟩
   obtain ⟨q,hq⟩ : ∃ q,q = (x + y) / 2:=⟨_,rfl⟩
   have e2 : ((x : Int) + (y : Int)) / 2 = (q : Int):=by omega
   have hI1 : (q : Int) < (N : Int):=by omega
   have hI2 : (m : Int) < (N : Int):=by omega
   have c1:=HT.out.at (i:=q) (by have:=HN.out;omega)
   have c2:=HT.out.at (i:=m) (by have:=HN.out;omega)
   have HC:=zH fun n=>(cmp_any (HT.out.drewN n) (gd l m) (gd l q) (HT.out.ok _ (gd_mem (by have:=HN.out;omega))) (HT.out.ok _ (gd_mem (by have:=HN.out;omega))))
   have hZ : gd r (gd l q).toNat - gd r (gd l m).toNat < 0→bs (fun h=>!ltR r (gd l m) (gd l h)) f x q = I:=fun hD=>by rw [← hQ];exact (bs_no hlt hq (by simpa using hD)).symm
   have hY : ¬ gd r (gd l q).toNat - gd r (gd l m).toNat < 0→bs (fun h=>!ltR r (gd l m) (gd l h)) f (q + 1) y = I:=fun hD=>by rw [← hQ];exact (bs_yes hlt hq (by simpa using hD)).symm
   clear hQ
   generalize gd r (gd l q).toNat - gd r (gd l m).toNat = D at *
   by_cases hD : D < 0
   ·have HQ:=zH (hZ hD)
    clear hY hZ
    have hqx : x≤q∧q < y:=by omega
    clear hq
    go_wp2
    go_quiet ((go_at_call 175;with_reducible exact Calls.quiet_of (HC.out _)))
    go_wp2
    go_roundw
    case rel=>exact ⟨x,q,f,rfl,by first | rfl | go_num,by omega,by omega,by omega,by omega,HT.out.drewN _,HQ.out⟩
    case measure=>simp [intOf] <;> omega
   ·have hDd : decide (D < 0) = false:=decide_eq_false hD
    have HQ:=zH (hY hD)
    clear hD
    clear hY hZ
    have hqx : x≤q∧q < y:=by omega
    clear hq
    go_wp2
    go_quiet ((go_at_call 175;with_reducible exact Calls.quiet_of (HC.out _)))
    go_wp2
    go_roundw
    case rel=>exact ⟨q + 1,y,f,by first | rfl | go_num,rfl,by omega,by omega,by omega,by omega,HT.out.drewN _,HQ.out⟩
    case measure=>simp [intOf] <;> omega
  ·obtain rfl : y = x:=by omega
   have hIx : y = I:=by
    rw [← hQ]
    cases f <;> simp [bs]
   subst hIx
   clear hQ HI
   go_wp2
   go_loopw [17] (fun k wr=>∃ (x : Nat) (l1 : List Int),k = .int .i64 x∧x≤m∧y≤x∧l1.length = N∧Srt W0 d bx br cr r l1 wr∧dnF y x l1 = dnF y m l) (fun k _=>(intOf k).toNat)
   case atStart=>exact ⟨m,l,rfl,by omega,by omega,HN.out,HT.out,rfl⟩
   case round=>
    obtain ⟨x,l1,rfl,hax,hxy2,hl1,hS,hQ⟩:=hrel
    have HT1:=zH hS
    have HL:=zH hl1
    have HQ:=zH hQ
    clear hS hl1 hQ HT
    by_cases hlt3 : y < x
    ·obtain ⟨q,rfl⟩ : ∃ q,x = q + 1:=⟨x - 1,by omega⟩
     have hltI : (y : Int) < ((q + 1 : Nat) : Int):=by omega
     have hltK : (y : Int) < (q : Int) + 1:=by omega
     have hI1 : (q : Int) < (N : Int):=by omega
     have hI2 : (q : Int) + 1 < (N : Int):=by omega
     have c1:=HT1.out.at (i:=q + 1) (by have:=HL.out;omega)
     have c2:=HT1.out.at (i:=q) (by have:=HL.out;omega)
     have f1:=HT1.out.dat.froz (q + 1)
     have f2:=HT1.out.dat.froz q
     have hq1 : dnF y (q + 1) l1 = if y < q + 1 then dnF y q (swp l1 (q + 1) q) else l1:=rfl
     rw [if_pos hlt3,HQ.out] at hq1
     have HQ1:=zH hq1
     clear hq1
     obtain ⟨y1,c5,f5⟩:=HT1.out.mid (i:=q + 1) (j:=q) (by have:=HL.out;omega) (gd l1 q)
     have HW:=zH (HT1.out.swap (i:=q + 1) (j:=q) (by have:=HL.out;omega) (by have:=HL.out;omega))
     generalize gd l1 (q + 1) = u at *
     generalize gd l1 q = v at *
     go_wp2
     go_region
     go_wp2
     go_roundw
     case rel=>exact ⟨q,swp l1 (q + 1) q,by first | rfl | go_num,by omega,by omega,by rw [swp_len];exact HL.out,by first | exact HW.out.drew | exact HW.out.drewN _ | exact HW.out,HQ1.out.symm⟩
     case measure=>simp [intOf] <;> omega
    ·obtain rfl : x = y:=by omega
     have HE : Hid (l1 = dnF x m l):=zH (by rw [← HQ.out];cases x <;> simp [dnF])
     have hltI : ¬ (x : Int) < (x : Int):=by omega
     go_wp2
     refine bodyPost_ret (results_none rfl _ _ _) rfl ?_
     exact ⟨rfl,HT1.out.to HE.out⟩
end Go.Proofs.YthhomflonpjbmaaGreatDoor
/-
 The walk of slices' stable merge at ints: the general form.
-/
namespace Go.Proofs.YthhomflonpjbmaaGreatDoor
open Go.RowKit
def SymC (f : Nat) (W0 : World) (d bx br cr N : Nat) (r : List Int) : Prop :=
 ∀ (W : World) (l : List Int) (a m b c : Nat),Srt W0 d bx br cr r l W→l.length = N→a < m→m < b→b≤N→b - a≤f→
  Calls Tryz.prog 192 #[.slice (some ⟨d,0,none⟩) N c,.int .i64 a,.int .i64 m,.int .i64 b,cmpV bx] W (fun e W'=>e = .returned (.tuple #[])∧Srt W0 d bx br cr r (symF (ltR r) f a m b l) W')
def GenC (W0 : World) (d bx br cr : Nat) (r l : List Int) (a m b S : Nat) (v2 v3 : Value) (W : World) : Prop :=
 ∃ x y f : Nat,v2 = .int .i64 x∧v3 = .int .i64 y∧a≤x∧x≤y∧y≤(a + b) / 2∧y≤m∧(a + b) / 2 + m≤x + b∧y - x≤f∧Srt W0 d bx br cr r l W∧bs (fun c=>!ltR r (gd l ((a + b) / 2 + m - 1 - c)) (gd l c)) f x y = S
set_option maxRecDepth 100000 in
set_option maxHeartbeats 8000000 in
theorem sym_gen {f W0 d bx br cr N r} (IH : SymC f W0 d bx br cr N r) {W : World} {l : List Int} (h : Srt W0 d bx br cr r l W) (hN : l.length = N) (a m b c : Nat) (ha : a + 1 < m) (hm : m + 1 < b) (hb : b≤N) (hf : b - a≤f + 1) :
  Calls Tryz.prog 192 #[.slice (some ⟨d,0,none⟩) N c,.int .i64 a,.int .i64 m,.int .i64 b,cmpV bx] W (fun e W'=>e = .returned (.tuple #[])∧Srt W0 d bx br cr r (symF (ltR r) (f + 1) a m b l) W'):=by
 have H:=zH h
 unfold SymC at IH
 have HIH:=zH IH
 have hrn : N≤1048576:=by have:=h.rn;have:=h.ln;omega
 clear h IH
 have HN:=zH hN
 have HNR : Hid (r.length = N):=zH (by rw [← hN];exact H.out.ln.symm)
 clear hN
 have hs:=sym_s (ltR r) l a m b (by omega) (by omega)
 have hsp : symF (ltR r) (f + 1) a m b l = (
   let mid:=(a + b) / 2
   let n:=mid + m
   let s:=if mid < m then bs (fun c=>!ltR r (gd l (n - 1 - c)) (gd l c)) (mid - (n - b)) (n - b) mid else bs (fun c=>!ltR r (gd l (n - 1 - c)) (gd l c)) (m - a) a m
   let e:=n - s
   let l1:=if s < m∧m < e then rotS s m e l else l
   let l2:=if a < s∧s < mid then symF (ltR r) f a s mid l1 else l1
   if mid < e∧e < b then symF (ltR r) f mid e b l2 else l2):=by
  rw [symF,if_neg (by omega),if_neg (by omega)]
 dsimp only at hs hsp
 obtain ⟨mid,hmid⟩ : ∃ mid,(a + b) / 2 = mid:=⟨_,rfl⟩
 rw [hmid] at hs hsp
 obtain ⟨S,hS⟩ : ∃ S,(if mid < m then bs (fun c=>!ltR r (gd l (mid + m - 1 - c)) (gd l c)) (mid - (mid + m - b)) (mid + m - b) mid else bs (fun c=>!ltR r (gd l (mid + m - 1 - c)) (gd l c)) (m - a) a m) = S:=⟨_,rfl⟩
 rw [hS] at hs hsp
 obtain ⟨k1,k2,k3,k4,k5,k6⟩:=hs
 obtain ⟨e,he⟩ : ∃ e,mid + m - S = e:=⟨_,rfl⟩
 rw [he] at hsp k4 k5 k6
 obtain ⟨l1,hl1⟩ : ∃ l1,(if S < m∧m < e then rotS S m e l else l) = l1:=⟨_,rfl⟩
 rw [hl1] at hsp
 obtain ⟨l2,hl2⟩ : ∃ l2,(if a < S∧S < mid then symF (ltR r) f a S mid l1 else l1) = l2:=⟨_,rfl⟩
 rw [hl2] at hsp
 obtain ⟨l3,hl3⟩ : ∃ l3,(if mid < e∧e < b then symF (ltR r) f mid e b l2 else l2) = l3:=⟨_,rfl⟩
 rw [hl3] at hsp
 rw [hsp]
 have HS:=zH hS
 have HL1:=zH hl1
 have HL2:=zH hl2
 have HL3:=zH hl3
 clear hsp hS hl1 hl2 hl3
 have e0 : ((m : Int) - (a : Int) == 1) = false:=by rw [beq_eq_false_iff_ne];omega
 have e1 : ((b : Int) - (m : Int) == 1) = false:=by rw [beq_eq_false_iff_ne];omega
 have e2 : ((a : Int) + (b : Int)) / 2 = (mid : Int):=by omega
 go_enter Tryz.func192,Tryz.ntmps192
 go_upto_if 140 with (fail)
 go_cut [20,21] (GenC W0 d bx br cr r l a m b S)
 case first=>as_aux_lemma=>
  by_cases hmm : mid < m
  ·have hmmI : (mid : Int) < (m : Int):=by omega
   go_wp2_with fail
   go_meet
   refine ⟨mid + m - b,mid,mid - (mid + m - b),?_,rfl,by omega,by omega,by omega,by omega,by omega,by omega,H.out,?_⟩
   ·first | rfl | go_num | (congr 1;omega)
   ·rw [hmid,← HS.out,if_pos hmm]
  ·have hmmI : decide ((mid : Int) < (m : Int)) = false:=decide_eq_false (by omega)
   go_wp2_with fail
   go_meet
   refine ⟨a,m,m - a,rfl,rfl,by omega,by omega,by omega,by omega,by omega,by omega,H.out,?_⟩
   rw [hmid,← HS.out,if_neg hmm]
 case rest=>
 obtain ⟨x0,y0,f0,rfl,rfl,g1,g2,g3,g4,g5,g6,g7,g8⟩:=hcut
 have HT0:=zH g7
 have HB0:=zH g8
 clear g7 g8 H
 rw [hmid] at g3 g5
 go_wp2
 go_loopw [20,21] (fun i j wr=>∃ x y f : Nat,i = .int .i64 x∧j = .int .i64 y∧a≤x∧x≤y∧y≤mid∧y≤m∧mid + m≤x + b∧y - x≤f∧Srt W0 d bx br cr r l wr∧bs (fun c=>!ltR r (gd l (mid + m - 1 - c)) (gd l c)) f x y = S) (fun i j _=>(intOf j).toNat - (intOf i).toNat)
 case atStart=>exact ⟨x0,y0,f0,rfl,rfl,by omega,by omega,by omega,by omega,by omega,by omega,HT0.out,by have:=HB0.out;rwa [hmid] at this⟩
 case round=>
  obtain ⟨x,y,f1,rfl,rfl,hax,hxy,hym,hym2,hxb,hf1,hS1,hQ⟩:=hrel
  have HT:=zH hS1
  clear hS1 HT0 HB0
  by_cases hlt : x < y
  ·have hltI : (x : Int) < (y : Int):=by omega
   obtain ⟨f1,rfl⟩ : ∃ f',f1 = f' + 1:=⟨f1 - 1,by omega⟩
   obtain ⟨q,hq⟩ : ∃ q,q = (x + y) / 2:=⟨_,rfl⟩
   obtain ⟨z,hz⟩ : ∃ z,mid + m - 1 - q = z:=⟨_,rfl⟩
   have e3 : ((x : Int) + (y : Int)) / 2 = (q : Int):=by omega
   have e4 : (mid : Int) + (m : Int) - 1 - (q : Int) = (z : Int):=by omega
   have hI1 : (q : Int) < (N : Int):=by omega
   have hI2 : (z : Int) < (N : Int):=by omega
   have c1:=HT.out.at (i:=q) (by have:=HN.out;omega)
   have c2:=HT.out.at (i:=z) (by have:=HN.out;omega)
   have HC:=zH fun n=>(cmp_any (HT.out.drewN n) (gd l z) (gd l q) (HT.out.ok _ (gd_mem (by have:=HN.out;omega))) (HT.out.ok _ (gd_mem (by have:=HN.out;omega))))
   have hZ : gd r (gd l q).toNat - gd r (gd l z).toNat < 0→bs (fun c=>!ltR r (gd l (mid + m - 1 - c)) (gd l c)) f1 x q = S:=fun hD=>by rw [← hQ];exact (bs_no hlt hq (by rw [hz];simpa using hD)).symm
   have hY : ¬ gd r (gd l q).toNat - gd r (gd l z).toNat < 0→bs (fun c=>!ltR r (gd l (mid + m - 1 - c)) (gd l c)) f1 (q + 1) y = S:=fun hD=>by rw [← hQ];exact (bs_yes hlt hq (by rw [hz];simpa using hD)).symm
   clear hQ
   generalize gd r (gd l q).toNat - gd r (gd l z).toNat = D at *
   by_cases hD : D < 0
   ·as_aux_lemma=>
     have HQ:=zH (hZ hD)
     clear hY hZ
     have hqx : x≤q∧q < y:=by omega
     clear hq
     go_wp2
     go_quiet ((go_at_call 175;with_reducible exact Calls.quiet_of (HC.out _)))
     go_wp2
     go_roundw
     case rel=>exact ⟨x,q,f1,rfl,by first | rfl | go_num,by omega,by omega,by omega,by omega,by omega,by omega,HT.out.drewN _,HQ.out⟩
     case measure=>simp [intOf] <;> omega
   ·as_aux_lemma=>
     have hDd : decide (D < 0) = false:=decide_eq_false hD
     have HQ:=zH (hY hD)
     clear hD
     clear hY hZ
     have hqx : x≤q∧q < y:=by omega
     clear hq
     go_wp2
     go_quiet ((go_at_call 175;with_reducible exact Calls.quiet_of (HC.out _)))
     go_wp2
     go_roundw
     case rel=>exact ⟨q + 1,y,f1,by first | rfl | go_num,rfl,by omega,by omega,by omega,by omega,by omega,by omega,HT.out.drewN _,HQ.out⟩
     case measure=>simp [intOf] <;> omega
  ·as_aux_lemma=>
    obtain rfl : y = x:=by omega
    have hIx : y = S:=by
     rw [← hQ]
     cases f1 <;> simp [bs]
    subst hIx
    clear hQ
    have e5 : (mid : Int) + (m : Int) - (y : Int) = (e : Int):=by omega
    clear HS
    go_upto_region 39 with (fail)
    go_cut [185] (fun v W'=>v = .bool (decide (y < m∧m < e))∧Srt W0 d bx br cr r l W')
    case first=>as_aux_lemma=>
     by_cases h1 : y < m
     ·have h1I : (y : Int) < (m : Int):=by omega
      by_cases h2 : m < e
      ·have h2I : (m : Int) < (e : Int):=by omega
       go_wp2_with fail
       go_meet
       exact ⟨by simp [h1,h2],by first | exact HT.out | exact HT.out.drewN _⟩
      ·have h2I : decide ((m : Int) < (e : Int)) = false:=decide_eq_false (by omega)
       go_wp2_with fail
       go_meet
       exact ⟨by simp [h1,h2],by first | exact HT.out | exact HT.out.drewN _⟩
     ·have h1I : decide ((y : Int) < (m : Int)) = false:=decide_eq_false (by omega)
      go_wp2_with fail
      go_meet
      exact ⟨by simp [h1],by first | exact HT.out | exact HT.out.drewN _⟩
    case rest=>
    obtain ⟨rfl,hS1⟩:=hcut
    have HT:=zH hS1
    clear hS1
    go_upto_if 185 with (fail)
    go_cut [] (fun W'=>Srt W0 d bx br cr r l1 W')
    case first=>as_aux_lemma=>
     by_cases hc : y < m∧m < e
     ·have hd : decide (y < m∧m < e) = true:=decide_eq_true hc
      have HE:=HL1.out
      rw [if_pos hc] at HE
      have HEE:=zH HE
      clear HE
      go_wp2_with (go_at_call 196;(with_reducible refine ((rot_any HT.out HN.out y m e c rfl rfl rfl hc.1 hc.2 (by omega))).mono ?_);rintro e1' w1 ⟨rfl,hS1⟩)
      go_meet
      exact hS1.to HEE.out
     ·have hd : decide (y < m∧m < e) = false:=decide_eq_false hc
      have HE:=HL1.out
      rw [if_neg hc] at HE
      have HEE:=zH HE
      clear HE
      go_wp2_with fail
      go_meet
      exact HT.out.to HEE.out
    case rest=>
    have HT:=zH hcut
    clear hcut
    have HN1 : Hid (l1.length = N):=zH (by rw [HT.out.ln,HNR.out])
    go_upto_region 41 with (fail)
    go_cut [199] (fun v W'=>v = .bool (decide (a < y∧y < mid))∧Srt W0 d bx br cr r l1 W')
    case first=>as_aux_lemma=>
     by_cases h1 : a < y
     ·have h1I : (a : Int) < (y : Int):=by omega
      by_cases h2 : y < mid
      ·have h2I : (y : Int) < (mid : Int):=by omega
       go_wp2_with fail
       go_meet
       exact ⟨by simp [h1,h2],by first | exact HT.out | exact HT.out.drewN _⟩
      ·have h2I : decide ((y : Int) < (mid : Int)) = false:=decide_eq_false (by omega)
       go_wp2_with fail
       go_meet
       exact ⟨by simp [h1,h2],by first | exact HT.out | exact HT.out.drewN _⟩
     ·have h1I : decide ((a : Int) < (y : Int)) = false:=decide_eq_false (by omega)
      go_wp2_with fail
      go_meet
      exact ⟨by simp [h1],by first | exact HT.out | exact HT.out.drewN _⟩
    case rest=>
    obtain ⟨rfl,hS1⟩:=hcut
    have HT:=zH hS1
    clear hS1
    go_upto_if 199 with (fail)
    go_cut [] (fun W'=>Srt W0 d bx br cr r l2 W')
    case first=>as_aux_lemma=>
     by_cases hc : a < y∧y < mid
     ·have hd : decide (a < y∧y < mid) = true:=decide_eq_true hc
      have HE:=HL2.out
      rw [if_pos hc] at HE
      have HEE:=zH HE
      clear HE
      go_wp2_with (go_at_call 192;(with_reducible refine ((HIH.out _ l1 a y mid c HT.out HN1.out hc.1 hc.2 (by omega) (by omega))).mono ?_);rintro e1' w1 ⟨rfl,hS1⟩)
      go_meet
      exact hS1.to HEE.out
     ·have hd : decide (a < y∧y < mid) = false:=decide_eq_false hc
      have HE:=HL2.out
      rw [if_neg hc] at HE
      have HEE:=zH HE
      clear HE
      go_wp2_with fail
      go_meet
      exact HT.out.to HEE.out
    case rest=>
    have HT:=zH hcut
    clear hcut
    have HN2 : Hid (l2.length = N):=zH (by rw [HT.out.ln,HNR.out])
    go_upto_region 43 with (fail)
    go_cut [213] (fun v W'=>v = .bool (decide (mid < e∧e < b))∧Srt W0 d bx br cr r l2 W')
    case first=>as_aux_lemma=>
     by_cases h1 : mid < e
     ·have h1I : (mid : Int) < (e : Int):=by omega
      by_cases h2 : e < b
      ·have h2I : (e : Int) < (b : Int):=by omega
       go_wp2_with fail
       go_meet
       exact ⟨by simp [h1,h2],by first | exact HT.out | exact HT.out.drewN _⟩
      ·have h2I : decide ((e : Int) < (b : Int)) = false:=decide_eq_false (by omega)
       go_wp2_with fail
       go_meet
       exact ⟨by simp [h1,h2],by first | exact HT.out | exact HT.out.drewN _⟩
     ·have h1I : decide ((mid : Int) < (e : Int)) = false:=decide_eq_false (by omega)
      go_wp2_with fail
      go_meet
      exact ⟨by simp [h1],by first | exact HT.out | exact HT.out.drewN _⟩
    case rest=>
    obtain ⟨rfl,hS1⟩:=hcut
    have HT:=zH hS1
    clear hS1
    by_cases hc : mid < e∧e < b
    ·have hd : decide (mid < e∧e < b) = true:=decide_eq_true hc
     have HE:=HL3.out
     rw [if_pos hc] at HE
     have HEE:=zH HE
     clear HE
     go_wp2_with (go_at_call 192;(with_reducible refine (HIH.out _ l2 mid e b c HT.out HN2.out hc.1 hc.2 (by omega) (by omega)).mono ?_);rintro e1' w1 ⟨rfl,hS1⟩)
     go_end0
     exact ⟨rfl,hS1.to HEE.out⟩
    ·have hd : decide (mid < e∧e < b) = false:=decide_eq_false hc
     have HE:=HL3.out
     rw [if_neg hc] at HE
     have HEE:=zH HE
     clear HE
     go_wp2_with fail
     go_end0
     exact ⟨rfl,HT.out.to HEE.out⟩
end Go.Proofs.YthhomflonpjbmaaGreatDoor
/-
 The walk of slices.SortStableFunc at ints that a captured row compares, whole.
-/
namespace Go.Proofs.YthhomflonpjbmaaGreatDoor
open Go.RowKit
theorem sym_all (W0 : World) (d bx br cr N : Nat) (r : List Int) : ∀ f,SymC f W0 d bx br cr N r
 | 0=>fun W l a m b c _ _ h1 h2 _ h3=>by omega
 |f + 1=>fun W l a m b c h hN h1 h2 hb hf=>by
  by_cases hA : m - a = 1
  ·have:=sym_one h hN (A:=a) (M:=m) (B:=b) a m b c rfl rfl rfl (by omega) h2 hb
   rw [symF,if_pos hA]
   exact this
  ·by_cases hB : b - m = 1
   ·have:=sym_two h hN (A:=a) (M:=m) (B:=b) a m b c rfl rfl rfl (by omega) (by omega) hb
    rw [symF,if_neg hA,if_pos hB]
    exact this
   ·exact sym_gen (sym_all W0 d bx br cr N r f) h hN a m b c (by omega) (by omega) hb hf
theorem sym_any {W0 W : World} {d bx br cr : Nat} {r l : List Int} (h : Srt W0 d bx br cr r l W) {N : Nat} (hN : l.length = N) {A M B : Int} (a m b c f : Nat) (eA : A = a) (eM : M = m) (eB : B = b) (ha : a < m) (hm : m < b) (hb : b≤N) (hf : b - a≤f) :
  Calls Tryz.prog 192 #[.slice (some ⟨d,0,none⟩) N c,.int .i64 A,.int .i64 M,.int .i64 B,cmpV bx] W (fun e W'=>e = .returned (.tuple #[])∧Srt W0 d bx br cr r (symF (ltR r) f a m b l) W'):=by
 subst eA eM eB
 exact sym_all W0 d bx br cr N r f W l a m b c h hN ha hm hb hf
theorem blk_end {lt : Int→Int→Bool} {n f a : Nat} {l : List Int} (h : ¬ a + 20≤n) : blk lt n f a l = insS lt a n l:=by
 cases f <;> simp [blk,h]
theorem mrg_end {lt : Int→Int→Bool} {n s f a : Nat} {l : List Int} (h : ¬ a + 2 * s≤n) : mrg lt n s f a l = if a + s < n then symF lt n a (a + s) n l else l:=by
 cases f <;> simp [mrg,h]
theorem mrgs_end {lt : Int→Int→Bool} {n s f : Nat} {l : List Int} (h : ¬ s < n) : mrgs lt n f s l = l:=by
 cases f <;> simp [mrgs,h]
set_option maxRecDepth 100000 in
set_option maxHeartbeats 8000000 in
theorem stable_any {W0 W : World} {d bx br cr : Nat} {r l : List Int} (h : Srt W0 d bx br cr r l W) {N : Nat} (hN : l.length = N) (c : Nat) :
  Calls Tryz.prog 184 #[.slice (some ⟨d,0,none⟩) N c,.int .i64 N,cmpV bx] W (fun e W'=>e = .returned (.tuple #[])∧Srt W0 d bx br cr r (stableS (ltR r) l) W'):=by
 have H:=zH h
 have hrn : N≤1048576:=by have:=h.rn;have:=h.ln;omega
 have HNR : Hid (r.length = N):=zH (by rw [← hN];exact h.ln.symm)
 clear h
 have HN:=zH hN
 have hR : stableS (ltR r) l = mrgs (ltR r) N N 20 (blk (ltR r) N N 0 l):=by unfold stableS;rw [hN]
 rw [hR]
 clear hN hR
 obtain ⟨R1,hR1⟩ : ∃ R1,blk (ltR r) N N 0 l = R1:=⟨_,rfl⟩
 rw [hR1]
 obtain ⟨R2,hR2⟩ : ∃ R2,mrgs (ltR r) N N 20 R1 = R2:=⟨_,rfl⟩
 rw [hR2]
 have HR1:=zH hR1
 have HR2:=zH hR2
 clear hR1 hR2
 go_enter Tryz.func184,Tryz.ntmps184
 go_wp2
 go_loopw [7,8] (fun i j wr=>∃ (a f : Nat) (m : List Int),i = .int .i64 a∧j = .int .i64 (a + 20 : Nat)∧a≤N∧N≤a + f∧m.length = N∧Srt W0 d bx br cr r m wr∧blk (ltR r) N f a m = R1) (fun i _ _=>N - (intOf i).toNat)
 case atStart=>exact ⟨0,N,l,rfl,rfl,by omega,by omega,HN.out,H.out,HR1.out⟩
 case round=>
  obtain ⟨a,f,m,rfl,rfl,haN,hf,hm,hS,hB⟩:=hrel
  have HT:=zH hS
  have HM:=zH hm
  clear hS hm H
  by_cases hlt : a + 20≤N
  ·as_aux_lemma=>
    have hltI : ((a + 20 : Nat) : Int)≤(N : Int):=by omega
    have hltJ : (a : Int) + 20≤(N : Int):=by omega
    obtain ⟨f,rfl⟩ : ∃ f',f = f' + 1:=⟨f - 1,by omega⟩
    simp only [blk,if_pos hlt] at hB
    have HB:=zH hB
    clear hB
    go_wp2_with (go_at_call 191;(with_reducible refine (ins_any HT.out HM.out a (a + 20) c (by omega) (by omega) (by omega) (by omega)).mono ?_);rintro e1' w1 ⟨rfl,hS1⟩;have HS1:=zH hS1;clear hS1)
    go_roundw
    case rel=>exact ⟨a + 20,f,_,by first | rfl | go_num,by first | rfl | go_num,by omega,by omega,by rw [HS1.out.ln,HNR.out],HS1.out,HB.out⟩
    case measure=>simp [intOf] <;> omega
  ·have hltI : decide (((a + 20 : Nat) : Int)≤(N : Int)) = false:=decide_eq_false (by omega)
   have hltJ : decide ((a : Int) + 20≤(N : Int)) = false:=decide_eq_false (by omega)
   rw [blk_end hlt] at hB
   have HB:=zH hB
   clear hB
   go_wp2_with (go_at_call 191;(with_reducible refine (ins_any HT.out HM.out a N c (by omega) (by omega) (by omega) (by omega)).mono ?_);rintro e1' w1 ⟨rfl,hS1⟩;have HS1:=zH (hS1.to HB.out);clear hS1)
   go_loopw [6] (fun i wr=>∃ (s f : Nat) (m : List Int),i = .int .i64 s∧1≤s∧s≤2 * N + 20∧N≤s + f∧m.length = N∧Srt W0 d bx br cr r m wr∧mrgs (ltR r) N f s m = R2) (fun i _=>N - (intOf i).toNat)
   case atStart=>exact ⟨20,N,R1,rfl,by omega,by omega,by omega,by rw [HS1.out.ln,HNR.out],HS1.out,HR2.out⟩
   case round=>
    obtain ⟨s,f2,m2,rfl,hs1,hsN,hf2,hm2,hS2,hB2⟩:=hrel
    have HT2:=zH hS2
    have HM2:=zH hm2
    clear hS2 hm2 HS1 HT HM HB
    by_cases hlt2 : s < N
    ·as_aux_lemma=>
      have hlt2I : (s : Int) < (N : Int):=by omega
      obtain ⟨f2,rfl⟩ : ∃ f',f2 = f' + 1:=⟨f2 - 1,by omega⟩
      simp only [mrgs,if_pos hlt2] at hB2
      obtain ⟨R3,hR3⟩ : ∃ R3,mrg (ltR r) N s N 0 m2 = R3:=⟨_,rfl⟩
      rw [hR3] at hB2
      have HB2:=zH hB2
      have HR3:=zH hR3
      clear hB2 hR3
      go_wp2
      go_loopw [7,8] (fun i j wr=>∃ (a f : Nat) (m : List Int),i = .int .i64 a∧j = .int .i64 (a + 2 * s : Nat)∧a≤N∧N≤a + f∧m.length = N∧Srt W0 d bx br cr r m wr∧mrg (ltR r) N s f a m = R3) (fun i _ _=>N - (intOf i).toNat)
      case atStart=>exact ⟨0,N,m2,rfl,by first | rfl | go_num,by omega,by omega,HM2.out,HT2.out,HR3.out⟩
      case round=>
       obtain ⟨a,f,m,rfl,rfl,haN,hf,hm,hS,hB⟩:=hrel
       have HT:=zH hS
       have HM:=zH hm
       clear hS hm
       by_cases hlt : a + 2 * s≤N
       ·have hltI : ((a + 2 * s : Nat) : Int)≤(N : Int):=by omega
        have hltJ : (a : Int) + 2 * (s : Int)≤(N : Int):=by omega
        obtain ⟨f,rfl⟩ : ∃ f',f = f' + 1:=⟨f - 1,by omega⟩
        simp only [mrg,if_pos hlt] at hB
        have HB:=zH hB
        clear hB
        go_wp2_with (go_at_call 192;(with_reducible refine (sym_any HT.out HM.out a (a + s) (a + 2 * s) c N (by omega) (by omega) (by omega) (by omega) (by omega) (by omega) (by omega)).mono ?_);rintro e1' w1 ⟨rfl,hS1⟩;have HS1:=zH hS1;clear hS1)
        go_roundw
        case rel=>exact ⟨a + 2 * s,f,_,by first | rfl | go_num,by first | rfl | go_num,by omega,by omega,by rw [HS1.out.ln,HNR.out],HS1.out,HB.out⟩
        case measure=>simp [intOf] <;> omega
       ·have hltI : decide (((a + 2 * s : Nat) : Int)≤(N : Int)) = false:=decide_eq_false (by omega)
        have hltJ : decide ((a : Int) + 2 * (s : Int)≤(N : Int)) = false:=decide_eq_false (by omega)
        rw [mrg_end hlt] at hB
        by_cases hlast : a + s < N
        ·rw [if_pos hlast] at hB
         have HB:=zH hB
         clear hB
         have hlastI : (a : Int) + (s : Int) < (N : Int):=by omega
         go_wp2_with (go_at_call 192;(with_reducible refine (sym_any HT.out HM.out a (a + s) N c N (by omega) (by omega) (by omega) (by omega) (by omega) (by omega) (by omega)).mono ?_);rintro e1' w1 ⟨rfl,hS1⟩;have HS1:=zH (hS1.to HB.out);clear hS1)
         go_roundw
         case rel=>exact ⟨2 * s,f2,R3,by first | rfl | go_num,by omega,by omega,by omega,by rw [HS1.out.ln,HNR.out],HS1.out,HB2.out⟩
         case measure=>simp [intOf] <;> omega
        ·rw [if_neg hlast] at hB
         have HB:=zH (HT.out.to hB)
         clear hB
         have hlastI : decide ((a : Int) + (s : Int) < (N : Int)) = false:=decide_eq_false (by omega)
         go_wp2
         go_roundw
         case rel=>exact ⟨2 * s,f2,R3,by first | rfl | go_num,by omega,by omega,by omega,by rw [HB.out.ln,HNR.out],HB.out,HB2.out⟩
         case measure=>simp [intOf] <;> omega
    ·have hlt2I : decide ((s : Int) < (N : Int)) = false:=decide_eq_false (by omega)
     rw [mrgs_end hlt2] at hB2
     have HB2:=zH (HT2.out.to hB2)
     clear hB2
     go_wp2
     go_end0
     exact ⟨rfl,HB2.out⟩
set_option maxRecDepth 100000 in
set_option maxHeartbeats 4000000 in
theorem sortf_any {W0 W : World} {d bx br cr : Nat} {r l : List Int} (h : Srt W0 d bx br cr r l W) {N : Nat} (hN : l.length = N) (c : Nat) :
  Calls Tryz.prog 174 #[.slice (some ⟨d,0,none⟩) N c,cmpV bx] W (fun e W'=>e = .returned (.tuple #[])∧Srt W0 d bx br cr r (stableS (ltR r) l) W'):=by
 have H:=zH h
 have HN:=zH hN
 have hrn : N≤1048576:=by have:=h.rn;have:=h.ln;omega
 clear h hN
 go_enter Tryz.func174,Tryz.ntmps174
 go_wp2_with (go_at_call 184;(with_reducible refine (stable_any H.out HN.out c).mono ?_);rintro e1' w1 ⟨rfl,hS1⟩)
 go_end0
 exact ⟨rfl,hS1⟩
end Go.Proofs.YthhomflonpjbmaaGreatDoor
