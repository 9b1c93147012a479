/-
 Any node of any tree in memory, and the walk of tree.items at it.
-/
import Derived.Test.YthhomflonpjbmaaGreatDoorMb17
import Derived.LoopTactic
import Derived.Deep.DeepCutAuto
import Derived.Test.YthhomflonpjbmaaGreatDoorMb04
import Derived.Deep.RegionHeld3
import Derived.Maps.OwnOps
import Derived.DeepKeys4
import Derived.Maps.OwnSet
import Derived.StringKeys
set_option linter.unusedVariables false
set_option linter.unusedSimpArgs false
namespace Go.Proofs.YthhomflonpjbmaaGreatDoor
open Go.RowKit
structure Itm where
 k : Int
 n : Int
 d : Int
 mn : Int
 mx : Int
instance : Inhabited Itm:=⟨⟨0,0,0,0,0⟩⟩
def Itm.val (i : Itm) : Value:=.agg #[.int .i8 i.k,.int .i64 i.n,.int .i64 i.d,.int .i64 i.mn,.int .i64 i.mx]
def Itm.ok (i : Itm) : Prop:=RightP i.k i.n i.d i.mn i.mx
instance (i : Itm) : Decidable i.ok:=by unfold Itm.ok;infer_instance
structure ND where
 kd : Int
 id : ByteArray
 cl : ByteArray
 kids : List Int
 wd : Itm
 ht : Itm
 gap : Int
 p0 : Int
 p1 : Int
 p2 : Int
 p3 : Int
 bd : Int
 al : Int
 cr : Int
 tx : ByteArray
 md : Int
 fg : Int
 bg : Int
 ad : Int
 dr : Int
 cols : List Itm
 x0 : Int
 x1 : Int
 x2 : Int
 x3 : Int
 fl : Int
structure ItmAt (w : World) (g o : Nat) (i : Itm) : Prop where
 k : w.cell? ⟨g,o,none⟩ = some (.int .i8 i.k)
 n : w.cell? ⟨g,o + 1,none⟩ = some (.int .i64 i.n)
 d : w.cell? ⟨g,o + 2,none⟩ = some (.int .i64 i.d)
 mn : w.cell? ⟨g,o + 3,none⟩ = some (.int .i64 i.mn)
 mx : w.cell? ⟨g,o + 4,none⟩ = some (.int .i64 i.mx)
theorem ItmAt.of_eq {w w' : World} {g o : Nat} {i : Itm} (h : ItmAt w g o i) (e : ∀ (q : Nat),w'.cell? ⟨g,q,none⟩ = w.cell? ⟨g,q,none⟩) : ItmAt w' g o i:=by
 obtain ⟨a1,a2,a3,a4,a5⟩:=h
 constructor <;> (rw [e];assumption)
theorem ItmAt.below {w w' : World} {g o B : Nat} {i : Itm} (h : ItmAt w g o i) (hb : Below B w w') (hg : g < B) : ItmAt w' g o i:=h.of_eq fun q=>hb.cell (p:=⟨g,q,none⟩) hg
def SlI (w : World) (v : Value) (l : List Int) : Prop :=
 ∃ p c,v = .slice p l.length c∧l.length≤17592186044416∧∀ i x,l[i]? = some x→∃ g o,p = some ⟨g,o,none⟩∧g < w.heap.size∧w.cell? ⟨g,o + i,none⟩ = some (.int .i64 x)
def SlT (w : World) (v : Value) (l : List Itm) : Prop :=
 ∃ p c,v = .slice p l.length c∧l.length≤4398046511104∧∀ i x,l[i]? = some x→∃ g o,p = some ⟨g,o,none⟩∧g < w.heap.size∧ItmAt w g (o + i * 5) x
theorem SlI.below {w w' : World} {v : Value} {l : List Int} (h : SlI w v l) (hb : Below w.heap.size w w') : SlI w' v l:=by
 obtain ⟨p,c,rfl,hl,hx⟩:=h
 refine ⟨p,c,rfl,hl,fun i x hi=>?_⟩
 obtain ⟨g,o,e,hg,hc⟩:=hx i x hi
 exact ⟨g,o,e,Nat.lt_of_lt_of_le hg hb.size,by rw [hb.cell (p:=⟨g,o + i,none⟩) hg];exact hc⟩
theorem SlT.below {w w' : World} {v : Value} {l : List Itm} (h : SlT w v l) (hb : Below w.heap.size w w') : SlT w' v l:=by
 obtain ⟨p,c,rfl,hl,hx⟩:=h
 refine ⟨p,c,rfl,hl,fun i x hi=>?_⟩
 obtain ⟨g,o,e,hg,hc⟩:=hx i x hi
 exact ⟨g,o,e,Nat.lt_of_lt_of_le hg hb.size,hc.below hb hg⟩
structure NodeV (w : World) (g o : Nat) (x : ND) (kv cv : Value) : Prop where
 kd : w.cell? ⟨g,o,none⟩ = some (.int .i8 x.kd)
 id : w.cell? ⟨g,o + 1,none⟩ = some (.string x.id)
 cl : w.cell? ⟨g,o + 2,none⟩ = some (.string x.cl)
 kids : w.cell? ⟨g,o + 3,none⟩ = some kv
 w0 : w.cell? ⟨g,o + 4,none⟩ = some (.int .i8 x.wd.k)
 w1 : w.cell? ⟨g,o + 5,none⟩ = some (.int .i64 x.wd.n)
 w2 : w.cell? ⟨g,o + 6,none⟩ = some (.int .i64 x.wd.d)
 w3 : w.cell? ⟨g,o + 7,none⟩ = some (.int .i64 x.wd.mn)
 w4 : w.cell? ⟨g,o + 8,none⟩ = some (.int .i64 x.wd.mx)
 h0 : w.cell? ⟨g,o + 9,none⟩ = some (.int .i8 x.ht.k)
 h1 : w.cell? ⟨g,o + 10,none⟩ = some (.int .i64 x.ht.n)
 h2 : w.cell? ⟨g,o + 11,none⟩ = some (.int .i64 x.ht.d)
 h3 : w.cell? ⟨g,o + 12,none⟩ = some (.int .i64 x.ht.mn)
 h4 : w.cell? ⟨g,o + 13,none⟩ = some (.int .i64 x.ht.mx)
 gap : w.cell? ⟨g,o + 14,none⟩ = some (.int .i64 x.gap)
 p0 : w.cell? ⟨g,o + 15,none⟩ = some (.int .i64 x.p0)
 p1 : w.cell? ⟨g,o + 16,none⟩ = some (.int .i64 x.p1)
 p2 : w.cell? ⟨g,o + 17,none⟩ = some (.int .i64 x.p2)
 p3 : w.cell? ⟨g,o + 18,none⟩ = some (.int .i64 x.p3)
 bd : w.cell? ⟨g,o + 19,none⟩ = some (.int .i8 x.bd)
 al : w.cell? ⟨g,o + 20,none⟩ = some (.int .i8 x.al)
 cr : w.cell? ⟨g,o + 21,none⟩ = some (.int .i8 x.cr)
 tx : w.cell? ⟨g,o + 22,none⟩ = some (.string x.tx)
 md : w.cell? ⟨g,o + 23,none⟩ = some (.int .i8 x.md)
 fg : w.cell? ⟨g,o + 24,none⟩ = some (.int .i32 x.fg)
 bg : w.cell? ⟨g,o + 25,none⟩ = some (.int .i32 x.bg)
 ad : w.cell? ⟨g,o + 26,none⟩ = some (.int .u8 x.ad)
 dr : w.cell? ⟨g,o + 27,none⟩ = some (.int .u8 x.dr)
 cols : w.cell? ⟨g,o + 28,none⟩ = some cv
 x0 : w.cell? ⟨g,o + 29,none⟩ = some (.int .i64 x.x0)
 x1 : w.cell? ⟨g,o + 30,none⟩ = some (.int .i64 x.x1)
 x2 : w.cell? ⟨g,o + 31,none⟩ = some (.int .i64 x.x2)
 x3 : w.cell? ⟨g,o + 32,none⟩ = some (.int .i64 x.x3)
 fl : w.cell? ⟨g,o + 33,none⟩ = some (.int .u8 x.fl)
theorem NodeV.of_eq {w w' : World} {g o : Nat} {x : ND} {kv cv : Value} (h : NodeV w g o x kv cv) (e : ∀ (q : Nat),w'.cell? ⟨g,q,none⟩ = w.cell? ⟨g,q,none⟩) : NodeV w' g o x kv cv:=by
 obtain ⟨a1,a2,a3,a4,a5,a6,a7,a8,a9,a10,a11,a12,a13,a14,a15,a16,a17,a18,a19,a20,a21,a22,a23,a24,a25,a26,a27,a28,a29,a30,a31,a32,a33,a34⟩:=h
 constructor <;> (rw [e];assumption)
theorem NodeV.below {w w' : World} {g o B : Nat} {x : ND} {kv cv : Value} (h : NodeV w g o x kv cv) (hb : Below B w w') (hg : g < B) : NodeV w' g o x kv cv :=
 h.of_eq fun q=>hb.cell (p:=⟨g,q,none⟩) hg
theorem NodeV.lt {w : World} {g o : Nat} {x : ND} {kv cv : Value} (h : NodeV w g o x kv cv) : g < w.heap.size:=World.block_lt_of_cell? w ⟨g,o,none⟩ h.kd
def ColsP (kd : Int) (n : Int) : Prop:=(kd = 4∧0 < n∧n≤64)∨(kd = 8∧n≤64)∨(kd ≠ 4∧kd ≠ 8∧n = 0)
instance (kd n : Int) : Decidable (ColsP kd n):=by unfold ColsP;infer_instance
def ItemsP (x : ND) : Prop:=x.wd.ok∧x.ht.ok∧(∀ i ∈ x.cols,i.ok)∧ColsP x.kd x.cols.length
instance (x : ND) : Decidable (ItemsP x):=by unfold ItemsP;infer_instance
theorem forall_getElem {l : List Itm} (h : ∀ j i,j < l.length→l[j]? = some i→i.ok) : ∀ i ∈ l,i.ok:=fun i hi=>by
 obtain ⟨j,hj,e⟩:=List.mem_iff_getElem.1 hi
 exact h j i hj (by rw [List.getElem?_eq_getElem hj,e])
set_option maxRecDepth 100000 in
set_option maxHeartbeats 4000000 in
theorem items_gen (w : World) (g o : Nat) (x : ND) (kv cv : Value) (h : NodeV w g o x kv cv) (hT : SlT w cv x.cols) (hg : g < w.heap.size) :
  Calls Tryz.prog 33 #[.pointer (some ⟨g,o,none⟩)] w (VBel (.bool (decide (ItemsP x))) w):=by
 have HN:=zH h
 have HT:=zH hT
 obtain ⟨p,c,rfl,hl,_⟩:=hT
 obtain ⟨a1,a2,a3,a4,a5,a6,a7,a8,a9,a10,a11,a12,a13,a14,a15,a16,a17,a18,a19,a20,a21,a22,a23,a24,a25,a26,a27,a28,a29,a30,a31,a32,a33,a34⟩:=h
 clear a2 a3 a4 a15 a16 a17 a18 a19 a20 a21 a22 a23 a24 a25 a26 a27 a28 a30 a31 a32 a33 a34
 by_cases h1 : x.wd.ok
 ·by_cases h2 : x.ht.ok
  ·have e1 : decide (RightP x.wd.k x.wd.n x.wd.d x.wd.mn x.wd.mx) = true:=decide_eq_true h1
   have e2 : decide (RightP x.ht.k x.ht.n x.ht.d x.ht.mn x.ht.mx) = true:=decide_eq_true h2
   have R1 : ∀ W,Calls Tryz.prog 91 #[.agg #[.int .i8 x.wd.k,.int .i64 x.wd.n,.int .i64 x.wd.d,.int .i64 x.wd.mn,.int .i64 x.wd.mx]] W (VBel (.bool true) W):=fun W=>e1 ▸ right_any _ _ _ _ _ W
   have R2 : ∀ W,Calls Tryz.prog 91 #[.agg #[.int .i8 x.ht.k,.int .i64 x.ht.n,.int .i64 x.ht.d,.int .i64 x.ht.mn,.int .i64 x.ht.mx]] W (VBel (.bool true) W):=fun W=>e2 ▸ right_any _ _ _ _ _ W
   have H1:=zH h1
   have H2:=zH h2
   have HR1:=zH R1
   have HR2:=zH R2
   clear h1 h2 e1 e2 R1 R2
   go_enter Tryz.func33,Tryz.ntmps33
   go_wp2_with (go_at_call 91;((with_reducible first | refine (HR1.out _).mono ?_ | refine (HR2.out _).mono ?_);rintro e1' w2 ⟨rfl,hb2⟩;obtain ⟨hc2,hf2⟩:=bcell hb2;have hz2:=hb2.size;have hg2 : g < w2.heap.size:=(by omega)))
   go_loopw [24] (fun i wr=>∃ a : Nat,i = .int .i64 a∧a≤x.cols.length∧Below w.heap.size w wr∧(∀ j i,j < a→x.cols[j]? = some i→i.ok)) (fun i _=>x.cols.length - (intOf i).toNat)
   case atStart=>exact ⟨0,rfl,by omega,by first | assumption | exact Below.trans (by assumption) (hb2.mono (by omega)),fun j i hj=>by omega⟩
   case round=>
    obtain ⟨a,rfl,hle,hB,hall⟩:=hrel
    have HB:=zH hB
    have HA:=zH hall
    clear hall
    obtain ⟨b1,b2',b3,b4,b5,b6,b7,b8,b9,b10,b11,b12,b13,b14,b15,b16,b17,b18,b19,b20,b21,b22,b23,b24,b25,b26,b27,b28,b29,b30,b31,b32,b33,b34⟩:=HN.out.below hB hg
    clear b2' b3 b4 b5 b6 b7 b8 b9 b10 b11 b12 b13 b14 b15 b16 b17 b18 b19 b20 b21 b22 b23 b24 b25 b26 b27 b28 b30 b31 b32 b33 b34
    have hz:=hB.size
    clear hB
    by_cases hlt : a < x.cols.length
    ·obtain ⟨p',c',hv,_,hx⟩:=HT.out
     obtain ⟨rfl,-,rfl⟩ : p = p'∧True∧c = c':=by simpa using hv
     clear hv
     obtain ⟨gc,oc,rfl,hgc,hit⟩:=hx a _ (List.getElem?_eq_getElem hlt)
     clear hx
     obtain ⟨k1,k2,k3,k4,k5⟩:=hit.below HB.out hgc
     have hgr : gc < wr.heap.size:=Nat.lt_of_lt_of_le hgc hz
     have hltI : (a : Int) < (x.cols.length : Int):=by omega
     have RR : ∀ W,Calls Tryz.prog 91 #[.agg #[.int .i8 (x.cols[a]).k,.int .i64 (x.cols[a]).n,.int .i64 (x.cols[a]).d,.int .i64 (x.cols[a]).mn,.int .i64 (x.cols[a]).mx]] W (VBel (.bool (decide ((x.cols[a]).ok))) W):=fun W=>right_any _ _ _ _ _ W
     by_cases ho : (x.cols[a]).ok
     ·simp only [ho,decide_true] at RR
      have HRR:=zH RR
      have HO:=zH ho
      clear ho RR
      go_wp2_with (go_at_call 91;((with_reducible refine (HRR.out _).mono ?_);rintro e1' w3 ⟨rfl,hb3⟩))
      go_roundw
      case rel=>
       refine ⟨a + 1,by go_num,by omega,HB.out.trans (Below.trans (by (repeat (first | exact Below.refl _ _ | assumption | refine below_drewN ?_ _ | refine Below.drew ?_ | (refine Below.alloc ?_ ?bs _;(case bs=>first | omega | (simp;done) | (simp;omega))) | (refine Below.setCell ?_ ?bs _;(case bs=>first | omega | (simp;done) | (simp;omega)))))) (hb3.mono (by first | omega | (simp;omega)))),fun j i hj hi=>?_⟩
       rcases Nat.lt_or_ge j a with h | h
       ·exact HA.out j i h hi
       ·obtain rfl : j = a:=by omega
        rw [List.getElem?_eq_getElem hlt] at hi
        obtain rfl:=Option.some.inj hi
        exact HO.out
      case measure=>simp [intOf];omega
     ·simp only [ho,decide_false] at RR
      have HRR:=zH RR
      have HO:=zH ho
      clear ho RR
      go_wp2_with (go_at_call 91;((with_reducible refine (HRR.out _).mono ?_);rintro e1' w3 ⟨rfl,hb3⟩))
      go_ret
      refine ⟨?_,HB.out.trans (Below.trans (by (repeat (first | exact Below.refl _ _ | assumption | refine below_drewN ?_ _ | refine Below.drew ?_ | (refine Below.alloc ?_ ?bs _;(case bs=>first | omega | (simp;done) | (simp;omega))) | (refine Below.setCell ?_ ?bs _;(case bs=>first | omega | (simp;done) | (simp;omega)))))) (hb3.mono (by first | omega | (simp;omega))))⟩
      rw [decide_eq_false fun (h : ItemsP x)=>HO.out (h.2.2.1 _ (List.getElem_mem hlt))];rfl
    ·have hlt' : ¬ (a : Int) < (x.cols.length : Int):=by omega
     have ha : a = x.cols.length:=by omega
     subst ha
     have hall : ∀ i ∈ x.cols,i.ok:=forall_getElem fun j i hj hi=>HA.out j i hj hi
     have HI : Hid (decide (ItemsP x) = decide (ColsP x.kd x.cols.length)):=zH (by
      apply decide_eq_decide.2
      exact ⟨fun h=>h.2.2.2,fun h=>⟨H1.out,H2.out,hall,h⟩⟩)
     clear hall HA
     go_wp2
     all_goals
      go_ret
      refine ⟨?_,HB.out.trans (by (repeat (first | exact Below.refl _ _ | assumption | refine below_drewN ?_ _ | refine Below.drew ?_ | (refine Below.alloc ?_ ?bs _;(case bs=>first | omega | (simp;done) | (simp;omega))) | (refine Below.setCell ?_ ?bs _;(case bs=>first | omega | (simp;done) | (simp;omega))))))⟩
      rw [HI.out]
      clear HI
      refine congrArg (fun b=>Ending.returned (Value.bool b)) ?_
      simp only [beq_iff_eq,Bool.not_eq_true,beq_eq_false_iff_ne,bne_eq_false_iff_eq,bne_iff_ne,ne_eq] at *
      rw [Bool.eq_iff_iff]
      simp only [decide_eq_true_eq,beq_iff_eq,Bool.false_eq_true,true_iff,false_iff,iff_true,iff_false]
      (try unfold ColsP)
      try omega
  ·have e1 : decide (RightP x.wd.k x.wd.n x.wd.d x.wd.mn x.wd.mx) = true:=decide_eq_true h1
   have e2 : decide (RightP x.ht.k x.ht.n x.ht.d x.ht.mn x.ht.mx) = false:=decide_eq_false h2
   have R1 : ∀ W,Calls Tryz.prog 91 #[.agg #[.int .i8 x.wd.k,.int .i64 x.wd.n,.int .i64 x.wd.d,.int .i64 x.wd.mn,.int .i64 x.wd.mx]] W (VBel (.bool true) W):=fun W=>e1 ▸ right_any _ _ _ _ _ W
   have R2 : ∀ W,Calls Tryz.prog 91 #[.agg #[.int .i8 x.ht.k,.int .i64 x.ht.n,.int .i64 x.ht.d,.int .i64 x.ht.mn,.int .i64 x.ht.mx]] W (VBel (.bool false) W):=fun W=>e2 ▸ right_any _ _ _ _ _ W
   have HR1:=zH R1
   have HR2:=zH R2
   have HI:=zH (decide_eq_false fun (h : ItemsP x)=>h2 h.2.1)
   clear h1 h2 e1 e2 R1 R2
   go_enter Tryz.func33,Tryz.ntmps33
   go_wp2_with (go_at_call 91;((with_reducible first | refine (HR1.out _).mono ?_ | refine (HR2.out _).mono ?_);rintro e1' w2 ⟨rfl,hb2⟩;obtain ⟨hc2,hf2⟩:=bcell hb2;have hz2:=hb2.size;have hg2 : g < w2.heap.size:=(by omega)))
   go_ret
   exact ⟨by rw [HI.out];rfl,Below.trans (by assumption) (hb2.mono (by omega))⟩
 ·have e1 : decide (RightP x.wd.k x.wd.n x.wd.d x.wd.mn x.wd.mx) = false:=decide_eq_false h1
  have R1 : ∀ W,Calls Tryz.prog 91 #[.agg #[.int .i8 x.wd.k,.int .i64 x.wd.n,.int .i64 x.wd.d,.int .i64 x.wd.mn,.int .i64 x.wd.mx]] W (VBel (.bool false) W):=fun W=>e1 ▸ right_any _ _ _ _ _ W
  have HR1:=zH R1
  have HI:=zH (decide_eq_false fun (h : ItemsP x)=>h1 h.1)
  clear h1 e1 R1
  go_enter Tryz.func33,Tryz.ntmps33
  go_wp2_with (go_at_call 91;((with_reducible refine (HR1.out _).mono ?_);rintro e1' w2 ⟨rfl,hb2⟩;obtain ⟨hc2,hf2⟩:=bcell hb2;have hz2:=hb2.size;have hg2 : g < w2.heap.size:=(by omega)))
  go_ret
  exact ⟨by rw [HI.out];rfl,hb2⟩
end Go.Proofs.YthhomflonpjbmaaGreatDoor
/-
 The walk of tree.fields at any node.
-/
namespace Go.Proofs.YthhomflonpjbmaaGreatDoor
open Go.RowKit
theorem from_gen (a b : Int) (w : World) : Calls Tryz.prog 92 #[.int .i64 a,.int .i64 b] w (VRet (.bool (decide (0≤a∧a≤b))) w):=by
 have:=from_any a b w
 rw [← Bool.decide_and] at this
 exact this
def FieldsP (x : ND) : Prop :=
 (0≤x.p0∧x.p0≤4096∧-4096≤x.x0∧x.x0≤4096)∧(0≤x.p1∧x.p1≤4096∧-4096≤x.x1∧x.x1≤4096)∧(0≤x.p2∧x.p2≤4096∧-4096≤x.x2∧x.x2≤4096)∧(0≤x.p3∧x.p3≤4096∧-4096≤x.x3∧x.x3≤4096)∧
 0≤x.gap∧x.gap≤4096∧0≤x.bd∧x.bd≤4∧0≤x.al∧x.al≤5∧0≤x.cr∧x.cr≤5∧0≤x.md∧x.md≤2∧x.fl≤7∧TintP x.fg∧TintP x.bg
instance (x : ND) : Decidable (FieldsP x):=by unfold FieldsP;infer_instance
structure X8 (x : ND) : Prop where
 bd : -128≤x.bd∧x.bd≤127
 al : -128≤x.al∧x.al≤127
 cr : -128≤x.cr∧x.cr≤127
 md : -128≤x.md∧x.md≤127
set_option maxRecDepth 100000 in
set_option maxHeartbeats 4000000 in
theorem fields_gen (w : World) (g o : Nat) (x : ND) (kv cv : Value) (h : NodeV w g o x kv cv) (h8 : X8 x) :
  Calls Tryz.prog 34 #[.pointer (some ⟨g,o,none⟩)] w (VRet (.bool (decide (FieldsP x))) w):=by
 obtain ⟨a1,a2,a3,a4,a5,a6,a7,a8,a9,a10,a11,a12,a13,a14,a15,a16,a17,a18,a19,a20,a21,a22,a23,a24,a25,a26,a27,a28,a29,a30,a31,a32,a33,a34⟩:=h
 clear a2 a3 a4 a5 a6 a7 a8 a9 a10 a11 a12 a13 a14 a23 a29
 obtain ⟨b8,b9,b10,b11⟩:=h8
 obtain ⟨kd,id,cl,kids,wd,ht,gap,p0,p1,p2,p3,bd,al,cr,tx,md,fg,bg,ad,dr,cols,x0,x1,x2,x3,fl⟩:=x
 dsimp only at *
 generalize hr : decide (FieldsP _) = r
 have HR:=zH hr
 clear hr
 go_enter Tryz.func34,Tryz.ntmps34
 go_wp2
 refine wp_loop_rounds 5 ?_
 repeat any_goals (rw [rounds_succ];go_wp2_with (go_at_call 92;((with_reducible refine (from_gen _ _ _).mono ?_);rintro e w1 ⟨rfl,rfl⟩)))
 go_wp2_with (first | (go_at_call 92;((with_reducible refine (from_gen _ _ _).mono ?_);rintro e w1 ⟨rfl,rfl⟩)) | (go_at_call 93;((with_reducible refine (tint_any _ _).mono ?_);rintro e w1 ⟨rfl,rfl⟩)))
 all_goals
  go_ret
  refine ⟨?_,rfl⟩
  have:=HR.out
  subst this
  refine congrArg (fun b=>Ending.returned (Value.bool b)) ?_
  simp only [beq_iff_eq,Bool.not_eq_true,beq_eq_false_iff_ne,bne_eq_false_iff_eq,bne_iff_ne,ne_eq,decide_eq_true_eq,decide_eq_false_iff_not] at *
  rw [Bool.eq_iff_iff]
  simp only [decide_eq_true_eq,beq_iff_eq,Bool.false_eq_true,true_iff,false_iff,iff_true,iff_false]
  (try unfold FieldsP)
  dsimp only
  (try simp only [TintP] at *)
  try omega
end Go.Proofs.YthhomflonpjbmaaGreatDoor
/-
 The walk of tree.name at whatever text.
-/
namespace Go.Proofs.YthhomflonpjbmaaGreatDoor
open Go.RowKit
def OkB (i c : Nat) : Prop:=(97≤c∧c≤122)∨(65≤c∧c≤90)∨(0 < i∧((48≤c∧c≤57)∨c = 45∨c = 95))
instance (i c : Nat) : Decidable (OkB i c):=by unfold OkB;infer_instance
def NameP (s : ByteArray) : Prop:=s.size ≠ 0∧s.size≤32∧∀ i,i < s.size→∀ h : i < s.size,OkB i (s[i]).toNat
open Classical in
noncomputable instance (s : ByteArray) : Decidable (NameP s):=inferInstance
theorem empty_of_size {s : ByteArray} (h : s.size = 0) : s = ⟨#[]⟩:=by
 obtain ⟨⟨l⟩⟩:=s
 have : l.length = 0:=h
 obtain rfl:=List.length_eq_zero_iff.1 this
 rfl
set_option maxRecDepth 100000 in
set_option maxHeartbeats 4000000 in
theorem name_any (s : ByteArray) (w : World) : Calls Tryz.prog 31 #[.string s] w (VRet (.bool (decide (NameP s))) w):=by
 by_cases h0 : s.size = 0
 ·obtain rfl:=empty_of_size h0
  have HR:=zH (decide_eq_false fun (h : NameP ⟨#[]⟩)=>h.1 rfl)
  go_enter Tryz.func31,Tryz.ntmps31
  go_wp2
  go_ret
  exact ⟨by rw [HR.out];rfl,rfl⟩
 ·by_cases h32 : 32 < s.size
  ·have HR:=zH (decide_eq_false fun (h : NameP s)=>by have:=h.2.1;omega)
   have h0' : (s.toList == []) = false:=by
    simp only [beq_eq_false_iff_ne,ne_eq]
    intro h
    exact h0 (by rw [ba_toList h];rfl)
   have h32' : (32 : Int) < (s.size : Int):=by omega
   go_enter Tryz.func31,Tryz.ntmps31
   go_wp2
   go_ret
   exact ⟨by rw [HR.out];rfl,rfl⟩
  ·have h0' : (s.toList == []) = false:=by
    simp only [beq_eq_false_iff_ne,ne_eq]
    intro h
    exact h0 (by rw [ba_toList h];rfl)
   have h32' : ¬ (32 : Int) < (s.size : Int):=by omega
   have H0:=zH h0
   have H32:=zH h32
   clear h0 h32
   go_enter Tryz.func31,Tryz.ntmps31
   go_wp2
   go_loopw [3] (fun i wr=>∃ a : Nat,i = .int .i64 a∧a≤s.size∧wr = w∧∀ j,j < a→∀ h : j < s.size,OkB j (s[j]).toNat) (fun i _=>s.size - (intOf i).toNat)
   case atStart=>exact ⟨0,rfl,by omega,rfl,fun j h=>by omega⟩
   case round=>
    obtain ⟨a,rfl,hle,rfl,hall⟩:=hrel
    have HA:=zH hall
    clear hall h0' h32'
    by_cases hlt : a < s.size
    ·have hltI : (a : Int) < (s.size : Int):=by omega
     have hs32 : s.size≤32:=by have:=H32.out;omega
     obtain ⟨c,hc⟩ : ∃ c,(s[a]).toNat = c:=⟨_,rfl⟩
     have HC:=zH hc
     have HOK : Hid (OkB a c→∀ j,j < a + 1→∀ h : j < s.size,OkB j (s[j]).toNat):=zH fun ho j hj h=>by
      rcases Nat.lt_or_ge j a with h' | h'
      ·exact HA.out j h' h
      ·obtain rfl : j = a:=by omega
       rw [HC.out];exact ho
     have HNO : Hid (¬ OkB a c→decide (NameP s) = false):=zH fun ho=>decide_eq_false fun h=>ho (by have:=h.2.2 a hlt hlt;rw [HC.out] at this;exact this)
     go_wp2
     all_goals (first | (refine ⟨⟨a + 1,by first | rfl | go_num,by omega,trivial,HOK.out ?_⟩,by simp [intOf];omega⟩;(try simp only [beq_iff_eq,beq_eq_false_iff_ne,ne_eq] at *);unfold OkB;omega) | (go_ret;refine ⟨?_,rfl⟩;rw [HNO.out (by (try simp only [beq_iff_eq,beq_eq_false_iff_ne,ne_eq] at *);unfold OkB;omega)];rfl))
    ·go_wp2
     go_ret
     refine ⟨?_,rfl⟩
     have e : NameP s:=⟨H0.out,by have:=H32.out;omega,fun i hi h=>HA.out i (by omega) h⟩
     rw [show decide (NameP s) = true from decide_eq_true e];rfl
end Go.Proofs.YthhomflonpjbmaaGreatDoor
/-
 The walk of tree.Check at a tree of one node.
-/
namespace Go.Proofs.YthhomflonpjbmaaGreatDoor
open Go.RowKit
end Go.Proofs.YthhomflonpjbmaaGreatDoor
/-
 The walk of measure.frame at a text or a row.
-/
namespace Go.Proofs.YthhomflonpjbmaaGreatDoor
open Go.RowKit
end Go.Proofs.YthhomflonpjbmaaGreatDoor
/-
 The walks of measure.kinds' three functions for a text node.
-/
namespace Go.Proofs.YthhomflonpjbmaaGreatDoor
open Go.RowKit
theorem and_cell2 {W w' : World} {a b : Addr} {u v : Value} (hc : W.cell? a = some u) (hd : W.cell? b = some v) (ha : a.block < W.heap.size) (hb : b.block < W.heap.size) (h : SW W w') : w'.cell? a = some u∧w'.cell? b = some v∧SW W w':=⟨(h.cell (p:=a) ha).trans hc,(h.cell (p:=b) hb).trans hd,h⟩
def tallS (md : Int) (iw : Nat) (t : ByteArray) : Nat:=if iw = 0 then 0 else linesN md iw (rowsS (flowS t.data.toList))
theorem count_all (s : ByteArray) (w0 : Nat) (mode : Int) (hm : mode = 0∨mode = 1∨mode = 2) (h2 : w0≤1000000) (hs : s.size≤1000000) (w : World) :
  Calls Tryz.prog 13 #[.string s,.int .i64 w0,.int .i8 mode] w (VBel (.int .i64 (tallS mode w0 s)) w):=by
 unfold tallS
 by_cases h : w0 = 0
 ·subst h
  rw [if_pos rfl]
  exact (count_zero s 0 mode (by omega) w).mono fun e w' he=>⟨he.1,by rw [he.2];exact Below.refl _ _⟩
 ·rw [if_neg h]
  exact count_any s w0 mode hm (by omega) h2 hs w
end Go.Proofs.YthhomflonpjbmaaGreatDoor
/-
 The keys of measure's map: their type has its law.
-/
namespace Go.Proofs.YthhomflonpjbmaaGreatDoor
open Go.RowKit Go.Maps
theorem own_laid : laidOutB Tryz.prog = true:=by kernel_rfl
theorem key_row : 64 < Tryz.prog.types.size:=of_decide_eq_true (by kernel_rfl)
theorem key_keyed : Keyed Tryz.prog 64:=Keyed.of_law (deep_law_laid own_laid (m:=3) (by omega) key_row (by kernel_rfl) (by kernel_rfl))
end Go.Proofs.YthhomflonpjbmaaGreatDoor
/-
 What a measure is in memory: its cells, its table of kinds, its map; the map in the measure's words.
-/
namespace Go.Proofs.YthhomflonpjbmaaGreatDoor
open Go.RowKit Go.Maps
theorem grownBy_drew (w : World) (row : Option Nat) : w.grownBy w.drew row:=⟨rfl,rfl,rfl,Nat.le_refl _,fun _ _ _=>rfl⟩
theorem grownBy_drewN (w : World) (n : Nat) (row : Option Nat) : w.grownBy (w.drewN n) row:=⟨rfl,rfl,rfl,Nat.le_refl _,fun _ _ _=>rfl⟩
theorem grownBy_below {w w' : World} (h : Below w.heap.size w w') (row : Option Nat) : w.grownBy w' row:=⟨h.os,h.tape,h.output,h.size,fun k hk _=>h.block k hk⟩
theorem below_grownBy {w w' : World} {b B : Nat} (h : w.grownBy w' (some b)) (hb : B≤b) (hB : B≤w.heap.size) : Below B w w':=⟨h.os,h.tape,h.output,h.size,fun k hk=>h.block k (by omega) (by intro e;have:=Option.some.inj e;omega)⟩
theorem grownBy_then {w w' w'' : World} {row : Option Nat} (h : w.grownBy w' row) (hb : Below w'.heap.size w' w'') : w.grownBy w'' row:=World.grownBy.trans h (grownBy_below hb row)
def keyV (n y x : Int) : Value:=.agg #[.int .i64 n,.int .i64 y,.int .i64 x]
theorem key_desc : Tryz.prog.keyType 64 = true:=by kernel_rfl
theorem key_formed (n y x : Int) : (keyV n y x).formed Tryz.prog 64 = true:=by kernel_rfl
theorem key_lits (n y x : Int) (hn : (Lit.int .i64 n).wf = true) (hy : (Lit.int .i64 y).wf = true) (hx : (Lit.int .i64 x).wf = true) : Tryz.prog.keyLits (Tryz.prog.types.size + 1) 64 (keyV n y x).cells.toList = some [.int .i64 n,.int .i64 y,.int .i64 x]:=by
 obtain ⟨d,hd⟩ : ∃ d,Tryz.prog.types.size = d + 1:=⟨Tryz.prog.types.size - 1,by have : 0 < Tryz.prog.types.size:=of_decide_eq_true (by kernel_rfl);omega⟩
 have c3 : Tryz.prog.cellsOf 3 = 1:=by kernel_rfl
 have ck : Tryz.prog.cellsOf 64 = 3:=by kernel_rfl
 rw [hd]
 simp [Program.keyLits,Tryz.underlying64,Tryz.underlying3,c3,ck,keyV,Value.cells,hn,hy,hx]
theorem key_reads (n y x : Int) (hn : (Lit.int .i64 n).wf = true) (hy : (Lit.int .i64 y).wf = true) (hx : (Lit.int .i64 x).wf = true) : ∃ kl,keyOf Tryz.prog 64 (keyV n y x) = some kl:=by
 refine ⟨.string (keyBytes [.int .i64 n,.int .i64 y,.int .i64 x]),?_⟩
 simp only [keyOf,Tryz.underlying64,key_desc,key_formed,key_lits n y x hn hy hx]
 rfl
def I64 (n : Int) : Prop:=-9223372036854775808≤n∧n≤9223372036854775807
theorem keyV_inj {n y x n' y' x' : Int} (h : keyV n y x = keyV n' y' x') : n = n'∧y = y'∧x = x':=by
 simpa [keyV] using h
def Known (D : DataW Unit) (f : Int→Int→Int→Int) : Prop :=
 ∀ n y x kl,keyOf Tryz.prog 64 (keyV n y x) = some kl→Maps.has D kl = true→D.atKey kl (.lit (.int .i64 0)) = .lit (.int .i64 (f n y x))
theorem known_empty (f : Int→Int→Int→Int) : Known (.map []) f:=by
 intro n y x kl _ h
 simp [Maps.has] at h
theorem Known.put {D : DataW Unit} {f : Int→Int→Int→Int} (h : Known D f) (hm : IsMap D) {n y x : Int} {kl : Lit} (hk : keyOf Tryz.prog 64 (keyV n y x) = some kl) :
  Known (D.put kl (.lit (.int .i64 (f n y x)))) f:=by
 intro n' y' x' kl' hk' hh
 by_cases e : kl' = kl
 ·subst e
  obtain ⟨rfl,rfl,rfl⟩:=keyV_inj (key_keyed.inj hk' hk)
  rw [Maps.atKey_put_same hm (key_keyed.key hk)]
 ·rw [Maps.has_put_other e] at hh
  rw [Maps.atKey_put_other e]
  exact h n' y' x' kl' hk' hh
structure MInv (w : World) (pm g bk bm nn cc K : Nat) (f : Int→Int→Int→Int) : Prop where
 c0 : w.cell? ⟨pm,0,none⟩ = some (.slice (some ⟨g,0,none⟩) nn cc)
 c1 : w.cell? ⟨pm,1,none⟩ = some (.slice (some ⟨bk,0,none⟩) 12 12)
 c2 : w.cell? ⟨pm,2,none⟩ = some (.map (some bm))
 k3 : w.cell? ⟨bk,3,none⟩ = some (.func (.func 48) #[] #[])
 k4 : w.cell? ⟨bk,4,none⟩ = some (.func (.func 49) #[] #[])
 k5 : w.cell? ⟨bk,5,none⟩ = some (.func (.func 50) #[] #[])
 k6 : w.cell? ⟨bk,6,none⟩ = some (.func (.func 51) #[] #[])
 k7 : w.cell? ⟨bk,7,none⟩ = some (.func (.func 52) #[] #[])
 k8 : w.cell? ⟨bk,8,none⟩ = some (.func (.func 53) #[] #[])
 np : pm ≠ bm
 nk : bk ≠ bm
 ng : g ≠ bm
 lg : g < w.heap.size
 map : ∃ D : DataW Unit,w.ownsMap Tryz.prog 64 (plainElem Tryz.prog 3) bm K D∧Known D f
theorem MInv.lp {w : World} {pm g bk bm nn cc K : Nat} {f : Int→Int→Int→Int} (h : MInv w pm g bk bm nn cc K f) : pm < w.heap.size:=World.block_lt_of_cell? w ⟨pm,0,none⟩ h.c0
theorem MInv.lm {w : World} {pm g bk bm nn cc K : Nat} {f : Int→Int→Int→Int} (h : MInv w pm g bk bm nn cc K f) : bm < w.heap.size:=by obtain ⟨D,h1,_⟩:=h.map;exact h1.lt
theorem MInv.mono {w : World} {pm g bk bm nn cc K K' : Nat} {f : Int→Int→Int→Int} (h : MInv w pm g bk bm nn cc K f) (hK : K≤K') : MInv w pm g bk bm nn cc K' f:=by
 obtain ⟨D,h1,h2⟩:=h.map
 exact { h with map:=⟨D,h1.mono hK,h2⟩ }
theorem MInv.kept {w w' : World} {row : Option Nat} {pm g bk bm nn cc K : Nat} {f : Int→Int→Int→Int} (h : MInv w pm g bk bm nn cc K f) (hg : w.grownBy w' row) (hp : some pm ≠ row) (hk : some bk ≠ row) (hm : some bm ≠ row) : MInv w' pm g bk bm nn cc K f:=by
 obtain ⟨D,h1,h2⟩:=h.map
 exact ⟨hg.cell h.c0 hp,hg.cell h.c1 hp,hg.cell h.c2 hp,hg.cell h.k3 hk,hg.cell h.k4 hk,hg.cell h.k5 hk,hg.cell h.k6 hk,hg.cell h.k7 hk,hg.cell h.k8 hk,h.np,h.nk,h.ng,Nat.lt_of_lt_of_le h.lg hg.size,D,h1.kept hg hm,h2⟩
theorem MInv.below {w w' : World} {pm g bk bm nn cc K : Nat} {f : Int→Int→Int→Int} (h : MInv w pm g bk bm nn cc K f) (hb : Below w.heap.size w w') : MInv w' pm g bk bm nn cc K f :=
 h.kept (grownBy_below hb none) (by simp) (by simp) (by simp)
theorem MInv.turned {w w' : World} {pm g bk bm nn cc K K' : Nat} {f : Int→Int→Int→Int} (h : MInv w pm g bk bm nn cc K f) (hg : w.grownBy w' (some bm)) {D : DataW Unit} (ho : w'.ownsMap Tryz.prog 64 (plainElem Tryz.prog 3) bm K' D) (hk : Known D f) : MInv w' pm g bk bm nn cc K' f :=
 ⟨hg.cell h.c0 (by simpa using h.np),hg.cell h.c1 (by simpa using h.np),hg.cell h.c2 (by simpa using h.np),hg.cell h.k3 (by simpa using h.nk),hg.cell h.k4 (by simpa using h.nk),hg.cell h.k5 (by simpa using h.nk),hg.cell h.k6 (by simpa using h.nk),hg.cell h.k7 (by simpa using h.nk),hg.cell h.k8 (by simpa using h.nk),h.np,h.nk,h.ng,Nat.lt_of_lt_of_le h.lg hg.size,D,ho,hk⟩
end Go.Proofs.YthhomflonpjbmaaGreatDoor
/-
 What tree.Check answers, plainly; what its loops hold in memory.
-/
namespace Go.Proofs.YthhomflonpjbmaaGreatDoor
open Go.RowKit Go.Maps
structure CS where
 tk : List Bool
 dp : List Int
 ids : List (List UInt8)
def kidsC (N n : Nat) : List Int→List Bool→List Int→Option (List Bool × List Int)
 | [],tk,dp=>some (tk,dp)
 |k :: r,tk,dp=>if k≤(n : Int)∨(N : Int)≤k∨tk[k.toNat]? = some true then none else kidsC N n r (tk.set k.toNat true) (dp.set k.toNat ((dp[n]?).getD 0 + 1))
def KBad (kd : Int) (m : Nat) : Prop:=((kd < 2∨6 < kd)∧0 < m)∨(kd = 6∧m ≠ 1)
instance (kd : Int) (m : Nat) : Decidable (KBad kd m):=by unfold KBad;infer_instance
def IdBad (x : ND) (ids : List (List UInt8)) : Prop:=x.id.size ≠ 0∧(x.id.data.toList ∈ ids∨¬ NameP x.id)
def ClBad (x : ND) : Prop:=x.cl.size ≠ 0∧¬ NameP x.cl
open Classical in
noncomputable def nodeC (N n : Nat) (x : ND) (s : CS) : Except Int CS :=
 if x.kd < 1∨11 < x.kd then .error 101
 else if IdBad x s.ids then .error 105
 else if ClBad x then .error 105
 else match kidsC N n x.kids s.tk s.dp with
  |none=>.error 102
  |some (tk,dp)=>
   if KBad x.kd x.kids.length then .error 102 else if ¬ ItemsP x then .error 104 else if ¬ FieldsP x then .error 106 else if 65536 < x.tx.size then .error 3
   else .ok ⟨tk,dp,if x.id.size = 0 then s.ids else x.id.data.toList :: s.ids⟩
noncomputable def nodesC (N : Nat) : Nat→List ND→CS→Except (Int × Nat) CS
 |_,[],s=>.ok s
 |n,x :: r,s=>match nodeC N n x s with
  | .error e=>.error (e,n)
  | .ok s'=>nodesC N (n + 1) r s'
def cs0 (N : Nat) : CS:=⟨List.replicate N false,List.replicate N 0,[]⟩
def unTaken (s : CS) (n : Nat) : Bool:=decide (1≤n) && !(decide (s.tk[n]? = some true))
def tooDeep (s : CS) (n : Nat) : Bool:=decide (64≤(s.dp[n]?).getD 0)
def endC (N : Nat) (s : CS) : Int × Nat :=
 match (List.range N).find? (unTaken s) with
 |some n=>(102,n)
 |none=>match (List.range N).find? (tooDeep s) with
  |some n=>(103,n)
  |none=>(0,0)
noncomputable def checkS (ns : List ND) : Int × Nat :=
 if ns.length = 0∨4096 < ns.length then (100,0)
 else match nodesC ns.length 0 ns (cs0 ns.length) with
  | .error p=>p
  | .ok s=>endC ns.length s
theorem checkS_err {ns : List ND} (h : ¬ (ns.length = 0∨4096 < ns.length)) {n : Nat} {x : ND} {s : CS} (hs : nodesC ns.length 0 ns (cs0 ns.length) = nodesC ns.length n (ns.drop n) s) (hx : ns[n]? = some x) {e : Int} (he : nodeC ns.length n x s = .error e) : checkS ns = (e,n):=by
 obtain ⟨hn,rfl⟩:=List.getElem?_eq_some_iff.1 hx
 unfold checkS
 rw [if_neg h,hs,List.drop_eq_getElem_cons hn]
 simp [nodesC,he]
theorem nodesC_step {N n : Nat} {ns : List ND} {x : ND} {s s' : CS} (hx : ns[n]? = some x) (he : nodeC N n x s = .ok s') : nodesC N n (ns.drop n) s = nodesC N (n + 1) (ns.drop (n + 1)) s':=by
 obtain ⟨hn,rfl⟩:=List.getElem?_eq_some_iff.1 hx
 rw [List.drop_eq_getElem_cons hn]
 simp [nodesC,he]
theorem checkS_end {ns : List ND} (h : ¬ (ns.length = 0∨4096 < ns.length)) {s : CS} (hs : nodesC ns.length 0 ns (cs0 ns.length) = .ok s) : checkS ns = endC ns.length s:=by
 unfold checkS
 rw [if_neg h,hs]
theorem find_first {p : Nat→Bool} {N a : Nat} (ha : a < N) (hp : p a = true) (hall : ∀ j,j < a→p j = false) : (List.range N).find? p = some a:=by
 rw [List.find?_range_eq_some]
 exact ⟨hp,by simpa using ha,fun j hj=>by simp [hall j hj]⟩
theorem find_none {p : Nat→Bool} {N : Nat} (hall : ∀ j,j < N→p j = false) : (List.range N).find? p = none:=by
 rw [List.find?_range_eq_none]
 exact fun j hj=>by simp [hall j hj]
def DpOk (dp : List Int) : Prop:=∀ (i : Nat) d,dp[i]? = some d→0≤d∧d≤i
theorem DpOk.set {dp : List Int} (h : DpOk dp) {k n : Nat} (hk : n < k) : DpOk (dp.set k ((dp[n]?).getD 0 + 1)):=by
 intro i d hd
 rw [List.getElem?_set] at hd
 split at hd
 ·rename_i e
  subst e
  split at hd
  ·obtain rfl:=Option.some.inj hd
   cases hn : dp[n]? with
   |none=>simp;omega
   |some d'=>have:=h n d' hn;simp;omega
  ·cases hd
 ·exact h i d hd
def SeenM (D : DataW Unit) (ids : List (List UInt8)) : Prop :=
 ∀ l : List UInt8,l.length≤maxLen→∃ c : Int,D.atKey (.string l) (.lit (.int .i64 0)) = .lit (.int .i64 c)∧(0 < c↔l ∈ ids)
theorem seen_empty : SeenM (.map []) []:=fun l _=>⟨0,by simp [DataW.atKey],by simp⟩
theorem str_keyed : Keyed Tryz.prog 9:=string_keyed Tryz.underlying9
theorem seen_put {D : DataW Unit} {ids : List (List UInt8)} (h : SeenM D ids) (hm : IsMap D) (l : List UInt8) (c : Int) (hc : 0 < c) (hl : l.length≤maxLen) (hk : ∃ v,keyOf Tryz.prog 9 v = some (.string l)) : SeenM (D.put (.string l) (.lit (.int .i64 c))) (l :: ids):=by
 intro l' hl'
 by_cases e : l' = l
 ·subst e
  refine ⟨c,?_,by simp [hc]⟩
  obtain ⟨v,hv⟩:=hk
  rw [Maps.atKey_put_same hm (str_keyed.key hv)]
 ·obtain ⟨c',h1,h2⟩:=h l' hl'
  refine ⟨c',?_,?_⟩
  ·rw [Maps.atKey_put_other (by simpa using e)];exact h1
  ·rw [h2];simp [e]
abbrev bvs (l : List Bool) : List Value:=l.map Value.bool
abbrev ivs (l : List Int) : List Value:=l.map (Value.int .i64)
structure CkM (w : World) (N b1 b4 b5 bm : Nat) (nv : Value) (K : Nat) (s : CS) (W : World) : Prop where
 c1 : W.cell? ⟨b1,0,none⟩ = some nv
 l1 : w.heap.size≤b1
 l4 : w.heap.size≤b4
 l5 : w.heap.size≤b5
 lm : w.heap.size≤bm
 n14 : b1 ≠ b4
 n15 : b1 ≠ b5
 n1m : b1 ≠ bm
 n45 : b4 ≠ b5
 n4m : b4 ≠ bm
 n5m : b5 ≠ bm
 tl : s.tk.length = N
 dl : s.dp.length = N
 dk : DpOk s.dp
 tk : W.ownsRow w.heap.size 4 1 (.slice (some ⟨b4,0,none⟩) N N) N (bvs s.tk)
 dp : W.ownsRow w.heap.size 3 1 (.slice (some ⟨b5,0,none⟩) N N) N (ivs s.dp)
 mp : ∃ D : DataW Unit,W.ownsMap Tryz.prog 9 (plainElem Tryz.prog 3) bm K D∧SeenM D s.ids
 bel : Below w.heap.size w W
theorem CkM.drew {w : World} {N b1 b4 b5 bm : Nat} {nv : Value} {K : Nat} {s : CS} {W : World} (h : CkM w N b1 b4 b5 bm nv K s W) (m : Nat) : CkM w N b1 b4 b5 bm nv K s (W.drewN m):=by
 obtain ⟨D,h1,h2⟩:=h.mp
 exact ⟨h.c1,h.l1,h.l4,h.l5,h.lm,h.n14,h.n15,h.n1m,h.n45,h.n4m,h.n5m,h.tl,h.dl,h.dk,h.tk,h.dp,⟨D,h1,h2⟩,below_drewN h.bel _⟩
theorem CkM.below {w : World} {N b1 b4 b5 bm : Nat} {nv : Value} {K : Nat} {s : CS} {W W' : World} (h : CkM w N b1 b4 b5 bm nv K s W) (hb : Below W.heap.size W W') : CkM w N b1 b4 b5 bm nv K s W':=by
 obtain ⟨D,h1,h2⟩:=h.mp
 have hg:=grownBy_below hb none
 exact ⟨hg.cell h.c1 (by simp),h.l1,h.l4,h.l5,h.lm,h.n14,h.n15,h.n1m,h.n45,h.n4m,h.n5m,h.tl,h.dl,h.dk,orow_belowSize h.tk hb,orow_belowSize h.dp hb,⟨D,h1.kept hg (by simp),h2⟩,h.bel.trans (hb.mono h.bel.size)⟩
theorem CkM.mono {w : World} {N b1 b4 b5 bm : Nat} {nv : Value} {K K' : Nat} {s : CS} {W : World} (h : CkM w N b1 b4 b5 bm nv K s W) (hK : K≤K') : CkM w N b1 b4 b5 bm nv K' s W:=by
 obtain ⟨D,h1,h2⟩:=h.mp
 exact { h with mp:=⟨D,h1.mono hK,h2⟩ }
theorem CkM.take {w : World} {N b1 b4 b5 bm : Nat} {nv : Value} {K : Nat} {tk : List Bool} {dp : List Int} {ids : List (List UInt8)} {W : World} (h : CkM w N b1 b4 b5 bm nv K ⟨tk,dp,ids⟩ W) {k n : Nat} (hk : n < k) :
  CkM w N b1 b4 b5 bm nv K ⟨tk.set k true,dp.set k ((dp[n]?).getD 0 + 1),ids⟩ ((W.setCell ⟨b4,k,none⟩ (.bool true)).setCell ⟨b5,k,none⟩ (.int .i64 ((dp[n]?).getD 0 + 1))):=by
 obtain ⟨D,h1,h2⟩:=h.mp
 obtain ⟨t1,g1⟩:=h.tk.stored k (.bool true)
 have d1:=h.dp.kept g1 (.inr (by simpa [Value.ownBlock] using fun e=>h.n45 e.symm))
 obtain ⟨d2,g2⟩:=d1.stored k (.int .i64 ((dp[n]?).getD 0 + 1))
 have t2:=t1.kept g2 (.inr (by simpa [Value.ownBlock] using h.n45))
 refine ⟨g2.cell (g1.cell h.c1 (by simpa using h.n14)) (by simpa using h.n15),h.l1,h.l4,h.l5,h.lm,h.n14,h.n15,h.n1m,h.n45,h.n4m,h.n5m,by simpa using h.tl,by simpa using h.dl,h.dk.set hk,?_,?_,⟨D,(h1.setCell (a:=⟨b4,k,none⟩) (by simpa using fun e=>h.n4m e.symm) _).setCell (a:=⟨b5,k,none⟩) (by simpa using fun e=>h.n5m e.symm) _,h2⟩,(h.bel.setCell (p:=⟨b4,k,none⟩) h.l4 _).setCell (p:=⟨b5,k,none⟩) h.l5 _⟩
 ·simpa [bvs,List.map_set] using t2
 ·simpa [ivs,List.map_set] using d2
theorem CkM.seen {w : World} {N b1 b4 b5 bm : Nat} {nv : Value} {K : Nat} {tk : List Bool} {dp : List Int} {ids : List (List UInt8)} {W W' : World} (h : CkM w N b1 b4 b5 bm nv K ⟨tk,dp,ids⟩ W) (hg : W.grownBy W' (some bm)) {l : List UInt8}
  {D : DataW Unit} (ho : W'.ownsMap Tryz.prog 9 (plainElem Tryz.prog 3) bm (K + 1) D) (hs : SeenM D (l :: ids)) : CkM w N b1 b4 b5 bm nv (K + 1) ⟨tk,dp,l :: ids⟩ W' :=
 ⟨hg.cell h.c1 (by simpa using h.n1m),h.l1,h.l4,h.l5,h.lm,h.n14,h.n15,h.n1m,h.n45,h.n4m,h.n5m,h.tl,h.dl,h.dk,h.tk.kept hg (.inr (by simpa [Value.ownBlock] using h.n4m)),h.dp.kept hg (.inr (by simpa [Value.ownBlock] using h.n5m)),⟨D,ho,hs⟩,
  h.bel.trans (below_grownBy hg h.lm h.bel.size)⟩
end Go.Proofs.YthhomflonpjbmaaGreatDoor
/-
 The walk of measure.into at the zero item.
-/
namespace Go.Proofs.YthhomflonpjbmaaGreatDoor
open Go.RowKit
end Go.Proofs.YthhomflonpjbmaaGreatDoor
/-
 The walks of measure's makers of functions: always, high, widest: each answers some function.
-/
namespace Go.Proofs.YthhomflonpjbmaaGreatDoor
open Go.RowKit
end Go.Proofs.YthhomflonpjbmaaGreatDoor
/-
 A law for a region that draws its order and holds many calls: an invariant over what is done already (no branching over the orders).
-/
namespace Go.Proofs.YthhomflonpjbmaaGreatDoor
theorem count_set : ∀ (l : List Bool) (i : Nat),l[i]? = some false→(l.set i true).count false + 1 = l.count false
 | [],i,h=>by simp at h
 |x :: l,0,h=>by
  simp at h
  subst h
  simp
 |x :: l,i + 1,h=>by
  have:=count_set l i (by simpa using h)
  cases x <;> simp [List.count_cons] at this ⊢ <;> omega
section
variable {P : Program} {ops : Array Oper} {Q : Exit→Act→World→Prop} {md : Region.Mode}
end
end Go.Proofs.YthhomflonpjbmaaGreatDoor
/-
 The walks at an empty tree and at no measure: tree.Check, measure.New, Least, Most, Tall.
-/
namespace Go.Proofs.YthhomflonpjbmaaGreatDoor
open Go.RowKit
set_option maxRecDepth 100000 in
theorem check_empty (w : World) : Calls Tryz.prog 19 #[.agg #[.slice none 0 0]] w (VBel (.tuple #[.int .i64 100,.int .i64 0]) w):=by
 go_enter Tryz.func19,Tryz.ntmps19
 go_wp2
 go_ret2
 refine ⟨rfl,?_⟩
 (repeat (first | exact Below.refl _ _ | assumption | refine below_drewN ?_ _ | refine Below.drew ?_ | (refine Below.alloc ?_ ?bs _;(case bs=>first | omega | (simp;done) | (simp;omega))) | (refine Below.setCell ?_ ?bs _;(case bs=>first | omega | (simp;done) | (simp;omega)))))
set_option maxRecDepth 100000 in
theorem new_empty (w : World) : Calls Tryz.prog 8 #[.agg #[.slice none 0 0]] w (VBel (.tuple #[.pointer none,.int .i64 100]) w):=by
 go_enter Tryz.func8,Tryz.ntmps8
 go_wp2_with (go_at_call 19;((with_reducible refine (check_empty _).mono ?_);rintro e1' w2 ⟨rfl,hb2⟩))
 go_ret2
 refine ⟨rfl,Below.trans ?_ (hb2.mono ?_)⟩
 ·(repeat (first | exact Below.refl _ _ | assumption | refine below_drewN ?_ _ | refine Below.drew ?_ | (refine Below.alloc ?_ ?bs _;(case bs=>first | omega | (simp;done) | (simp;omega))) | (refine Below.setCell ?_ ?bs _;(case bs=>first | omega | (simp;done) | (simp;omega)))))
 ·(try simp) <;> omega
set_option maxRecDepth 100000 in
theorem of_nil (w : World) (n y x : Int) (f : Value) : Calls Tryz.prog 22 #[.pointer none,.agg #[.int .i64 n,.int .i64 y,.int .i64 x],f] w (VBel (.int .i64 0) w):=by
 go_enter Tryz.func22,Tryz.ntmps22
 go_upto_region 1 with (fail)
 go_quiet (fail)
 go_wp2
 go_ret
 refine ⟨rfl,?_⟩
 (repeat (first | exact Below.refl _ _ | assumption | refine below_drewN ?_ _ | refine Below.drew ?_ | (refine Below.alloc ?_ ?bs _;(case bs=>first | omega | (simp;done) | (simp;omega))) | (refine Below.setCell ?_ ?bs _;(case bs=>first | omega | (simp;done) | (simp;omega)))))
set_option maxRecDepth 100000 in
theorem least_nil (w : World) (n : Int) : Calls Tryz.prog 11 #[.pointer none,.int .i64 n] w (VBel (.int .i64 0) w):=by
 go_enter Tryz.func11,Tryz.ntmps11
 go_wp2_with (go_at_call 22;((with_reducible refine (of_nil _ _ _ _ _).mono ?_);rintro e1' w2 ⟨rfl,hb2⟩))
 go_ret
 refine ⟨rfl,Below.trans ?_ (hb2.mono ?_)⟩
 ·(repeat (first | exact Below.refl _ _ | assumption | refine below_drewN ?_ _ | refine Below.drew ?_ | (refine Below.alloc ?_ ?bs _;(case bs=>first | omega | (simp;done) | (simp;omega))) | (refine Below.setCell ?_ ?bs _;(case bs=>first | omega | (simp;done) | (simp;omega)))))
 ·(try simp) <;> omega
set_option maxRecDepth 100000 in
theorem most_nil (w : World) (n : Int) : Calls Tryz.prog 12 #[.pointer none,.int .i64 n] w (VBel (.int .i64 0) w):=by
 go_enter Tryz.func12,Tryz.ntmps12
 go_wp2_with (go_at_call 22;((with_reducible refine (of_nil _ _ _ _ _).mono ?_);rintro e1' w2 ⟨rfl,hb2⟩))
 go_ret
 refine ⟨rfl,Below.trans ?_ (hb2.mono ?_)⟩
 ·(repeat (first | exact Below.refl _ _ | assumption | refine below_drewN ?_ _ | refine Below.drew ?_ | (refine Below.alloc ?_ ?bs _;(case bs=>first | omega | (simp;done) | (simp;omega))) | (refine Below.setCell ?_ ?bs _;(case bs=>first | omega | (simp;done) | (simp;omega)))))
 ·(try simp) <;> omega
set_option maxRecDepth 100000 in
theorem tall_nil (w : World) (n x : Int) (hx : -9223372036854775808≤x∧x≤9223372036854775807) : Calls Tryz.prog 10 #[.pointer none,.int .i64 n,.int .i64 x] w (VBel (.int .i64 0) w):=by
 have HS:=zH fun W=>side_any x hx W
 clear hx
 go_enter Tryz.func10,Tryz.ntmps10
 go_wp2_with (first | (go_at_call 21;((with_reducible refine (HS.out _).mono ?_);rintro e1' w3 ⟨rfl,rfl⟩)) | (go_at_call 22;((with_reducible refine (of_nil _ _ _ _ _).mono ?_);rintro e1' w2 ⟨rfl,hb2⟩)))
 go_ret
 refine ⟨rfl,Below.trans ?_ (hb2.mono ?_)⟩
 ·(repeat (first | exact Below.refl _ _ | assumption | refine below_drewN ?_ _ | refine Below.drew ?_ | (refine Below.alloc ?_ ?bs _;(case bs=>first | omega | (simp;done) | (simp;omega))) | (refine Below.setCell ?_ ?bs _;(case bs=>first | omega | (simp;done) | (simp;omega)))))
 ·(try simp) <;> omega
end Go.Proofs.YthhomflonpjbmaaGreatDoor
/-
 The walk of measure.sum at two numbers.
-/
namespace Go.Proofs.YthhomflonpjbmaaGreatDoor
open Go.RowKit
end Go.Proofs.YthhomflonpjbmaaGreatDoor
/-
 The walk of measure.kinds (under way).
-/
namespace Go.Proofs.YthhomflonpjbmaaGreatDoor
open Go.RowKit
abbrev KSd (w : World) (B : Nat) (v1 v2 v3 : Value) (W : World) : Prop:=W.cell? ⟨B,0,none⟩ = some v1∧W.cell? ⟨B,1,none⟩ = some v2∧W.cell? ⟨B,2,none⟩ = some v3∧B < W.heap.size∧Below w.heap.size w W
theorem KSd.below {w : World} {B : Nat} {v1 v2 v3 : Value} {W W' : World} (h : KSd w B v1 v2 v3 W) (hb : Below W.heap.size W W') : KSd w B v1 v2 v3 W' :=
 ⟨(hb.cell (p:=⟨B,0,none⟩) h.2.2.2.1).trans h.1,(hb.cell (p:=⟨B,1,none⟩) h.2.2.2.1).trans h.2.1,(hb.cell (p:=⟨B,2,none⟩) h.2.2.2.1).trans h.2.2.1,Nat.lt_of_lt_of_le h.2.2.2.1 hb.size,h.2.2.2.2.trans (hb.mono h.2.2.2.2.size)⟩
theorem KSd.drew {w : World} {B : Nat} {v1 v2 v3 : Value} {W : World} (h : KSd w B v1 v2 v3 W) : KSd w B v1 v2 v3 W.drew:=⟨h.1,h.2.1,h.2.2.1,h.2.2.2.1,Below.drew h.2.2.2.2⟩
theorem KSd.alloc {w : World} {B : Nat} {v1 v2 v3 : Value} {W : World} (h : KSd w B v1 v2 v3 W) (o : Obj) : KSd w B v1 v2 v3 (W.alloc o):=h.below (Below.alloc (Below.refl _ _) (Nat.le_refl _) o)
end Go.Proofs.YthhomflonpjbmaaGreatDoor
/-
 The walk of measure.kinds: the whole table.
-/
namespace Go.Proofs.YthhomflonpjbmaaGreatDoor
open Go.RowKit
def CapPost (F : Nat) (v : Value) (w : World) (e : Ending) (w' : World) : Prop:=∃ b : Nat,e = .returned (.func (.func F) #[] #[.pointer (some ⟨b,0,none⟩)])∧Below w.heap.size w w'∧b < w'.heap.size∧w'.cell? ⟨b,0,none⟩ = some v
set_option maxRecDepth 100000 in
theorem always_cap (n : Int) (w : World) : Calls Tryz.prog 65 #[.int .i64 n] w (CapPost 100 (.int .i64 n) w):=by
 go_enter Tryz.func65,Tryz.ntmps65
 go_wp2
 go_ret
 refine ⟨_,rfl,?_,?_,?_⟩
 ·(repeat (first | exact Below.refl _ _ | assumption | refine below_drewN ?_ _ | refine Below.drew ?_ | (refine Below.alloc ?_ ?bs _;(case bs=>first | omega | (simp;done) | (simp;omega))) | (refine Below.setCell ?_ ?bs _;(case bs=>first | omega | (simp;done) | (simp;omega)))))
 ·simp
 ·go_simp
set_option maxRecDepth 100000 in
theorem high_cap (n : Int) (w : World) : Calls Tryz.prog 66 #[.int .i64 n] w (CapPost 101 (.int .i64 n) w):=by
 go_enter Tryz.func66,Tryz.ntmps66
 go_wp2
 go_ret
 refine ⟨_,rfl,?_,?_,?_⟩
 ·(repeat (first | exact Below.refl _ _ | assumption | refine below_drewN ?_ _ | refine Below.drew ?_ | (refine Below.alloc ?_ ?bs _;(case bs=>first | omega | (simp;done) | (simp;omega))) | (refine Below.setCell ?_ ?bs _;(case bs=>first | omega | (simp;done) | (simp;omega)))))
 ·simp
 ·go_simp
set_option maxRecDepth 100000 in
theorem widest_cap (f : Fn) (w : World) : Calls Tryz.prog 35 #[.func f #[] #[]] w (CapPost 36 (.func f #[] #[]) w):=by
 go_enter Tryz.func35,Tryz.ntmps35
 go_wp2
 go_ret
 refine ⟨_,rfl,?_,?_,?_⟩
 ·(repeat (first | exact Below.refl _ _ | assumption | refine below_drewN ?_ _ | refine Below.drew ?_ | (refine Below.alloc ?_ ?bs _;(case bs=>first | omega | (simp;done) | (simp;omega))) | (refine Below.setCell ?_ ?bs _;(case bs=>first | omega | (simp;done) | (simp;omega)))))
 ·simp
 ·go_simp
def Lst (l : List (Nat × Value)) (W : World) : Prop:=∀ p ∈ l,p.1 < W.heap.size∧W.cell? ⟨p.1,0,none⟩ = some p.2
theorem lst_nil (W : World) : Lst [] W:=fun p h=>by cases h
theorem Lst.drew {l : List (Nat × Value)} {W : World} (h : Lst l W) : Lst l W.drew:=h
theorem Lst.below {l : List (Nat × Value)} {W W' : World} (h : Lst l W) (hb : Below W.heap.size W W') : Lst l W':=fun p hp=>
 ⟨Nat.lt_of_lt_of_le (h p hp).1 hb.size,(hb.cell (p:=⟨p.1,0,none⟩) (h p hp).1).trans (h p hp).2⟩
theorem Lst.cons {l : List (Nat × Value)} {W W' : World} (h : Lst l W) (hb : Below W.heap.size W W') {b : Nat} {v : Value} (hl : b < W'.heap.size) (hc : W'.cell? ⟨b,0,none⟩ = some v) : Lst ((b,v) :: l) W':=fun p hp=>by
 rcases List.mem_cons.1 hp with rfl | hp
 ·exact ⟨hl,hc⟩
 ·exact h.below hb p hp
def CapAt (w : World) (bk i F : Nat) (v : Value) : Prop:=∃ b : Nat,w.cell? ⟨bk,i,none⟩ = some (.func (.func F) #[] #[.pointer (some ⟨b,0,none⟩)])∧w.cell? ⟨b,0,none⟩ = some v
def FunAt (w : World) (bk i F : Nat) : Prop:=w.cell? ⟨bk,i,none⟩ = some (.func (.func F) #[] #[])
structure KindsAt (w : World) (bk : Nat) : Prop where
 k3 : FunAt w bk 3 48
 k4 : FunAt w bk 4 49
 k5 : FunAt w bk 5 50
 k6 : FunAt w bk 6 51
 k7 : FunAt w bk 7 52
 k8 : FunAt w bk 8 53
 k9 : CapAt w bk 9 36 (.func (.func 40) #[] #[])
 k10 : CapAt w bk 10 36 (.func (.func 41) #[] #[])
 k11 : FunAt w bk 11 42
 k12 : FunAt w bk 12 55
 k13 : FunAt w bk 13 58
 k14 : FunAt w bk 14 59
 k15 : CapAt w bk 15 36 (.func (.func 40) #[] #[])
 k16 : CapAt w bk 16 36 (.func (.func 41) #[] #[])
 k17 : FunAt w bk 17 42
 k18 : FunAt w bk 18 61
 k19 : FunAt w bk 19 63
 k20 : FunAt w bk 20 64
 k21 : CapAt w bk 21 100 (.int .i64 1)
 k22 : CapAt w bk 22 100 (.int .i64 10)
 k23 : CapAt w bk 23 101 (.int .i64 1)
 k24 : FunAt w bk 24 67
 k25 : FunAt w bk 25 69
 k26 : FunAt w bk 26 72
 k27 : CapAt w bk 27 100 (.int .i64 1)
 k28 : CapAt w bk 28 100 (.int .i64 10)
 k29 : CapAt w bk 29 101 (.int .i64 1)
 k30 : CapAt w bk 30 100 (.int .i64 1)
 k31 : FunAt w bk 31 74
 k32 : CapAt w bk 32 101 (.int .i64 4)
 k33 : CapAt w bk 33 100 (.int .i64 1)
 k34 : CapAt w bk 34 100 (.int .i64 1)
 k35 : CapAt w bk 35 101 (.int .i64 1)
def Keeps (w w' : World) : Prop:=∀ a v,w.cell? a = some v→w'.cell? a = some v
theorem KindsAt.keeps {w w' : World} {bk : Nat} (h : KindsAt w bk) (k : Keeps w w') : KindsAt w' bk:=by
 have cap : ∀ {i F v},CapAt w bk i F v→CapAt w' bk i F v:=fun ⟨b,h1,h2⟩=>⟨b,k _ _ h1,k _ _ h2⟩
 have fn : ∀ {i F},FunAt w bk i F→FunAt w' bk i F:=fun h=>k _ _ h
 obtain ⟨a3,a4,a5,a6,a7,a8,a9,a10,a11,a12,a13,a14,a15,a16,a17,a18,a19,a20,a21,a22,a23,a24,a25,a26,a27,a28,a29,a30,a31,a32,a33,a34,a35⟩:=h
 exact ⟨fn a3,fn a4,fn a5,fn a6,fn a7,fn a8,cap a9,cap a10,fn a11,fn a12,fn a13,fn a14,cap a15,cap a16,fn a17,fn a18,fn a19,fn a20,cap a21,cap a22,cap a23,fn a24,fn a25,fn a26,cap a27,cap a28,cap a29,cap a30,fn a31,cap a32,cap a33,cap a34,cap a35⟩
def KAllPost (w : World) (e : Ending) (w' : World) : Prop:=∃ b : Nat,e = .returned (.slice (some ⟨b,0,none⟩) 12 12)∧w.heap.size≤b∧b < w'.heap.size∧Below w.heap.size w w'∧KindsAt w' b
theorem first_lst {l : List (Nat × Value)} {W W' : World} (h : Lst l W) (hb : Below W.heap.size W W') {b : Nat} {v : Value} (hl : b < W'.heap.size) (hc : W'.cell? ⟨b,0,none⟩ = some v) : Lst ((b,v) :: l) W':=h.cons hb hl hc
set_option maxRecDepth 100000 in
set_option maxHeartbeats 8000000 in
theorem kinds_all (w : World) : Calls Tryz.prog 20 #[] w (KAllPost w):=by
 go_enter Tryz.func20,Tryz.ntmps20
 go_upto_region 3 with (go_at_call 35;((with_reducible refine (widest_cap _ _).mono ?_);rintro e1' w2 ⟨b2,rfl,hb2,hl2,hc2⟩;have hz2:=hb2.size))
 rename_i w1 b1 hb1 hl1 hc1 hz1 K0 a0
 have HL0:=((lst_nil w).cons hb1 hl1 hc1).cons hb2 hl2 hc2
 have S0 : KSd w w2.heap.size (.func (.func 36) #[] #[.pointer (some ⟨b1,0,none⟩)]) (.func (.func 36) #[] #[.pointer (some ⟨b2,0,none⟩)]) (.func (.func 42) #[] #[]) (w2.alloc (Obj.cells #[Value.func (.func 36) #[] #[.pointer (some ⟨b1,0,none⟩)],Value.func (.func 36) #[] #[.pointer (some ⟨b2,0,none⟩)],Value.func (Fn.func 42) #[] #[]] 71)):=by
  refine ⟨by go_simp,by go_simp,by go_simp,by simp,?_⟩
  exact Below.alloc (hb1.trans (hb2.mono hz1)) (Nat.le_trans hz1 hz2) _
 have HL:=zH (HL0.below (Below.alloc (Below.refl _ w2) (Nat.le_refl _) (Obj.cells #[Value.func (.func 36) #[] #[.pointer (some ⟨b1,0,none⟩)],Value.func (.func 36) #[] #[.pointer (some ⟨b2,0,none⟩)],Value.func (Fn.func 42) #[] #[]] 71)))
 generalize hB : w2.heap.size = B at S0 ⊢
 generalize w2.alloc (Obj.cells #[Value.func (.func 36) #[] #[.pointer (some ⟨b1,0,none⟩)],Value.func (.func 36) #[] #[.pointer (some ⟨b2,0,none⟩)],Value.func (Fn.func 42) #[] #[]] 71) = W at S0 HL ⊢
 obtain ⟨s1,s2,s3,s4,s5⟩:=S0
 clear hB hb1 hz1 hb2 hz2 HL0 hl1 hc1 hl2 hc2
 go_region_held3 (fun w'=>w'.cell? ⟨B,0,none⟩ = some (.func (.func 36) #[] #[.pointer (some ⟨b1,0,none⟩)])∧w'.cell? ⟨B,1,none⟩ = some (.func (.func 36) #[] #[.pointer (some ⟨b2,0,none⟩)])∧w'.cell? ⟨B,2,none⟩ = some (.func (.func 42) #[] #[])∧B < w'.heap.size∧Below w.heap.size w w')
  ((first | (refine KSd.alloc ?_ _;(first | assumption | (refine ⟨?_,?_,?_,?_,?_⟩ <;> assumption))) | (refine KSd.drew ?_;(refine ⟨?_,?_,?_,?_,?_⟩ <;> assumption)) | (refine KSd.below ?_ hb3;(first | assumption | (refine ⟨?_,?_,?_,?_,?_⟩ <;> assumption))) | (refine ⟨?_,?_,?_,?_,?_⟩ <;> assumption)))
  (first | (go_at_call 65;((with_reducible refine (always_cap _ _).mono ?_);rintro e1' w3 ⟨b3,rfl,hb3,hl3,hc3⟩;have hz3:=hb3.size;(try simp at hz3);(first | have HL:=zH (first_lst HL.out hb3 hl3 hc3) | have HL:=zH (first_lst HL.out.drew hb3 hl3 hc3)))) | (go_at_call 66;((with_reducible refine (high_cap _ _).mono ?_);rintro e1' w3 ⟨b3,rfl,hb3,hl3,hc3⟩;have hz3:=hb3.size;(try simp at hz3);(first | have HL:=zH (first_lst HL.out hb3 hl3 hc3) | have HL:=zH (first_lst HL.out.drew hb3 hl3 hc3)))))
 all_goals
  go_wp2
  go_ret
  have s6:=s5.size
  have HLf:=fun o=>HL.out.below (Below.alloc (Below.refl _ w3) (Nat.le_refl _) o)
  refine ⟨w3.heap.size,rfl,?_,?_,?_,?_⟩
  ·omega
  ·simp
  ·exact (show KSd w B (.func (.func 36) #[] #[.pointer (some ⟨b1,0,none⟩)]) (.func (.func 36) #[] #[.pointer (some ⟨b2,0,none⟩)]) (.func (.func 42) #[] #[]) _ by assumption).2.2.2.2
  ·constructor
   ·exact (World.cell?_alloc_new _ _ _ _).trans rfl
   ·exact (World.cell?_alloc_new _ _ _ _).trans rfl
   ·exact (World.cell?_alloc_new _ _ _ _).trans rfl
   ·exact (World.cell?_alloc_new _ _ _ _).trans rfl
   ·exact (World.cell?_alloc_new _ _ _ _).trans rfl
   ·exact (World.cell?_alloc_new _ _ _ _).trans rfl
   ·exact ⟨_,(World.cell?_alloc_new _ _ _ _).trans rfl,(HLf _ (_,_) (by simp)).2⟩
   ·exact ⟨_,(World.cell?_alloc_new _ _ _ _).trans rfl,(HLf _ (_,_) (by simp)).2⟩
   ·exact (World.cell?_alloc_new _ _ _ _).trans rfl
   ·exact (World.cell?_alloc_new _ _ _ _).trans rfl
   ·exact (World.cell?_alloc_new _ _ _ _).trans rfl
   ·exact (World.cell?_alloc_new _ _ _ _).trans rfl
   ·exact ⟨_,(World.cell?_alloc_new _ _ _ _).trans rfl,(HLf _ (_,_) (by simp)).2⟩
   ·exact ⟨_,(World.cell?_alloc_new _ _ _ _).trans rfl,(HLf _ (_,_) (by simp)).2⟩
   ·exact (World.cell?_alloc_new _ _ _ _).trans rfl
   ·exact (World.cell?_alloc_new _ _ _ _).trans rfl
   ·exact (World.cell?_alloc_new _ _ _ _).trans rfl
   ·exact (World.cell?_alloc_new _ _ _ _).trans rfl
   ·exact ⟨_,(World.cell?_alloc_new _ _ _ _).trans rfl,(HLf _ (_,_) (by simp)).2⟩
   ·exact ⟨_,(World.cell?_alloc_new _ _ _ _).trans rfl,(HLf _ (_,_) (by simp)).2⟩
   ·exact ⟨_,(World.cell?_alloc_new _ _ _ _).trans rfl,(HLf _ (_,_) (by simp)).2⟩
   ·exact (World.cell?_alloc_new _ _ _ _).trans rfl
   ·exact (World.cell?_alloc_new _ _ _ _).trans rfl
   ·exact (World.cell?_alloc_new _ _ _ _).trans rfl
   ·exact ⟨_,(World.cell?_alloc_new _ _ _ _).trans rfl,(HLf _ (_,_) (by simp)).2⟩
   ·exact ⟨_,(World.cell?_alloc_new _ _ _ _).trans rfl,(HLf _ (_,_) (by simp)).2⟩
   ·exact ⟨_,(World.cell?_alloc_new _ _ _ _).trans rfl,(HLf _ (_,_) (by simp)).2⟩
   ·exact ⟨_,(World.cell?_alloc_new _ _ _ _).trans rfl,(HLf _ (_,_) (by simp)).2⟩
   ·exact (World.cell?_alloc_new _ _ _ _).trans rfl
   ·exact ⟨_,(World.cell?_alloc_new _ _ _ _).trans rfl,(HLf _ (_,_) (by simp)).2⟩
   ·exact ⟨_,(World.cell?_alloc_new _ _ _ _).trans rfl,(HLf _ (_,_) (by simp)).2⟩
   ·exact ⟨_,(World.cell?_alloc_new _ _ _ _).trans rfl,(HLf _ (_,_) (by simp)).2⟩
   ·exact ⟨_,(World.cell?_alloc_new _ _ _ _).trans rfl,(HLf _ (_,_) (by simp)).2⟩
end Go.Proofs.YthhomflonpjbmaaGreatDoor
