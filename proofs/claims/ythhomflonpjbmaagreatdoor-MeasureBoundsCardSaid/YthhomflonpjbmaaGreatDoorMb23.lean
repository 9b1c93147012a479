/-
 What grid's Tracks and Rects answer, plainly.
-/
import Derived.Test.YthhomflonpjbmaaGreatDoorMb22
import Derived.Test.YthhomflonpjbmaaGreatDoorMb21
import Derived.Deep.DeepCutAuto
import Derived.Deep.QuietTactic
import Derived.Test.YthhomflonpjbmaaGreatDoorMb18
set_option linter.unusedVariables false
set_option linter.unusedSimpArgs false
namespace Go.Proofs.YthhomflonpjbmaaGreatDoor
structure Ned where
 a : Int
 s : Int
 z : Int
instance : Inhabited Ned:=⟨⟨0,0,0⟩⟩
abbrev ltN (x y : Ned) : Bool:=decide (x.s - y.s < 0)
def autosF : Nat→List Itm→List Nat
 |_,[]=>[]
 |i,it :: l=>if it.k = 0 then i :: autosF (i + 1) l else autosF (i + 1) l
theorem autosF_mem : ∀ (l : List Itm) (i j : Nat),j ∈ autosF i l→i≤j∧j < i + l.length
 | [],i,j,h=>by simp [autosF] at h
 |it :: l,i,j,h=>by
  unfold autosF at h
  rw [List.length_cons]
  split at h
  ·rcases List.mem_cons.1 h with rfl | h
   ·omega
   ·have:=autosF_mem l (i + 1) j h;omega
  ·have:=autosF_mem l (i + 1) j h;omega
theorem autosF_len : ∀ (l : List Itm) (i : Nat),(autosF i l).length≤l.length
 | [],i=>by simp [autosF]
 |it :: l,i=>by
  unfold autosF
  have:=autosF_len l (i + 1)
  split <;> simp <;> omega
theorem autosF_app : ∀ (l m : List Itm) (i : Nat),autosF i (l ++ m) = autosF i l ++ autosF (i + l.length) m
 | [],m,i=>by simp [autosF]
 |it :: l,m,i=>by
  have ih:=autosF_app l m (i + 1)
  rw [List.cons_append,List.length_cons,show i + (l.length + 1) = i + 1 + l.length by omega]
  simp only [autosF]
  rw [ih]
  split <;> simp
def partS (lack : Int) (m : Nat) : Int:=lack / m + if 0 < lack % m then 1 else 0
def giveS : Int→List Nat→List Int→List Int
 |_,[],h=>h
 |lack,i :: l,h=>if lack≤0 then h else giveS (lack - partS lack (l.length + 1)) l (h.set i (gd h i + partS lack (l.length + 1)))
theorem partS_range {lack : Int} {m : Nat} (h : 0 < lack) (hm : 0 < m) : 0≤partS lack m∧partS lack m≤lack:=by
 unfold partS
 have h1 : 0≤lack / (m : Int):=Int.ediv_nonneg (by omega) (by omega)
 have h2 : (m : Int) * (lack / m) + lack % m = lack:=Int.mul_ediv_add_emod lack m
 have h3 : lack / (m : Int)≤(m : Int) * (lack / m):=by
  have : 1 * (lack / (m : Int))≤(m : Int) * (lack / m):=Int.mul_le_mul_of_nonneg_right (by omega) h1
  omega
 have h4 : 0≤lack % (m : Int):=Int.emod_nonneg _ (by omega)
 split <;> omega
theorem giveS_len : ∀ (l : List Nat) (lack : Int) (h : List Int),(giveS lack l h).length = h.length
 | [],_,_=>rfl
 |i :: l,lack,h=>by
  unfold giveS
  split
  ·rfl
  ·rw [giveS_len l];simp
theorem giveS_range {B : Int} : ∀ (l : List Nat) (lack : Int) (h : List Int),(∀ x ∈ h,0≤x∧x≤B)→l.Nodup→(∀ i ∈ l,i < h.length)→∀ C : Int,0≤C→lack≤C→∀ (j : Nat) (x : Int),(giveS lack l h)[j]? = some x→0≤x∧x≤B + C
 | [],_,h,hb,_,_,C,hC,_,j,x,hx=>by
  have:=hb x (List.mem_of_getElem? hx)
  omega
 |i :: l,lack,h,hb,hn,hi,C,hC,hl,j,x,hx=>by
  unfold giveS at hx
  split at hx
  ·have:=hb x (List.mem_of_getElem? hx)
   omega
  ·have hp:=partS_range (lack:=lack) (m:=l.length + 1) (by omega) (by omega)
   generalize partS lack (l.length + 1) = p at *
   by_cases hji : j = i
   ·subst hji
    have key : ∀ (l : List Nat) (lack : Int) (h : List Int),j ∉ l→(giveS lack l h)[j]? = h[j]?:=by
     intro l
     induction l with
     |nil=>intros;rfl
     |cons i l ih=>
      intro lack h hj
      unfold giveS
      split
      ·rfl
      ·rw [ih _ _ (fun e=>hj (by simp [e])),List.getElem?_set_ne (fun e=>hj (by simp [e]))]
    rw [key l _ _ (List.nodup_cons.1 hn).1] at hx
    have hj:=hi j (by simp)
    rw [List.getElem?_set_self hj] at hx
    have:=hb (gd h j) (by simp [gd,List.getElem?_eq_getElem hj])
    cases hx
    omega
   ·have h2:=giveS_range (B:=B) l (lack - p) (h.set i (gd h i + p))
    by_cases hC2 : True
    ·have e : (giveS (lack - p) l (h.set i (gd h i + p)))[j]? = (giveS (lack - p) l (h.set i (gd h i)))[j]?:=by
      have key : ∀ (l : List Nat) (lack : Int) (h h' : List Int),i ∉ l→(∀ q,q ≠ i→h[q]? = h'[q]?)→h.length = h'.length→∀ q,q ≠ i→(giveS lack l h)[q]? = (giveS lack l h')[q]?:=by
       intro l
       induction l with
       |nil=>intro lack h h' _ hh _ q hq;exact hh q hq
       |cons a l ih=>
        intro lack h h' hil hh hlen q hq
        unfold giveS
        split
        ·exact hh q hq
        ·have ha : a ≠ i:=fun e=>hil (by simp [e])
         have eg : gd h a = gd h' a:=by simp [gd,hh a ha]
         refine ih _ _ _ (fun e=>hil (by simp [e])) (fun q hq=>?_) (by simp [hlen]) q hq
         rw [eg]
         by_cases haq : a = q
         ·subst haq
          by_cases hlt : a < h.length
          ·rw [List.getElem?_set_self hlt,List.getElem?_set_self (by omega)]
          ·rw [List.getElem?_eq_none (by simp;omega),List.getElem?_eq_none (by simp;omega)]
         ·rw [List.getElem?_set_ne haq,List.getElem?_set_ne haq,hh q hq]
      refine key l _ _ _ (List.nodup_cons.1 hn).1 (fun q hq=>?_) (by simp) j hji
      rw [List.getElem?_set_ne (Ne.symm hq),List.getElem?_set_ne (Ne.symm hq)]
     rw [e] at hx
     have hii:=hi i (by simp)
     have hset : h.set i (gd h i) = h:=by
      apply List.ext_getElem?
      intro q
      by_cases hq : i = q
      ·subst hq;rw [List.getElem?_set_self hii];simp [gd,List.getElem?_eq_getElem hii]
      ·rw [List.getElem?_set_ne hq]
     rw [hset] at hx
     exact giveS_range l (lack - p) h hb (List.nodup_cons.1 hn).2 (fun q hq=>hi q (by simp [hq])) C hC (by omega) j x hx
    ·exact absurd trivial hC2
theorem autosF_nodup : ∀ (l : List Itm) (i : Nat),(autosF i l).Nodup
 | [],_=>List.nodup_nil
 |it :: l,i=>by
  unfold autosF
  split
  ·refine List.nodup_cons.2 ⟨fun h=>?_,autosF_nodup l (i + 1)⟩
   have:=autosF_mem l (i + 1) i h;omega
  ·exact autosF_nodup l (i + 1)
def broughtL : List Itm→List Int→Int
 |it :: l,h :: hs=>intoS h it + broughtL l hs
 |_,_=>0
theorem broughtL_app : ∀ (l : List Itm) (h : List Int) (m : List Itm) (k : List Int),h.length = l.length→broughtL (l ++ m) (h ++ k) = broughtL l h + broughtL m k
 | [],[],m,k,_=>by simp [broughtL]
 | [],_ :: _,_,_,e=>by simp at e
 |_ :: _,[],_,_,e=>by simp at e
 |it :: l,x :: h,m,k,e=>by
  simp only [List.cons_append,broughtL]
  rw [broughtL_app l h m k (by simpa using e)]
  omega
def spreadS (items : List Itm) (has : List Int) (size gap : Int) : List Int :=
 if items.any (fun it=>it.k == 3) = true then has
 else giveS (size - gap * ((items.length : Int) - 1) - broughtL items has) (autosF 0 items) has
theorem spreadS_len (items : List Itm) (has : List Int) (size gap : Int) : (spreadS items has size gap).length = has.length:=by
 unfold spreadS
 split
 ·rfl
 ·exact giveS_len _ _ _
theorem broughtL_nonneg : ∀ (l : List Itm) (h : List Int),(∀ it ∈ l,FItm it)→0≤broughtL l h
 | [],_,_=>by simp [broughtL]
 |_ :: _,[],_=>by simp [broughtL]
 |it :: l,x :: h,hf=>by
  have h1:=hf it (by simp)
  have h2:=broughtL_nonneg l h (fun y hy=>hf y (by simp [hy]))
  obtain ⟨k1,k2,k3,k4,k5,_⟩:=h1
  simp only [broughtL]
  unfold intoS
  split
  ·have:=k5 (by assumption);omega
  ·omega
theorem spreadS_range {items : List Itm} {has : List Int} {size gap B : Int} (hf : ∀ it ∈ items,FItm it) (hl : has.length = items.length) (hb : ∀ x ∈ has,0≤x∧x≤B) (hs : 0≤size∧size≤4096) (hg : 0≤gap) (hn : items ≠ []) : ∀ x ∈ spreadS items has size gap,0≤x∧x≤B + 4096:=by
 intro x hx
 unfold spreadS at hx
 split at hx
 ·have:=hb x hx;omega
 ·obtain ⟨j,hj⟩:=List.mem_iff_getElem?.1 hx
  have h0:=broughtL_nonneg items has hf
  have h1 : 0≤gap * ((items.length : Int) - 1):=Int.mul_nonneg hg (by have:=List.length_pos_iff.2 hn;omega)
  exact giveS_range (B:=B) _ _ has hb (autosF_nodup items 0) (fun i hi=>by have:=autosF_mem items 0 i hi;omega) 4096 (by omega) (by omega) j x hj
def needS (N : Int) (n : Ned) : Option Ned:=if n.a < 0∨N≤n.a∨n.s < 1 then none else some ⟨n.a,min n.s (N - n.a),within3S n.z 0 4096⟩
def hasS (it : Itm) : Int:=if it.k = 1 then intoS it.n it else it.mn
def ones1 (items : List Itm) : List Ned→List Int→List Int
 | [],h=>h
 |n :: l,h=>
  match needS items.length n with
  |none=>ones1 items l h
  |some m=>if 1 < m.s then ones1 items l h else if (gd items m.a.toNat).k = 0 then ones1 items l (h.set m.a.toNat (max (gd h m.a.toNat) m.z)) else ones1 items l h
def wides (N : Int) : List Ned→List Ned
 | []=>[]
 |n :: l=>
  match needS N n with
  |none=>wides N l
  |some m=>if 1 < m.s then m :: wides N l else wides N l
def segS (l : List Int) (a : Nat) (s : List Int) : List Int:=l.take a ++ s ++ l.drop (a + s.length)
theorem segS_len {l s : List Int} {a : Nat} (h : a + s.length≤l.length) : (segS l a s).length = l.length:=by
 unfold segS
 simp only [List.length_append,List.length_take,List.length_drop]
 omega
def spreads (items : List Itm) (gap : Int) : List Ned→List Int→List Int
 | [],h=>h
 |n :: l,h=>spreads items gap l (segS h n.a.toNat (spreadS ((items.drop n.a.toNat).take n.s.toNat) ((h.drop n.a.toNat).take n.s.toNat) n.z gap))
def fixI (it : Itm) (h : Int) : Itm:=if it.k = 0 then ⟨1,min h 4096,0,it.mn,it.mx⟩ else it
noncomputable def hasAll (items : List Itm) (needs : List Ned) (gap : Int) : List Int :=
 spreads items gap (stableS ltN (wides items.length needs)) (ones1 items needs (items.map hasS))
noncomputable def tracksG (items : List Itm) (needs : List Ned) (extent gap : Int) : List Int :=
 if 4096 < items.length then []
 else sizesS (List.zipWith fixI (items.map normI) (hasAll (items.map normI) needs (within3S gap 0 4096))) (within3S extent 0 4096) (within3S gap 0 4096)
def beginsF (gap : Int) : Int→List Int→List Int
 |a,[]=>[a]
 |a,n :: l=>a :: beginsF gap (a + within3S n 0 4096 + gap) l
theorem beginsF_len (gap : Int) : ∀ (l : List Int) (a : Int),(beginsF gap a l).length = l.length + 1
 | [],_=>rfl
 |n :: l,a=>by unfold beginsF;rw [List.length_cons,beginsF_len gap l];rfl
def stretchS (at' : List Int) (gap from' many : Int) : Option (Int × Int) :=
 let n : Int:=(at'.length : Int) - 1
 let m1:=max many 1
 let m2:=if from' < 0 then m1 + from' else m1
 let f:=if from' < 0 then 0 else from'
 if n≤f∨m2 < 1 then none
 else
  let m:=min m2 (n - f)
  some (gd at' f.toNat,gd at' (f + m).toNat - gap - gd at' f.toNat)
structure Rct where
 x : Int
 y : Int
 w : Int
 h : Int
instance : Inhabited Rct:=⟨⟨0,0,0,0⟩⟩
def rectS (x y : List Int) (gap : Int) (s : Spn) : Rct :=
 match stretchS x gap s.c s.cs,stretchS y gap s.r s.rs with
 |some a,some b=>⟨a.1,b.1,a.2,b.2⟩
 |_,_=>⟨0,0,0,0⟩
def rectsG (cols rows : List Int) (gap : Int) (spans : List Spn) : List Rct :=
 if 4096 < cols.length∨4096 < rows.length∨4096 < spans.length then []
 else spans.map (rectS (beginsF (within3S gap 0 4096) 0 cols) (beginsF (within3S gap 0 4096) 0 rows) (within3S gap 0 4096))
end Go.Proofs.YthhomflonpjbmaaGreatDoor
/-
 Rows of structs in a block of the call's own.
-/
namespace Go.Proofs.YthhomflonpjbmaaGreatDoor
open Go.RowKit
section
variable {V α : Type}
def flatC (c : α→List V) : List α→List V
 | []=>[]
 |x :: l=>c x ++ flatC c l
def setMany : List V→Nat→List V→List V
 |cs,_,[]=>cs
 |cs,o,v :: vs=>setMany (cs.set o v) (o + 1) vs
theorem setMany_behind (a : List V) : ∀ (vs cs : List V) (o : Nat),setMany (a ++ cs) (a.length + o) vs = a ++ setMany cs o vs
 | [],_,_=>rfl
 |v :: vs,cs,o=>by
  rw [setMany,setMany,List.set_append_right _ _ (by omega),show a.length + o - a.length = o by omega,Nat.add_assoc]
  exact setMany_behind a vs (cs.set o v) (o + 1)
theorem setMany_ahead : ∀ (vs a : List V) (cs d : List V),a.length = vs.length→setMany (d ++ (a ++ cs)) d.length vs = d ++ (vs ++ cs)
 | [],a,cs,d,h=>by
  obtain rfl : a = []:=List.length_eq_zero_iff.1 (by simpa using h)
  rfl
 |v :: vs,[],cs,d,h=>by simp at h
 |v :: vs,x :: a,cs,d,h=>by
  rw [setMany,List.set_append_right _ _ (Nat.le_refl _),Nat.sub_self]
  have:=setMany_ahead vs a cs (d ++ [v]) (by simpa using h)
  simp only [List.cons_append,List.set_cons_zero,List.length_append,List.length_cons,List.length_nil,List.append_assoc,List.nil_append] at this ⊢
  exact this
theorem flatC_len {c : α→List V} {m : Nat} (hc : ∀ x,(c x).length = m) : ∀ l : List α,(flatC c l).length = l.length * m
 | []=>by simp [flatC]
 |x :: l=>by simp only [flatC,List.length_append,List.length_cons];rw [flatC_len hc l,hc,Nat.succ_mul,Nat.add_comm]
theorem flatC_get {c : α→List V} {m : Nat} (hc : ∀ x,(c x).length = m) : ∀ (l : List α) (i j : Nat) (x : α),l[i]? = some x→j < m→(flatC c l)[i * m + j]? = (c x)[j]?
 | [],i,j,x,h,_=>by simp at h
 |y :: l,0,j,x,h,hj=>by
  simp at h
  subst h
  rw [flatC,Nat.zero_mul,Nat.zero_add,List.getElem?_append_left (by rw [hc];exact hj)]
 |y :: l,i + 1,j,x,h,hj=>by
  rw [flatC,List.getElem?_append_right (by rw [hc,Nat.succ_mul];omega),hc,show (i + 1) * m + j - m = i * m + j by rw [Nat.succ_mul];omega]
  exact flatC_get hc l i j x (by simpa using h) hj
theorem flatC_set {c : α→List V} {m : Nat} (hc : ∀ x,(c x).length = m) (x : α) : ∀ (l : List α) (i : Nat),i < l.length→flatC c (l.set i x) = setMany (flatC c l) (i * m) (c x)
 | [],i,h=>by simp at h
 |y :: l,0,_=>by
  have:=setMany_ahead (c x) (c y) (flatC c l) [] (by rw [hc,hc])
  simp only [List.nil_append,List.length_nil] at this
  rw [List.set_cons_zero,flatC,flatC,Nat.zero_mul]
  exact this.symm
 |y :: l,i + 1,h=>by
  have ih:=flatC_set hc x l i (by simpa using h)
  have:=setMany_behind (c y) (c x) (flatC c l) (i * m)
  rw [hc] at this
  rw [List.set_cons_succ,flatC,flatC,ih,show (i + 1) * m = m + i * m by rw [Nat.succ_mul,Nat.add_comm]]
  exact this.symm
theorem flatC_app (c : α→List V) : ∀ (l k : List α),flatC c (l ++ k) = flatC c l ++ flatC c k
 | [],_=>rfl
 |x :: l,k=>by simp only [List.cons_append,flatC];rw [flatC_app c l k,List.append_assoc]
theorem flatC_rep [Inhabited V] {c : α→List V} {m : Nat} (hc : ∀ x,(c x).length = m) (hm : 0 < m) (z : α) (n q : Nat) (hq : q < n * m) : (flatC c (List.replicate n z))[q]? = (c z)[q % m]?:=by
 have h1 : q / m < n:=(Nat.div_lt_iff_lt_mul hm).2 hq
 have:=flatC_get hc (List.replicate n z) (q / m) (q % m) z (by rw [List.getElem?_replicate,if_pos h1]) (Nat.mod_lt _ hm)
 rwa [Nat.div_add_mod'] at this
def partZ (z : α) (l : List α) (k : Nat) : List α:=l.take k ++ List.replicate (l.length - k) z
theorem partZ_len {z : α} {l : List α} {k : Nat} (h : k≤l.length) : (partZ z l k).length = l.length:=by simp [partZ,List.length_take];omega
theorem partZ_zero (z : α) (l : List α) : partZ z l 0 = List.replicate l.length z:=by simp [partZ]
theorem partZ_full {z : α} {l : List α} {k : Nat} (h : k = l.length) : partZ z l k = l:=by subst h;simp [partZ]
theorem partZ_get {z : α} {l : List α} {k : Nat} (h : k < l.length) : (partZ z l k)[k]? = some z:=by
 unfold partZ
 rw [List.getElem?_append_right (by rw [List.length_take];omega),List.length_take,Nat.min_eq_left (by omega),Nat.sub_self,List.getElem?_replicate,if_pos (by omega)]
theorem partZ_set {z : α} {l : List α} {k : Nat} {x : α} (h : l[k]? = some x) : (partZ z l k).set k x = partZ z l (k + 1):=by
 obtain ⟨h1,rfl⟩:=List.getElem?_eq_some_iff.1 h
 unfold partZ
 have hk : (l.take k).length = k:=by rw [List.length_take];omega
 rw [List.set_append_right _ _ (by rw [hk];exact Nat.le_refl _),hk,Nat.sub_self,show l.length - k = (l.length - (k + 1)) + 1 by omega,List.replicate_succ,List.set_cons_zero,List.take_succ_eq_append_getElem h1,List.append_assoc]
 rfl
end
def Itm.cells (i : Itm) : List Value:=[.int .i8 i.k,.int .i64 i.n,.int .i64 i.d,.int .i64 i.mn,.int .i64 i.mx]
theorem Itm.cells_len (i : Itm) : i.cells.length = 5:=rfl
abbrev itm0 : Itm:=⟨0,0,0,0,0⟩
abbrev ArrT (W : World) (b : Nat) (l : List Itm) : Prop:=Arr W b (flatC Itm.cells l) 40
section
variable {W : World} {b : Nat} {l : List Itm}
theorem ArrT.at (h : ArrT W b l) {i : Nat} {x : Itm} (hi : l[i]? = some x) : ItmAt W b (i * 5) x:=by
 have g:=fun j hj=>flatC_get Itm.cells_len l i j x hi hj
 exact ⟨h.cell (j:=i * 5) (by have:=g 0 (by omega);simpa [Itm.cells] using this),h.cell (j:=i * 5 + 1) (by rw [g 1 (by omega)];rfl),h.cell (j:=i * 5 + 2) (by rw [g 2 (by omega)];rfl),h.cell (j:=i * 5 + 3) (by rw [g 3 (by omega)];rfl),h.cell (j:=i * 5 + 4) (by rw [g 4 (by omega)];rfl)⟩
theorem ArrT.put (h : ArrT W b l) {i : Nat} (hi : i < l.length) (x : Itm) :
  ArrT (((((W.setCell ⟨b,i * 5,none⟩ (.int .i8 x.k)).setCell ⟨b,i * 5 + 1,none⟩ (.int .i64 x.n)).setCell ⟨b,i * 5 + 2,none⟩ (.int .i64 x.d)).setCell ⟨b,i * 5 + 3,none⟩ (.int .i64 x.mn)).setCell ⟨b,i * 5 + 4,none⟩ (.int .i64 x.mx)) b (l.set i x):=by
 have:=((((h.set (i * 5) (.int .i8 x.k)).set (i * 5 + 1) (.int .i64 x.n)).set (i * 5 + 2) (.int .i64 x.d)).set (i * 5 + 3) (.int .i64 x.mn)).set (i * 5 + 4) (.int .i64 x.mx)
 unfold ArrT
 rw [flatC_set Itm.cells_len x l i hi]
 exact this
theorem ArrT.to (h : ArrT W b l) {l' : List Itm} (e : l = l') : ArrT W b l':=e ▸ h
theorem ArrT.sl (h : ArrT W b l) (hl : l.length≤4398046511104) (c : Nat) : SlT W (.slice (some ⟨b,0,none⟩) l.length c) l :=
 ⟨_,c,rfl,hl,fun i x hi=>⟨b,0,rfl,h.lt,by rw [Nat.zero_add];exact h.at hi⟩⟩
end
theorem made_flat {α : Type} {c : α→List Value} {m : Nat} (hc : ∀ x,(c x).length = m) (hm : 0 < m) (z : α) (n : Nat) : (madeCells (c z).toArray (n * m)).toList = flatC c (List.replicate n z):=by
 apply List.ext_getElem?
 intro q
 by_cases hq : q < n * m
 ·rw [flatC_rep hc hm z n q hq]
  have h1 : q % m < (c z).length:=by rw [hc];exact Nat.mod_lt _ hm
  simp [madeCells,hq,hc,List.getElem?_eq_getElem h1,getElem!_def]
 ·rw [List.getElem?_eq_none (by simp [madeCells];omega),List.getElem?_eq_none (by rw [flatC_len hc,List.length_replicate];omega)]
theorem ArrT.made (W : World) (n : Nat) : ArrT (W.alloc (.cells (madeCells #[.int .i8 0,.int .i64 0,.int .i64 0,.int .i64 0,.int .i64 0] (n * 5)) 40)) W.heap.size (List.replicate n itm0):=by
 unfold ArrT Arr
 rw [heap_alloc_new,← made_flat Itm.cells_len (by omega) itm0 n]
 rfl
theorem mk_items (N : Nat) (hN : N≤4096) (w : World) : (Instr.makeSlice 44 (.int .i64 N) (.int .i64 N)).run Tryz.prog w = .ok (.slice (some ⟨w.heap.size,0,none⟩) N N) (w.alloc (.cells (madeCells #[.int .i8 0,.int .i64 0,.int .i64 0,.int .i64 0,.int .i64 0] (N * 5)) 40)):=by
 obtain ⟨i0,hi,hz0,hz1,hz2⟩:=info_parts (P:=Tryz.prog) (show (Tryz.prog.info? 40).map (fun i=>(i.zero,i.size,i.bytes)) = some (some (.agg #[.int .i8 0,.int .i64 0,.int .i64 0,.int .i64 0,.int .i64 0]),5,40) by kernel_rfl)
 have:=run_make (P:=Tryz.prog) w 44 40 i0 _ Tryz.underlying44 hi hz0 .i64 .i64 N N (by omega) (Int.le_refl _) (by rw [hz2];omega) (by omega)
 rw [hz1] at this
 simpa [Value.cells] using this
end Go.Proofs.YthhomflonpjbmaaGreatDoor
/-
 The walks of measure's sum and greatest at any rows.
-/
namespace Go.Proofs.YthhomflonpjbmaaGreatDoor
open Go.RowKit
def sumS (l : List Int) (gap : Int) : Int:=gap * max 0 ((l.length : Int) - 1) + sumL l
def greatS : List Int→Int→Int
 | [],m=>m
 |x :: l,m=>greatS l (max m x)
theorem greatS_drop {l : List Int} {a : Nat} {x m : Int} (h : l[a]? = some x) : greatS (l.drop a) m = greatS (l.drop (a + 1)) (max m x):=by
 obtain ⟨h1,rfl⟩:=List.getElem?_eq_some_iff.1 h
 rw [List.drop_eq_getElem_cons h1]
 rfl
set_option maxRecDepth 100000 in
set_option maxHeartbeats 4000000 in
theorem greatest_any (v : Value) (l : List Int) (w : World) (hv : SlI w v l) (hl : l.length≤1048576) :
  Calls Tryz.prog 37 #[v] w (VRet (.int .i64 (greatS l 0)) w):=by
 obtain ⟨p,c,rfl,_,hx⟩:=hv
 have HX:=zH hx
 clear hx
 go_enter Tryz.func37,Tryz.ntmps37
 go_wp2
 go_loopw [8,3] (fun i s wr=>∃ (a : Nat) (m : Int),i = .int .i64 a∧a≤l.length∧s = .int .i64 m∧wr = w∧greatS (l.drop a) m = greatS l 0) (fun i _ _=>l.length - (intOf i).toNat)
 case atStart=>exact ⟨0,0,rfl,by omega,rfl,by first | rfl | trivial,rfl⟩
 case round=>
  obtain ⟨a,m,rfl,hle,rfl,rfl,hG⟩:=hrel
  have HG:=zH hG
  clear hG
  by_cases hlt : a < l.length
  ·have hltI : (a : Int) < (l.length : Int):=by omega
   obtain ⟨x,hx⟩ : ∃ x,l[a]? = some x:=⟨_,List.getElem?_eq_getElem hlt⟩
   obtain ⟨g,o,rfl,hg,hc⟩:=HX.out a x hx
   have HS:=zH (greatS_drop (m:=m) hx)
   clear hx
   go_wp2
   go_roundw
   case rel=>exact ⟨a + 1,max m x,by first | rfl | go_num,by omega,rfl,by first | rfl | trivial,by rw [← HS.out,HG.out]⟩
   case measure=>simp [intOf] <;> omega
  ·have hlt' : decide ((a : Int) < (l.length : Int)) = false:=decide_eq_false (by omega)
   obtain rfl : a = l.length:=by omega
   have HE : Hid (m = greatS l 0):=zH (by rw [← HG.out,List.drop_length];rfl)
   go_wp2
   go_ret
   exact ⟨by rw [← HE.out];rfl,rfl⟩
end Go.Proofs.YthhomflonpjbmaaGreatDoor
/-
 The walk of measure.frame at any node.
-/
namespace Go.Proofs.YthhomflonpjbmaaGreatDoor
open Go.RowKit
def lineS (bd : Int) : Int:=if bd = 0 then 0 else 2
def fxS (x : ND) : Int:=if x.kd = 11 then 0 else x.p1 + x.p3 + lineS x.bd
def fyS (x : ND) : Int:=if x.kd = 11 then 0 else x.p0 + x.p2 + lineS x.bd
set_option maxRecDepth 100000 in
set_option maxHeartbeats 4000000 in
theorem frame_any (w : World) (g o : Nat) (x : ND) (kv cv : Value) (h : NodeV w g o x kv cv) (hp0 : 0≤x.p0∧x.p0≤4096) (hp1 : 0≤x.p1∧x.p1≤4096) (hp2 : 0≤x.p2∧x.p2≤4096) (hp3 : 0≤x.p3∧x.p3≤4096) :
  Calls Tryz.prog 24 #[.pointer (some ⟨g,o,none⟩)] w (VBel (.tuple #[.int .i64 (fxS x),.int .i64 (fyS x)]) w):=by
 have a1:=h.kd
 have a16:=h.p0
 have a17:=h.p1
 have a18:=h.p2
 have a19:=h.p3
 have a20:=h.bd
 clear h
 by_cases hk : x.kd = 11
 ·have HX : Hid (fxS x = 0):=zH (by unfold fxS;rw [if_pos hk])
  have HY : Hid (fyS x = 0):=zH (by unfold fyS;rw [if_pos hk])
  rw [hk] at a1
  go_enter Tryz.func24,Tryz.ntmps24
  go_wp2
  go_ret2
  exact ⟨by rw [HX.out,HY.out];rfl,by (repeat (first | exact Below.refl _ _ | assumption | refine below_drewN ?_ _ | refine Below.drew ?_ | (refine Below.alloc ?_ ?bs _;(case bs=>first | omega | (simp;done) | (simp;omega))) | (refine Below.setCell ?_ ?bs _;(case bs=>first | omega | (simp;done) | (simp;omega)))))⟩
 ·have e1 : (x.kd == 11) = false:=by rw [beq_eq_false_iff_ne];exact hk
  by_cases hb : x.bd = 0
  ·have HX : Hid (fxS x = x.p1 + x.p3 + 0):=zH (by unfold fxS lineS;rw [if_neg hk,if_pos hb])
   have HY : Hid (fyS x = x.p0 + x.p2 + 0):=zH (by unfold fyS lineS;rw [if_neg hk,if_pos hb])
   rw [hb] at a20
   go_enter Tryz.func24,Tryz.ntmps24
   go_upto_region 6 with (fail)
   go_quiet (fail)
   go_wp2
   go_ret2
   exact ⟨by rw [HX.out,HY.out];simp,by (repeat (first | exact Below.refl _ _ | assumption | refine below_drewN ?_ _ | refine Below.drew ?_ | (refine Below.alloc ?_ ?bs _;(case bs=>first | omega | (simp;done) | (simp;omega))) | (refine Below.setCell ?_ ?bs _;(case bs=>first | omega | (simp;done) | (simp;omega)))))⟩
  ·have HX : Hid (fxS x = x.p1 + x.p3 + 2):=zH (by unfold fxS lineS;rw [if_neg hk,if_neg hb])
   have HY : Hid (fyS x = x.p0 + x.p2 + 2):=zH (by unfold fyS lineS;rw [if_neg hk,if_neg hb])
   have e2 : (x.bd == 0) = false:=by rw [beq_eq_false_iff_ne];exact hb
   go_enter Tryz.func24,Tryz.ntmps24
   go_upto_region 6 with (fail)
   go_quiet (fail)
   go_wp2
   go_ret2
   exact ⟨by rw [HX.out,HY.out];rfl,by (repeat (first | exact Below.refl _ _ | assumption | refine below_drewN ?_ _ | refine Below.drew ?_ | (refine Below.alloc ?_ ?bs _;(case bs=>first | omega | (simp;done) | (simp;omega))) | (refine Below.setCell ?_ ?bs _;(case bs=>first | omega | (simp;done) | (simp;omega)))))⟩
def barS (x : ND) : Int:=if (bits .and .u8 x.fl 2 != 0) = true then 1 else 0
set_option maxRecDepth 100000 in
set_option maxHeartbeats 4000000 in
theorem bar_any (w : World) (g o : Nat) (x : ND) (kv cv : Value) (h : NodeV w g o x kv cv) : Calls Tryz.prog 62 #[.pointer (some ⟨g,o,none⟩)] w (VBel (.int .i64 (barS x)) w):=by
 have a1:=h.fl
 clear h
 obtain ⟨r,hr⟩ : ∃ r,barS x = r:=⟨_,rfl⟩
 rw [hr]
 unfold barS at hr
 go_enter Tryz.func62,Tryz.ntmps62
 go_wp2
 all_goals
  go_ret
  refine ⟨?_,by (repeat (first | exact Below.refl _ _ | assumption | refine below_drewN ?_ _ | refine Below.drew ?_ | (refine Below.alloc ?_ ?bs _;(case bs=>first | omega | (simp;done) | (simp;omega))) | (refine Below.setCell ?_ ?bs _;(case bs=>first | omega | (simp;done) | (simp;omega)))))⟩
  subst hr
  simp_all
end Go.Proofs.YthhomflonpjbmaaGreatDoor
/-
 What a measure says of the nodes of any tree, plainly.
-/
namespace Go.Proofs.YthhomflonpjbmaaGreatDoor
abbrev nd0 : ND:=⟨0,ByteArray.empty,ByteArray.empty,[],default,default,0,0,0,0,0,0,0,0,ByteArray.empty,0,0,0,0,0,[],0,0,0,0,0⟩
def ndF (ns : List ND) (k : Int) : ND:=(ns[k.toNat]?).getD nd0
theorem ndF_eq {ns : List ND} {i : Nat} {x : ND} (h : ns[i]? = some x) : ndF ns (i : Int) = x:=by unfold ndF;rw [Int.toNat_natCast,h];rfl
abbrev FN:=Int→Int→Int→Int
def wishS (it : Itm) (v : Int) : Int:=intoS (if it.k = 1 then it.n else v) it
def lwS (ns : List ND) (f : FN) (k : Int) : Int:=wishS (ndF ns k).wd (f k 0 0)
def mwS (ns : List ND) (f : FN) (k : Int) : Int:=wishS (ndF ns k).wd (f k 1 0)
def highS (ns : List ND) (f : FN) (k w : Int) : Int:=wishS (ndF ns k).ht (f k 2 (sideS w))
def acrossW (ns : List ND) (f : FN) (how iw k : Int) : Int :=
 if (ndF ns k).wd.k = 0∧how ≠ 5 then mwS ns f k else if (ndF ns k).wd.k = 1 then (ndF ns k).wd.n else if (ndF ns k).wd.k = 2 then (ndF ns k).wd.n * iw / (ndF ns k).wd.d else iw
def acrossM (ns : List ND) (f : FN) (how iw k : Int) : Int:=min (intoS (acrossW ns f how iw k) (ndF ns k).wd) iw
def autoI (it : Itm) : Itm:=if it.k = 2∨it.k = 3 then ⟨0,0,0,it.mn,it.mx⟩ else it
def alongI (ns : List ND) (f : FN) (k : Int) : Itm :=
 if (ndF ns k).wd.k = 0 then ⟨1,mwS ns f k,0,min (lwS ns f k) (mwS ns f k),(ndF ns k).wd.mx⟩ else (ndF ns k).wd
noncomputable def alongS (ns : List ND) (f : FN) (x : ND) (iw : Int) : List Int:=sizesS (x.kids.map (alongI ns f)) iw x.gap
def tallRow (hi : Int→Int→Int) : List Int→List Int→Int→Int
 |w :: ws,k :: ks,m=>tallRow hi ws ks (max m (hi k w))
 |_,_,m=>m
def placeI (ns : List ND) (k : Int) : Spn:=⟨max (ndF ns k).x0 0 - 1,max (ndF ns k).x1 0 - 1,(ndF ns k).x2,(ndF ns k).x3⟩
def placesM (ns : List ND) (x : ND) : List Spn:=gflow (x.kids.map (placeI ns)) x.cols.length
noncomputable def tracksM (ns : List ND) (x : ND) (cols : List Itm) (h : Int→Int) (iw : Int) : List Int :=
 tracksG cols (List.zipWith (fun (s : Spn) k=>(⟨s.c,s.cs,h k⟩ : Ned)) (placesM ns x) x.kids) iw x.gap
def manyS : List Spn→Int→Int
 | [],m=>m
 |s :: l,m=>manyS l (min (max m (s.r + s.rs)) 4096)
noncomputable def rowsM (ns : List ND) (f : FN) (x : ND) (iw : Int) : List Int :=
 tracksG (List.replicate (manyS (placesM ns x) 0).toNat itm0)
  (List.zipWith (fun (s : Spn) (q : Int × Rct)=>(⟨s.r,s.rs,highS ns f q.1 q.2.w⟩ : Ned)) (placesM ns x) (x.kids.zip (rectsG (tracksM ns x x.cols (mwS ns f) iw) (List.replicate (manyS (placesM ns x) 0).toNat 1) x.gap (placesM ns x)))) 4096 x.gap
def blankB (b : UInt8) : Bool:=b == 32 || b == 9 || b == 10 || b == 13
def wordsF : List UInt8→Bool→Nat→Nat
 | [],_,n=>n
 |b :: l,was,n=>wordsF l (!blankB b) (if blankB b = false∧was = false then n + 1 else n)
structure TabF where
 ls : ND→Int
 ms : ND→Int
 hs : ND→Int→Int
def kid0 (x : ND) (h : Int→Int) : Int :=
 match x.kids with
 | []=>0
 |k :: _=>h k
noncomputable def leastW (T : TabF) (ns : List ND) (f : FN) (x : ND) : Int :=
 if x.kd = 1 then leastS x.md (flowS x.tx.data.toList)
 else if x.kd = 2 then sumS (x.kids.map (lwS ns f)) x.gap
 else if x.kd = 3∨x.kd = 5 then greatS (x.kids.map (lwS ns f)) 0
 else if x.kd = 4 then sumS (tracksM ns x (x.cols.map autoI) (lwS ns f) 4096) x.gap
 else if x.kd = 6 then 1 + barS x
 else if x.kd = 8 then T.ls x
 else 1
noncomputable def mostW (T : TabF) (ns : List ND) (f : FN) (x : ND) : Int :=
 if x.kd = 1 then leastS 2 (flowS x.tx.data.toList)
 else if x.kd = 2 then sumS (x.kids.map (mwS ns f)) x.gap
 else if x.kd = 3∨x.kd = 5 then greatS (x.kids.map (mwS ns f)) 0
 else if x.kd = 4 then sumS (tracksM ns x (x.cols.map autoI) (mwS ns f) 4096) x.gap
 else if x.kd = 6 then kid0 x (fun k=>f k 1 0) + barS x
 else if x.kd = 8 then T.ms x
 else if x.kd = 10 then max 1 (wordsF x.tx.data.toList false 0 : Nat)
 else if x.kd = 11 then 1
 else 10
noncomputable def tallW (T : TabF) (ns : List ND) (f : FN) (x : ND) (iw : Int) : Int :=
 if x.kd = 1 then tallS x.md iw.toNat x.tx
 else if x.kd = 2 then tallRow (highS ns f) (alongS ns f x iw) x.kids 0
 else if x.kd = 3 then sumS (x.kids.map fun k=>highS ns f k (acrossM ns f x.cr iw k)) x.gap
 else if x.kd = 5 then greatS (x.kids.map fun k=>highS ns f k (acrossM ns f x.al iw k)) 0
 else if x.kd = 4 then sumS (rowsM ns f x iw) x.gap
 else if x.kd = 6 then kid0 x (fun k=>f k 2 (sideS (max (max (f k 0 0) (iw - barS x)) 0)))
 else if x.kd = 8 then T.hs x iw
 else if x.kd = 10 then 4
 else 1
noncomputable def workS (T : TabF) (ns : List ND) (f : FN) (n y w : Int) : Int :=
 if y = 0 then sideS (leastW T ns f (ndF ns n) + fxS (ndF ns n))
 else if y = 1 then sideS (mostW T ns f (ndF ns n) + fxS (ndF ns n))
 else sideS (tallW T ns f (ndF ns n) (max 0 (w - fxS (ndF ns n))) + fyS (ndF ns n))
noncomputable def numF (T : TabF) (ns : List ND) : Nat→FN
 | 0=>fun _ _ _=>0
 |q + 1=>workS T ns (numF T ns q)
noncomputable def measF (T : TabF) (ns : List ND) : FN:=numF T ns ns.length
section
variable {T : TabF} {ns : List ND} {f g : FN}
theorem lw_agree {k : Int} (h : f k = g k) : lwS ns f k = lwS ns g k:=by unfold lwS;rw [h]
theorem mw_agree {k : Int} (h : f k = g k) : mwS ns f k = mwS ns g k:=by unfold mwS;rw [h]
theorem high_agree {k : Int} (h : f k = g k) : highS ns f k = highS ns g k:=by funext w;unfold highS;rw [h]
theorem across_agree {k : Int} (h : f k = g k) (how iw : Int) : acrossM ns f how iw k = acrossM ns g how iw k:=by unfold acrossM acrossW;rw [mw_agree h]
theorem along_agree {k : Int} (h : f k = g k) : alongI ns f k = alongI ns g k:=by unfold alongI;rw [mw_agree h,lw_agree h]
theorem tallRow_agree {hi hj : Int→Int→Int} : ∀ (ws ks : List Int) (m : Int),(∀ k ∈ ks,hi k = hj k)→tallRow hi ws ks m = tallRow hj ws ks m
 | [],_,_,_=>by simp [tallRow]
 |_ :: _,[],_,_=>by simp [tallRow]
 |w :: ws,k :: ks,m,h=>by
  simp only [tallRow]
  rw [h k (by simp),tallRow_agree ws ks _ (fun z hz=>h z (by simp [hz]))]
theorem zip_agree {α β γ : Type} {u v : α→β→γ} : ∀ (l : List α) (m : List β),(∀ a,∀ b ∈ m,u a b = v a b)→List.zipWith u l m = List.zipWith v l m
 | [],_,_=>by simp
 |_ :: _,[],_=>by simp
 |a :: l,b :: m,h=>by
  simp only [List.zipWith_cons_cons]
  rw [h a b (by simp),zip_agree l m (fun a z hz=>h a z (by simp [hz]))]
theorem tracks_agree {x : ND} {cols : List Itm} {h h' : Int→Int} {iw : Int} (e : ∀ k ∈ x.kids,h k = h' k) : tracksM ns x cols h iw = tracksM ns x cols h' iw:=by
 unfold tracksM
 rw [zip_agree _ _ (fun (s : Spn) k hk=>by rw [e k hk])]
theorem rows_agree {x : ND} {iw : Int} (e : ∀ k ∈ x.kids,f k = g k) : rowsM ns f x iw = rowsM ns g x iw:=by
 unfold rowsM
 rw [tracks_agree (h:=mwS ns f) (h':=mwS ns g) (fun k hk=>mw_agree (e k hk))]
 rw [zip_agree _ _ (fun (s : Spn) (q : Int × Rct) hq=>by rw [high_agree (e q.1 (List.of_mem_zip hq).1)])]
theorem kid0_agree {x : ND} {h h' : Int→Int} (e : ∀ k ∈ x.kids,h k = h' k) : kid0 x h = kid0 x h':=by
 unfold kid0
 split
 ·rfl
 ·rename_i k l hk
  exact e k (by rw [hk];simp)
theorem least_agree {x : ND} (e : ∀ k ∈ x.kids,f k = g k) : leastW T ns f x = leastW T ns g x:=by
 unfold leastW
 rw [List.map_congr_left (fun k hk=>lw_agree (ns:=ns) (e k hk)),tracks_agree (fun k hk=>lw_agree (ns:=ns) (e k hk))]
theorem most_agree {x : ND} (e : ∀ k ∈ x.kids,f k = g k) : mostW T ns f x = mostW T ns g x:=by
 unfold mostW
 rw [List.map_congr_left (fun k hk=>mw_agree (ns:=ns) (e k hk)),tracks_agree (fun k hk=>mw_agree (ns:=ns) (e k hk)),kid0_agree (fun k hk=>by rw [e k hk])]
theorem tall_agree {x : ND} {iw : Int} (e : ∀ k ∈ x.kids,f k = g k) : tallW T ns f x iw = tallW T ns g x iw:=by
 unfold tallW
 have h1 : alongS ns f x iw = alongS ns g x iw:=by
  unfold alongS
  rw [List.map_congr_left (fun k hk=>along_agree (ns:=ns) (e k hk))]
 have h2 : ∀ how,(x.kids.map fun k=>highS ns f k (acrossM ns f how iw k)) = (x.kids.map fun k=>highS ns g k (acrossM ns g how iw k)):=fun how=>
  List.map_congr_left fun k hk=>by rw [high_agree (e k hk),across_agree (e k hk)]
 rw [h1,h2,h2,rows_agree e,tallRow_agree _ _ _ (fun k hk=>high_agree (ns:=ns) (e k hk)),kid0_agree (fun k hk=>by rw [e k hk])]
theorem work_agree {n : Int} (e : ∀ k ∈ (ndF ns n).kids,f k = g k) : workS T ns f n = workS T ns g n:=by
 funext y w
 unfold workS
 rw [least_agree e,most_agree e,tall_agree e]
def KidsOk (ns : List ND) : Prop:=∀ (i : Nat) x,ns[i]? = some x→∀ k ∈ x.kids,(i : Int) < k∧k < ns.length
theorem num_same (hk : KidsOk ns) : ∀ (q q' i : Nat),i < ns.length→ns.length - i≤q→ns.length - i≤q'→numF T ns q (i : Int) = numF T ns q' (i : Int)
 | 0,_,_,h,h1,_=>by omega
 |_ + 1,0,_,h,_,h2=>by omega
 |q + 1,q' + 1,i,h,h1,h2=>by
  have hx : ns[i]? = some ns[i]:=List.getElem?_eq_getElem h
  simp only [numF]
  refine work_agree fun k hkk=>?_
  rw [ndF_eq hx] at hkk
  have:=hk i _ hx k hkk
  obtain ⟨j,rfl⟩ : ∃ j : Nat,k = j:=⟨k.toNat,by omega⟩
  exact num_same hk q q' j (by omega) (by omega) (by omega)
theorem meas_work (hk : KidsOk ns) {i : Nat} (hi : i < ns.length) : measF T ns (i : Int) = workS T ns (measF T ns) (i : Int):=by
 have h : measF T ns (i : Int) = numF T ns (ns.length + 1) (i : Int):=num_same hk _ _ i hi (by omega) (by omega)
 rw [h]
 rfl
theorem work_range (n y w : Int) : 0≤workS T ns f n y w∧workS T ns f n y w≤4096:=by
 unfold workS
 split
 ·exact sideS_range _
 ·split <;> exact sideS_range _
theorem num_range : ∀ (q : Nat) (n y w : Int),0≤numF T ns q n y w∧numF T ns q n y w≤4096
 | 0,_,_,_=>⟨Int.le_refl 0,by simp [numF]⟩
 |_ + 1,n,y,w=>work_range n y w
theorem meas_range (n y w : Int) : 0≤measF T ns n y w∧measF T ns n y w≤4096:=num_range _ n y w
end
end Go.Proofs.YthhomflonpjbmaaGreatDoor
/-
 append of a whole slice on an empty slice of the call's own: a row of its own with the same elements.
-/
namespace Go.Proofs.YthhomflonpjbmaaGreatDoor
open Go.RowKit
theorem run_append_none {P : Program} (w : World) (t ty e : TypeId) (i : TypeInfo) (ht : P.underlying t = some (.slice e)) (hi : P.info? e = some i) (g c : Nat) :
  (Builtin.append_ #[t,t] ty #[.slice (some ⟨g,0,none⟩) 0 0,.slice none 0 c]).run P w = .ok (.slice (some ⟨g,0,none⟩) 0 0) w:=by
 simp [Builtin.append_,run_underlying ht,sizeOf,typeInfo,hi,Builtin.lenOf,Builtin.firstCells,Addr.add_lit,storeCells]
theorem wpList_append_all {ops : Array Oper} {rest : List Oper} {a : Act} {Q : Exit→Act→World→Prop} {W : World} {dst : Option Tmp} {ty : TypeId} {s x : Operand} {pos : String} {after : Array Edge} {z : Value} {news : List Value} {p : Option Addr} {g n c T e sz bytes : Nat}
  (E : ElOK T e sz bytes z) (hs : a.eval s = .slice (some ⟨g,0,none⟩) 0 0) (hg : g = W.heap.size) (hx : a.eval x = .slice p n c)
  (hnews : 0 < n→∃ gx ox,p = some ⟨gx,ox,none⟩∧∀ j u,news[j]? = some u→(W.alloc (.cells #[] e)).cell? ⟨gx,ox + j,none⟩ = some u)
  (hl : news.length = n * sz) (h1 : ∀ u ∈ news,u.oneCell' = true) (hn : n≤1000000)
  (h : ∀ v' w',w'.ownsRow W.heap.size e sz v' n news→v' ≠ .slice none 0 0→Below W.heap.size W w'→∀ K : Act→World→Prop,(∀ a w,wpList Tryz.prog ops Q rest a w→K a w)→K (a.put dst v') w') :
  wpList Tryz.prog ops Q ({ dst:=dst,op:=.call { callee:=.builtin .append,args:=#[s,x],argTypes:=#[T,T] },type:=ty,pos:=pos,after:=after,guard:=none } :: rest) a (W.alloc (.cells #[] e)):=by
 obtain ⟨i0,hi,hz0,hz1,hz2⟩:=info_parts E.hI
 subst hg
 have hb:=E.hb
 have hrow : (W.alloc (.cells #[] e)).ownsRow W.heap.size e sz (.slice (some ⟨W.heap.size,0,none⟩) 0 0) 0 []:=World.ownsRow_made W #[] 0 (Nat.le_refl _) (Nat.zero_le _) (by simp)
 have hB0 : Below W.heap.size W (W.alloc (.cells #[] e)):=Below.alloc (Below.refl _ _) (Nat.le_refl _) _
 refine wpList_plain rfl fun K hK=>?_
 by_cases h0 : p = none
 ·subst h0
  have hn0 : n = 0:=by
   rcases Nat.eq_zero_or_pos n with h | h
   ·exact h
   ·obtain ⟨_,_,e,_⟩:=hnews h;cases e
  subst hn0
  obtain rfl : news = []:=List.length_eq_zero_iff.1 (by simpa using hl)
  have hr:=run_append_none (P:=Tryz.prog) (W.alloc (.cells #[] e)) T ty e i0 E.hT hi W.heap.size c
  unfold Oper.wp execOp
  simp only [resolve,invoke,builtin,Sem.run_bind,Sem.run_pure,Result.andThen_ok,List.map_toArray,List.map_cons,List.map_nil,hs,hx,hr]
  exact h _ _ hrow (by simp) hB0 _ hK
 ·obtain ⟨ad,rfl⟩ : ∃ ad,p = some ad:=by
   cases p with
   |none=>exact absurd rfl h0
   |some ad=>exact ⟨ad,rfl⟩
  have hnw : ∀ (j : Nat) u,news[j]? = some u→(W.alloc (.cells #[] e)).cell? (ad.add j) = some u:=fun j u hj=>by
   have hj1:=(List.getElem?_eq_some_iff.1 hj).1
   have hn0 : 0 < n:=by
    rcases Nat.eq_zero_or_pos n with h | h
    ·subst h;simp at hl;subst hl;simp at hj
    ·exact h
   obtain ⟨gx,ox,e1,e2⟩:=hnews hn0
   obtain rfl:=Option.some.inj e1
   rw [show (⟨gx,ox,none⟩ : Addr).add j = ⟨gx,ox + j,none⟩ by simp [Addr.add]]
   exact e2 j u hj
  obtain ⟨v',w',hr,r1,r2,r3⟩:=run_append_own (P:=Tryz.prog) (w:=W.alloc (.cells #[] e)) W.heap.size T ty e i0 z sz bytes E.hT hi hz0 hz1 hz2 E.hz E.hs _ 0 [] hrow ad n c news hl hnw h1 (by simp [maxLen];omega) (by
   have : (0 + n) * bytes≤1000000 * 64:=Nat.mul_le_mul (by omega) hb
   omega) (by simp)
  unfold Oper.wp execOp
  simp only [resolve,invoke,builtin,Sem.run_bind,Sem.run_pure,Result.andThen_ok,List.map_toArray,List.map_cons,List.map_nil,hs,hx,hr]
  rw [Nat.zero_add,List.nil_append] at r1
  exact h _ _ r1 (fun e=>by have:=(r3.1 e).1;simp at this) (hB0.grown r2 (by simp) (fun k e=>by
   have : W.heap.size = k:=by simpa [Value.ownBlock] using e
   omega)) _ hK
theorem elT : ElOK 44 40 5 40 (.agg #[.int .i8 0,.int .i64 0,.int .i64 0,.int .i64 0,.int .i64 0]):=⟨Tryz.underlying44,by kernel_rfl,rfl,by decide,by decide⟩
theorem slt_news {W : World} {v : Value} {l : List Itm} (h : SlT W v l) : ∃ p c,v = .slice p l.length c∧l.length≤4398046511104∧(0 < l.length→∃ g o,p = some ⟨g,o,none⟩∧g < W.heap.size∧∀ j u,(flatC Itm.cells l)[j]? = some u→W.cell? ⟨g,o + j,none⟩ = some u):=by
 obtain ⟨p,c,rfl,hl,hx⟩:=h
 refine ⟨p,c,rfl,hl,fun h0=>?_⟩
 obtain ⟨g,o,rfl,hg,_⟩:=hx 0 _ (List.getElem?_eq_getElem h0)
 refine ⟨g,o,rfl,hg,fun j u hj=>?_⟩
 have hj1:=(List.getElem?_eq_some_iff.1 hj).1
 rw [flatC_len Itm.cells_len] at hj1
 have hi : j / 5 < l.length:=by omega
 have e:=flatC_get Itm.cells_len l (j / 5) (j % 5) _ (List.getElem?_eq_getElem hi) (Nat.mod_lt _ (by decide))
 rw [Nat.div_add_mod'] at e
 rw [e] at hj
 obtain ⟨g',o',e',_,hc⟩:=hx (j / 5) _ (List.getElem?_eq_getElem hi)
 obtain ⟨rfl,rfl⟩ : g = g'∧o = o':=by simpa using e'
 have hm : j % 5 < 5:=Nat.mod_lt _ (by decide)
 have hd : j = j / 5 * 5 + j % 5:=(Nat.div_add_mod' j 5).symm
 generalize j % 5 = m at hj hm hd
 rw [hd,← Nat.add_assoc]
 obtain ⟨c0,c1,c2,c3,c4⟩:=hc
 match m,hm with
 | 0,_=>obtain rfl:=Option.some.inj hj;exact c0
 | 1,_=>obtain rfl:=Option.some.inj hj;exact c1
 | 2,_=>obtain rfl:=Option.some.inj hj;exact c2
 | 3,_=>obtain rfl:=Option.some.inj hj;exact c3
 | 4,_=>obtain rfl:=Option.some.inj hj;exact c4
theorem one_items (l : List Itm) : ∀ u ∈ flatC Itm.cells l,u.oneCell' = true:=by
 intro u hu
 induction l with
 |nil=>simp [flatC] at hu
 |cons x l ih=>
  rcases List.mem_append.1 hu with h | h
  ·simp only [Itm.cells,List.mem_cons,List.not_mem_nil,or_false] at h
   rcases h with rfl | rfl | rfl | rfl | rfl <;> rfl
  ·exact ih h
structure RowT (W : World) (B b cap : Nat) (l : List Itm) : Prop where
 at' : ∀ (i : Nat) x,l[i]? = some x→ItmAt W b (i * 5) x
 froz : ∀ j,W.frozen? ⟨b,j,none⟩ = false
 lt : b < W.heap.size
 low : B≤b
theorem RowT.below {W W' : World} {B b cap : Nat} {l : List Itm} (h : RowT W B b cap l) (hb : Below W.heap.size W W') : RowT W' B b cap l :=
 ⟨fun i x hx=>(h.at' i x hx).below hb h.lt,fun j=>(hb.frozen (p:=⟨b,j,none⟩) h.lt).trans (h.froz j),Nat.lt_of_lt_of_le h.lt hb.size,h.low⟩
theorem RowT.of_owns {W : World} {B n : Nat} {v : Value} {l : List Itm} (h : W.ownsRow B 40 5 v n (flatC Itm.cells l)) (hl : l.length = n) (hv : v ≠ .slice none 0 0) : ∃ b cap,v = .slice (some ⟨b,0,none⟩) n cap∧n≤cap∧RowT W B b cap l:=by
 rcases h.2 with ⟨rfl,_⟩ | ⟨g,cap,cur,rfl,hb,hg,hn,hc,hs,ht⟩
 ·exact absurd rfl hv
 ·refine ⟨g,cap,rfl,hn,⟨fun i x hx=>?_,fun j=>frozen_of_row W g j cur _ hg,(Array.getElem?_eq_some_iff.1 hg).1,hb⟩⟩
  have hi:=(List.getElem?_eq_some_iff.1 hx).1
  have hc2 : ∀ j,j < 5→W.cell? ⟨g,i * 5 + j,none⟩ = x.cells[j]?:=fun j hj=>by
   rw [World.ownsRow.cellAt h (i * 5 + j) (by omega)]
   exact flatC_get Itm.cells_len l i j x hx hj
  exact ⟨by have:=hc2 0 (by omega);rw [Nat.add_zero] at this;exact this,hc2 1 (by omega),hc2 2 (by omega),hc2 3 (by omega),hc2 4 (by omega)⟩
theorem setCell_otherP {W : World} {b b' : Nat} (hne : b ≠ b') (q j : Nat) (v : Value) : (W.setCell ⟨b',j,none⟩ v).cell? ⟨b,q,none⟩ = W.cell? ⟨b,q,none⟩:=World.cell?_of_block (heap_setCell_other W ⟨b',j,none⟩ b v hne)
theorem ItmAt.setO {W : World} {g o j : Nat} {x : Itm} {v : Value} (h : ItmAt W g o x) (hj : j < o∨o + 5≤j) : ItmAt (W.setCell ⟨g,j,none⟩ v) g o x:=by
 have e : ∀ q,o≤q→q < o + 5→(W.setCell ⟨g,j,none⟩ v).cell? ⟨g,q,none⟩ = W.cell? ⟨g,q,none⟩:=fun q h1 h2=>World.cell?_setCell_other _ _ _ _ (by intro e;injection e with e1 e2;omega)
 exact ⟨(e _ (by omega) (by omega)).trans h.k,(e _ (by omega) (by omega)).trans h.n,(e _ (by omega) (by omega)).trans h.d,(e _ (by omega) (by omega)).trans h.mn,(e _ (by omega) (by omega)).trans h.mx⟩
theorem cell_setH {W : World} {a : Addr} {u v : Value} (h : W.cell? a = some u) : (W.setCell a v).cell? a = some v:=World.cell?_setCell_same _ _ _ h
theorem cell_setF {W : World} {g j q : Nat} {v : Value} (h : j ≠ q) : (W.setCell ⟨g,j,none⟩ v).cell? ⟨g,q,none⟩ = W.cell? ⟨g,q,none⟩:=World.cell?_setCell_other _ _ _ _ (by intro e;injection e with e1 e2;exact h e2)
theorem RowT.put {W : World} {B b cap : Nat} {l : List Itm} (h : RowT W B b cap l) {i : Nat} (hi : i < l.length) (y : Itm) :
  RowT (((((W.setCell ⟨b,i * 5,none⟩ (.int .i8 y.k)).setCell ⟨b,i * 5 + 1,none⟩ (.int .i64 y.n)).setCell ⟨b,i * 5 + 2,none⟩ (.int .i64 y.d)).setCell ⟨b,i * 5 + 3,none⟩ (.int .i64 y.mn)).setCell ⟨b,i * 5 + 4,none⟩ (.int .i64 y.mx)) B b cap (l.set i y):=by
 refine ⟨fun j x hx=>?_,fun j=>by simp only [World.frozen?_setCell];exact h.froz j,by simp [World.setCell];exact h.lt,h.low⟩
 by_cases e : i = j
 ·subst e
  rw [List.getElem?_set_self hi] at hx
  obtain rfl:=Option.some.inj hx
  obtain ⟨c0,c1,c2,c3,c4⟩:=h.at' i _ (List.getElem?_eq_getElem hi)
  refine ⟨?_,?_,?_,?_,?_⟩
  ·rw [cell_setF (by omega),cell_setF (by omega),cell_setF (by omega),cell_setF (by omega)];exact cell_setH c0
  ·rw [cell_setF (by omega),cell_setF (by omega),cell_setF (by omega)];exact cell_setH ((cell_setF (by omega)).trans c1)
  ·rw [cell_setF (by omega),cell_setF (by omega)];exact cell_setH (((cell_setF (by omega)).trans (cell_setF (by omega))).trans c2)
  ·rw [cell_setF (by omega)];exact cell_setH ((((cell_setF (by omega)).trans (cell_setF (by omega))).trans (cell_setF (by omega))).trans c3)
  ·exact cell_setH (((((cell_setF (by omega)).trans (cell_setF (by omega))).trans (cell_setF (by omega))).trans (cell_setF (by omega))).trans c4)
 ·rw [List.getElem?_set_ne e] at hx
  have:=h.at' j x hx
  have hd : i * 5 + 5≤j * 5∨j * 5 + 5≤i * 5:=by omega
  exact ((((this.setO (by omega)).setO (by omega)).setO (by omega)).setO (by omega)).setO (by omega)
theorem RowT.sl {W : World} {B b cap : Nat} {l : List Itm} (h : RowT W B b cap l) (hl : l.length≤4398046511104) (c : Nat) : SlT W (.slice (some ⟨b,0,none⟩) l.length c) l :=
 ⟨_,c,rfl,hl,fun i x hi=>⟨b,0,rfl,h.lt,by rw [Nat.zero_add];exact h.at' i x hi⟩⟩
theorem RowT.to {W : World} {B b cap : Nat} {l l' : List Itm} (h : RowT W B b cap l) (e : l = l') : RowT W B b cap l':=e ▸ h
end Go.Proofs.YthhomflonpjbmaaGreatDoor
/-
 The walk of solve.fill: its memory; its first loop.
-/
namespace Go.Proofs.YthhomflonpjbmaaGreatDoor
open Go.RowKit
theorem elI : ElOK 38 3 1 8 (.int .i64 0):=⟨Tryz.underlying38,by kernel_rfl,rfl,by decide,by decide⟩
theorem sli_row {W : World} {B : Nat} {v : Value} {o : List Int} (h : W.ownsRow B 3 1 v o.length (ivl o)) (hl : o.length≤17592186044416) : SlI W v o:=by
 rcases h.2 with ⟨rfl,h0⟩ | ⟨g,cap,cur,rfl,hb,hg,hn,hc,hs,ht⟩
 ·exact ⟨none,0,by rw [h0],hl,fun i x hi=>by obtain ⟨h1,_⟩:=List.getElem?_eq_some_iff.1 hi;omega⟩
 ·refine ⟨some ⟨g,0,none⟩,cap,rfl,hl,fun i x hi=>⟨g,0,rfl,(Array.getElem?_eq_some_iff.1 hg).1,?_⟩⟩
  have h1 : i < o.length:=(List.getElem?_eq_some_iff.1 hi).1
  have:=World.ownsRow.cellAt h i (by omega)
  rw [Nat.zero_add,this]
  simp [hi]
structure FM (W0 : World) (lb sb : Nat) (l : List Itm) (sz : List Int) (vo : Value) (o : List Int) (W : World) : Prop where
 it : ∀ (i : Nat) x,l[i]? = some x→ItmAt W lb (i * 5) x
 sz : ArrI W sb sz
 op : W.ownsRow W0.heap.size 3 1 vo o.length (ivl o)
 nb : sb < W0.heap.size
 nl : lb < W0.heap.size
 ne : lb ≠ sb
 g : W0.grownBy W (some sb)
section
variable {W0 W W' : World} {lb sb : Nat} {l : List Itm} {sz : List Int} {vo : Value} {o : List Int}
theorem FM.below (h : FM W0 lb sb l sz vo o W) (hb : Below W.heap.size W W') : FM W0 lb sb l sz vo o W' :=
 ⟨fun i x hx=>(h.it i x hx).below hb (Nat.lt_of_lt_of_le h.nl h.g.size),h.sz.below hb,orow_belowSize h.op hb,h.nb,h.nl,h.ne,grown_trans h.g (grown_below hb)⟩
theorem FM.put (h : FM W0 lb sb l sz vo o W) (i : Nat) (x : Int) : FM W0 lb sb l (sz.set i x) vo o (W.setCell ⟨sb,i,none⟩ (.int .i64 x)) :=
 ⟨fun j y hy=>(h.it j y hy).of_eq fun q=>World.cell?_of_block (heap_setCell_other W ⟨sb,i,none⟩ lb _ h.ne),h.sz.put i x,
  h.op.kept (grown_set W sb i _) (by
   cases hv : vo.ownBlock with
   |none=>exact .inl rfl
   |some k=>right;intro e;have:=h.op.lt k hv;have:=h.nb;simp at e;omega),h.nb,h.nl,h.ne,grown_trans h.g (grown_set W sb i _)⟩
theorem FM.app {v' : Value} {x : Int} (h : FM W0 lb sb l sz vo o W) (hr : W'.ownsRow W0.heap.size 3 1 v' (o.length + 1) (ivl o ++ [.int .i64 x])) (hg : W.grownBy W' vo.ownBlock) : FM W0 lb sb l sz v' (o ++ [x]) W':=by
 have hlt : ∀ k,vo.ownBlock = some k→W0.heap.size≤k:=fun k hk=>(h.op.lt k hk).1
 refine ⟨fun i y hy=>(h.it i y hy).of_eq fun q=>World.cell?_of_block (hg.block lb (Nat.lt_of_lt_of_le h.nl h.g.size) fun e=>by have:=hlt lb e.symm;have:=h.nl;omega),h.sz.grown hg (fun e=>by have:=hlt sb e.symm;have:=h.nb;omega),by simpa [ivl] using hr,h.nb,h.nl,h.ne,?_⟩
 exact ⟨hg.os.trans h.g.os,hg.tape.trans h.g.tape,hg.output.trans h.g.output,Nat.le_trans h.g.size hg.size,fun i hi hn=>by rw [hg.block i (Nat.lt_of_lt_of_le hi h.g.size) (fun e=>by have:=hlt i e.symm;omega)];exact h.g.block i hi hn⟩
theorem FM.sl (h : FM W0 lb sb l sz vo o W) (hl : o.length≤17592186044416) : SlI W vo o:=sli_row h.op hl
theorem FM.form (h : FM W0 lb sb l sz vo o W) : ∃ p c,vo = .slice p o.length c:=by
 rcases h.op.2 with ⟨rfl,h0⟩ | ⟨g,cap,cur,rfl,_⟩
 ·exact ⟨none,0,by rw [h0]⟩
 ·exact ⟨_,cap,rfl⟩
theorem FM.at {p : Option Addr} {n c : Nat} (h : FM W0 lb sb l sz (.slice p n c) o W) {i : Nat} {x : Int} (hi : o[i]? = some x) : ∃ g,p = some ⟨g,0,none⟩∧g < W.heap.size∧W0.heap.size≤g∧W.cell? ⟨g,i,none⟩ = some (.int .i64 x):=by
 have h1 : i < o.length:=(List.getElem?_eq_some_iff.1 hi).1
 rcases h.op.2 with ⟨_,h0⟩ | ⟨g,cap,cur,hv,hb,hg,_⟩
 ·omega
 ·obtain ⟨rfl,rfl,rfl⟩ : p = some ⟨g,0,none⟩∧n = o.length∧c = cap:=by simpa using hv
  refine ⟨g,rfl,(Array.getElem?_eq_some_iff.1 hg).1,hb,?_⟩
  rw [World.ownsRow.cellAt h.op i (by omega)]
  simp [hi]
def slen : Value→Nat
 | .slice _ n _=>n
 |_=>0
theorem FM.start {c : Value} (hit : ∀ (i : Nat) x,l[i]? = some x→ItmAt W lb (i * 5) x) (hsz : ArrI W sb sz) (h1 : lb < W.heap.size) (h2 : lb ≠ sb) : FM W lb sb l sz (.slice none 0 0) [] W :=
 ⟨hit,hsz,World.ownsRow_nil _ _ _ _,hsz.lt,h1,h2,World.grownBy.refl _ _⟩
end
theorem bound_agg (y : Itm) (W : World) : Calls Tryz.prog 158 #[.agg #[.int .i8 y.k,.int .i64 y.n,.int .i64 y.d,.int .i64 y.mn,.int .i64 y.mx]] W (VBel (.int .i64 (boundS y)) W):=bound_any y W
theorem sumF_take_succ {α : Type} {f : α→Int} {l : List α} {a : Nat} {x : α} (h : l[a]? = some x) : sumF f (l.take (a + 1)) = sumF f (l.take a) + f x:=by
 obtain ⟨h1,rfl⟩:=List.getElem?_eq_some_iff.1 h
 rw [List.take_succ_eq_append_getElem h1,sumF_append]
 simp [sumF]
theorem sumF_take_range {α : Type} {f : α→Int} {l : List α} {B : Int} (h : ∀ x ∈ l,0≤f x∧f x≤B) (hB : 0≤B) (a : Nat) (hl : l.length≤4096) : 0≤sumF f (l.take a)∧sumF f (l.take a)≤B * 4096:=by
 have:=sumF_range (l:=l.take a) fun x hx=>h x (List.mem_of_mem_take hx)
 refine ⟨this.1,Int.le_trans this.2 (Int.mul_le_mul_of_nonneg_left ?_ hB)⟩
 have h2 : (l.take a).length≤4096:=by rw [List.length_take];omega
 omega
theorem FM.grow {W0 W W' : World} {lb sb q : Nat} {l : List Itm} {sz : List Int} {vo : Value} {o : List Int} (h : FM W0 lb sb l sz vo o W) (hg : W.grownBy W' (some q)) (hq : W0.heap.size≤q) (hne : vo.ownBlock ≠ some q) : FM W0 lb sb l sz vo o W':=by
 have h1:=h.nl
 have h2:=h.nb
 refine ⟨fun i y hy=>(h.it i y hy).of_eq fun r=>World.cell?_of_block (hg.block lb (Nat.lt_of_lt_of_le h.nl h.g.size) fun e=>by simp at e;omega),h.sz.grown hg (fun e=>by simp at e;omega),h.op.kept hg (.inr hne),h.nb,h.nl,h.ne,?_⟩
 exact ⟨hg.os.trans h.g.os,hg.tape.trans h.g.tape,hg.output.trans h.g.output,Nat.le_trans h.g.size hg.size,fun i hi hn=>by rw [hg.block i (Nat.lt_of_lt_of_le hi h.g.size) (fun e=>by simp at e;omega)];exact h.g.block i hi hn⟩
theorem rounds_step {l : List Itm} {f : Nat} {s : GS} {A B : Int} {R : RS} (h0 : s.opn ≠ []) (hA : sumF (aboveF l s.rest s.weight) s.opn = A) (hB : sumF (belowF l s.rest s.weight) s.opn = B) (hz : ¬ (A = 0∧B = 0)) (hR : roundS l s.rest s.weight A B s.opn ⟨[],s.rest,s.weight,s.sz⟩ = R) :
  rounds l (f + 1) s = rounds l f ⟨R.stay,R.left,R.heavy,R.sz⟩:=by
 subst hA hB hR
 simp only [rounds]
 rw [if_neg h0,if_neg hz]
theorem round_next {l : List Itm} (hl : ∀ x ∈ l,FItm x) {s : GS} (h : FI l s) {A B : Int} {R : RS} (hA : sumF (aboveF l s.rest s.weight) s.opn = A) (hB : sumF (belowF l s.rest s.weight) s.opn = B) (hz : ¬ (A = 0∧B = 0)) (hR : roundS l s.rest s.weight A B s.opn ⟨[],s.rest,s.weight,s.sz⟩ = R) :
  FI l ⟨R.stay,R.left,R.heavy,R.sz⟩∧R.stay.length < s.opn.length:=by
 subst hA hB hR
 exact round_inv hl h hz
theorem round_up {l : List Itm} {rest weight a b : Int} {s : RS} {i : Nat} {y : Itm} (hy : gi l (i : Int) = y) (h : b≤a∧weight * boundS y≤rest * y.n) : round1 l rest weight a b s i = ⟨s.stay,s.left - y.mx,s.heavy - y.n,s.sz.set i y.mx⟩:=by
 unfold round1
 rw [if_pos (by unfold isUp;rw [hy];exact h),hy]
 simp
theorem round_dn {l : List Itm} {rest weight a b : Int} {s : RS} {i : Nat} {y : Itm} (hy : gi l (i : Int) = y) (h : ¬ (b≤a∧weight * boundS y≤rest * y.n)) (h2 : a≤b∧rest * y.n≤weight * y.mn) : round1 l rest weight a b s i = ⟨s.stay,s.left - y.mn,s.heavy - y.n,s.sz.set i y.mn⟩:=by
 unfold round1
 rw [if_neg (by unfold isUp;rw [hy];exact h),if_pos (by unfold isDn;rw [hy];exact h2),hy]
 simp
theorem round_no {l : List Itm} {rest weight a b : Int} {s : RS} {i : Nat} {y : Itm} (hy : gi l (i : Int) = y) (h : ¬ (b≤a∧weight * boundS y≤rest * y.n)) (h2 : ¬ (a≤b∧rest * y.n≤weight * y.mn)) : round1 l rest weight a b s i = { s with stay:=s.stay ++ [(i : Int)] }:=by
 unfold round1
 rw [if_neg (by unfold isUp;rw [hy];exact h),if_neg (by unfold isDn;rw [hy];exact h2)]
theorem roundS_drop {l : List Itm} {rest weight a b : Int} {o : List Int} {k : Nat} {x : Int} {s : RS} (h : o[k]? = some x) : roundS l rest weight a b (o.drop k) s = roundS l rest weight a b (o.drop (k + 1)) (round1 l rest weight a b s x):=by
 obtain ⟨h1,rfl⟩:=List.getElem?_eq_some_iff.1 h
 rw [List.drop_eq_getElem_cons h1]
 rfl
structure ST (W0 : World) (lb sb : Nat) (l : List Itm) (sz : List Int) (vs : Value) (stay : List Int) (p : Option Addr) (opn : List Int) (W : World) : Prop where
 m : FM W0 lb sb l sz vs stay W
 r : ∀ (i : Nat) x,opn[i]? = some x→∃ g,p = some ⟨g,0,none⟩∧g < W.heap.size∧W0.heap.size≤g∧W.cell? ⟨g,i,none⟩ = some (.int .i64 x)∧some g ≠ vs.ownBlock
section
variable {W0 W W' : World} {lb sb : Nat} {l : List Itm} {sz : List Int} {vs : Value} {stay opn : List Int} {p : Option Addr}
theorem ST.below (h : ST W0 lb sb l sz vs stay p opn W) (hb : Below W.heap.size W W') : ST W0 lb sb l sz vs stay p opn W' :=
 ⟨h.m.below hb,fun i x hx=>by
  obtain ⟨g,e,hg,h0,hc,hn⟩:=h.r i x hx
  exact ⟨g,e,Nat.lt_of_lt_of_le hg hb.size,h0,by rw [hb.cell (p:=⟨g,i,none⟩) hg];exact hc,hn⟩⟩
theorem ST.put (h : ST W0 lb sb l sz vs stay p opn W) (i : Nat) (x : Int) : ST W0 lb sb l (sz.set i x) vs stay p opn (W.setCell ⟨sb,i,none⟩ (.int .i64 x)) :=
 ⟨h.m.put i x,fun j y hy=>by
  obtain ⟨g,e,hg,h0,hc,hn⟩:=h.r j y hy
  exact ⟨g,e,by simpa using hg,h0,(grown_set W sb i _).cell hc (by have:=h.m.nb;simp;omega),hn⟩⟩
theorem ST.app {v' : Value} {x : Int} (h : ST W0 lb sb l sz vs stay p opn W) (hr : W'.ownsRow W0.heap.size 3 1 v' (stay.length + 1) (ivl stay ++ [.int .i64 x])) (hg : W.grownBy W' vs.ownBlock) (hp : v'.ownBlock = vs.ownBlock∨∃ q,v'.ownBlock = some q∧∀ g,p = some ⟨g,0,none⟩→g ≠ q) : ST W0 lb sb l sz v' (stay ++ [x]) p opn W' :=
 ⟨h.m.app hr hg,fun j y hy=>by
  obtain ⟨g,e,hgs,h0,hc,hn⟩:=h.r j y hy
  refine ⟨g,e,Nat.lt_of_lt_of_le hgs hg.size,h0,hg.cell hc (by simpa using hn),?_⟩
  rcases hp with hp | ⟨q,hq,hne⟩
  ·rw [hp];exact hn
  ·rw [hq];simpa using hne g e⟩
theorem ST.start {n c : Nat} (h : FM W0 lb sb l sz (.slice p n c) opn W) : ST W0 lb sb l sz (.slice none 0 0) [] p opn W :=
 ⟨⟨h.it,h.sz,World.ownsRow_nil _ _ _ _,h.nb,h.nl,h.ne,h.g⟩,fun i x hx=>by
  obtain ⟨g,e,hg,h0,hc⟩:=h.at hx
  exact ⟨g,e,hg,h0,hc,by simp [Value.ownBlock]⟩⟩
end
theorem fill0_ok {l : List Itm} (hl : ∀ x ∈ l,FItm x) {sz : List Int} (hz : SzOk l.length sz) (room : Int) : ∀ k,k≤l.length→
  (fill0 l sz room k).rest≤room∧room - 4096 * k≤(fill0 l sz room k).rest∧0≤(fill0 l sz room k).weight∧(fill0 l sz room k).weight≤1000 * k∧0≤(fill0 l sz room k).most∧(fill0 l sz room k).most≤4096 * k∧
   (fill0 l sz room k).opn.length≤k∧(∀ i ∈ (fill0 l sz room k).opn,0≤i∧i < k∧(gi l i).k = 3)
 | 0,_=>by simp [fill0]
 |k + 1,hk=>by
  obtain ⟨h1,h2,h3,h4,h5,h6,h7,h8⟩:=fill0_ok hl hz room k (by omega)
  have hx:=hl _ (gd_mem (l:=l) (i:=k) (by omega))
  have hs:=hz.2 _ (gd_mem (l:=sz) (i:=k) (by rw [hz.1];omega))
  have e1 : (fill0 l sz room (k + 1)) = fill1 l sz k (fill0 l sz room k):=rfl
  rw [e1]
  unfold fill1
  by_cases hk3 : (gd l k).k = 3
  ·have hn:=hx.2.2.2.2.2 hk3
   have hm1:=hx.2.2.1
   have hm2:=hx.2.2.2.1
   simp only [hk3,if_true]
   refine ⟨h1,by push_cast;omega,by omega,by push_cast;omega,by omega,by push_cast;omega,by simp;omega,fun i hi=>?_⟩
   rcases List.mem_append.1 hi with hi | hi
   ·have:=h8 i hi;push_cast;exact ⟨by omega,by omega,this.2.2⟩
   ·simp at hi
    subst hi
    exact ⟨by omega,by push_cast;omega,by simpa [gi] using hk3⟩
  ·simp only [if_neg hk3]
   refine ⟨by omega,by push_cast;omega,h3,by push_cast;omega,h5,by push_cast;omega,by omega,fun i hi=>?_⟩
   have:=h8 i hi;push_cast;exact ⟨by omega,by omega,this.2.2⟩
end Go.Proofs.YthhomflonpjbmaaGreatDoor
