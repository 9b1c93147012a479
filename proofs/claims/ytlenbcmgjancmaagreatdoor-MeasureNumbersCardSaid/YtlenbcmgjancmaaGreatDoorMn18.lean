import Derived.Test.YtlenbcmgjancmaaGreatDoorMn16
import Derived.Deep.DeepCutAuto
import Derived.Test.YtlenbcmgjancmaaGreatDoorMn04
import Derived.Deep.RegionHeld3
import Derived.Maps.OwnOps
import Derived.DeepKeys4
import Derived.Maps.OwnSet
import Derived.StringKeys
import Derived.Test.YtlenbcmgjancmaaGreatDoorMn17
import Derived.Deep.RegionWith
import Derived.BigQuiet
import Derived.Deep.QuietTactic
set_option linter.unusedVariables false
set_option linter.unusedSimpArgs false
namespace Go.Proofs.YtlenbcmgjancmaaGreatDoor
open Go.RowKit
theorem from_gen (a b:Int) (w:World):Calls Tryz.prog 92 #[.int .i64 a,.int .i64 b] w (VRet (.bool (decide (0≤a∧a≤b))) w):=by
 have:=from_any a b w
 rw [← Bool.decide_and] at this
 exact this
def FieldsP (x:ND):Prop :=
 (0≤x.p0∧x.p0≤4096∧-4096≤x.x0∧x.x0≤4096)∧(0≤x.p1∧x.p1≤4096∧-4096≤x.x1∧x.x1≤4096)∧(0≤x.p2∧x.p2≤4096∧-4096≤x.x2∧x.x2≤4096)∧(0≤x.p3∧x.p3≤4096∧-4096≤x.x3∧x.x3≤4096)∧
 0≤x.gap∧x.gap≤4096∧0≤x.bd∧x.bd≤4∧0≤x.al∧x.al≤5∧0≤x.cr∧x.cr≤5∧0≤x.md∧x.md≤2∧x.fl≤7∧TintP x.fg∧TintP x.bg
instance (x:ND):Decidable (FieldsP x):=by unfold FieldsP;infer_instance
structure X8 (x:ND):Prop where
 bd : -128≤x.bd∧x.bd≤127
 al : -128≤x.al∧x.al≤127
 cr : -128≤x.cr∧x.cr≤127
 md : -128≤x.md∧x.md≤127
set_option maxRecDepth 100000 in
set_option maxHeartbeats 4000000 in
theorem fields_gen (w:World) (g o:Nat) (x:ND) (kv cv:Value) (h:NodeV w g o x kv cv) (h8:X8 x) :
  Calls Tryz.prog 34 #[.pointer (some ⟨g,o,none⟩)] w (VRet (.bool (decide (FieldsP x))) w):=by
 obtain⟨a1,a2,a3,a4,a5,a6,a7,a8,a9,a10,a11,a12,a13,a14,a15,a16,a17,a18,a19,a20,a21,a22,a23,a24,a25,a26,a27,a28,a29,a30,a31,a32,a33,a34⟩:=h
 clear a2 a3 a4 a5 a6 a7 a8 a9 a10 a11 a12 a13 a14 a23 a29
 obtain⟨b8,b9,b10,b11⟩:=h8
 obtain⟨kd,id,cl,kids,wd,ht,gap,p0,p1,p2,p3,bd,al,cr,tx,md,fg,bg,ad,dr,cols,x0,x1,x2,x3,fl⟩:=x
 dsimp only at *
 generalize hr:decide (FieldsP _)=r
 have HR:=zH hr
 clear hr
 go_enter Tryz.func34,Tryz.ntmps34
 go_wp2
 refine wp_loop_rounds 5 ?_
 repeat any_goals (rw [rounds_succ];go_wp2_with (go_at_call 92;((with_reducible refine(from_gen _ _ _).mono ?_);rintro e w1 ⟨rfl,rfl⟩)))
 go_wp2_with (first|(go_at_call 92;((with_reducible refine(from_gen _ _ _).mono ?_);rintro e w1 ⟨rfl,rfl⟩))|(go_at_call 93;((with_reducible refine(tint_any _ _).mono ?_);rintro e w1 ⟨rfl,rfl⟩)))
 all_goals
  go_ret
  refine⟨?_,rfl⟩
  have:=HR.out
  subst this
  refine congrArg (fun b=>Ending.returned (Value.bool b)) ?_
  simp only [beq_iff_eq,Bool.not_eq_true,beq_eq_false_iff_ne,bne_eq_false_iff_eq,bne_iff_ne,ne_eq,decide_eq_true_eq,decide_eq_false_iff_not] at *
  rw [Bool.eq_iff_iff]
  simp only [decide_eq_true_eq,beq_iff_eq,Bool.false_eq_true,true_iff,false_iff,iff_true,iff_false]
  (try unfold FieldsP)
  dsimp only
  (try simp only [TintP] at *)
  try omega
end Go.Proofs.YtlenbcmgjancmaaGreatDoor
namespace Go.Proofs.YtlenbcmgjancmaaGreatDoor
open Go.RowKit
def OkB (i c:Nat):Prop:=(97≤c∧c≤122)∨(65≤c∧c≤90)∨(0<i∧((48≤c∧c≤57)∨c=45∨c=95))
instance (i c:Nat):Decidable (OkB i c):=by unfold OkB;infer_instance
def NameP (s:ByteArray):Prop:=s.size ≠ 0∧s.size≤32∧∀ i,i<s.size→∀ h:i<s.size,OkB i (s[i]).toNat
open Classical in
noncomputable instance (s:ByteArray):Decidable (NameP s):=inferInstance
theorem empty_of_size {s:ByteArray} (h:s.size=0):s=⟨#[]⟩:=by
 obtain⟨⟨l⟩⟩:=s
 have:l.length=0:=h
 obtain rfl:=List.length_eq_zero_iff.1 this
 rfl
set_option maxRecDepth 100000 in
set_option maxHeartbeats 4000000 in
theorem name_any (s:ByteArray) (w:World):Calls Tryz.prog 31 #[.string s] w (VRet (.bool (decide (NameP s))) w):=by
 by_cases h0:s.size=0
 ·obtain rfl:=empty_of_size h0
  have HR:=zH (decide_eq_false fun (h:NameP ⟨#[]⟩)=>h.1 rfl)
  go_enter Tryz.func31,Tryz.ntmps31
  go_wp2
  go_ret
  exact⟨by rw [HR.out];rfl,rfl⟩
 ·by_cases h32:32<s.size
  ·have HR:=zH (decide_eq_false fun (h:NameP s)=>by have:=h.2.1;omega)
   have h0':(s.toList == [])=false:=by
    simp only [beq_eq_false_iff_ne,ne_eq]
    intro h
    exact h0 (by rw [ba_toList h];rfl)
   have h32':(32:Int)<(s.size:Int):=by omega
   go_enter Tryz.func31,Tryz.ntmps31
   go_wp2
   go_ret
   exact⟨by rw [HR.out];rfl,rfl⟩
  ·have h0':(s.toList == [])=false:=by
    simp only [beq_eq_false_iff_ne,ne_eq]
    intro h
    exact h0 (by rw [ba_toList h];rfl)
   have h32':¬ (32:Int)<(s.size:Int):=by omega
   have H0:=zH h0
   have H32:=zH h32
   clear h0 h32
   go_enter Tryz.func31,Tryz.ntmps31
   go_wp2
   go_loopw [3] (fun i wr=>∃ a:Nat,i=.int .i64 a∧a≤s.size∧wr=w∧∀ j,j<a→∀ h:j<s.size,OkB j (s[j]).toNat) (fun i _=>s.size - (intOf i).toNat)
   case atStart=>exact⟨0,rfl,by omega,rfl,fun j h=>by omega⟩
   case round=>
    obtain⟨a,rfl,hle,rfl,hall⟩:=hrel
    have HA:=zH hall
    clear hall h0' h32'
    by_cases hlt:a<s.size
    ·have hltI:(a:Int)<(s.size:Int):=by omega
     have hs32:s.size≤32:=by have:=H32.out;omega
     obtain⟨c,hc⟩:∃ c,(s[a]).toNat=c:=⟨_,rfl⟩
     have HC:=zH hc
     have HOK:Hid (OkB a c→∀ j,j<a+1→∀ h:j<s.size,OkB j (s[j]).toNat):=zH fun ho j hj h=>by
      rcases Nat.lt_or_ge j a with h'|h'
      ·exact HA.out j h' h
      ·obtain rfl:j=a:=by omega
       rw [HC.out];exact ho
     have HNO:Hid (¬ OkB a c→decide (NameP s)=false):=zH fun ho=>decide_eq_false fun h=>ho (by have:=h.2.2 a hlt hlt;rw [HC.out] at this;exact this)
     go_wp2
     all_goals (first|(refine⟨⟨a+1,by first|rfl|go_num,by omega,trivial,HOK.out ?_⟩,by simp [intOf];omega⟩;(try simp only [beq_iff_eq,beq_eq_false_iff_ne,ne_eq] at *);unfold OkB;omega)|(go_ret;refine⟨?_,rfl⟩;rw [HNO.out (by(try simp only [beq_iff_eq,beq_eq_false_iff_ne,ne_eq] at *);unfold OkB;omega)];rfl))
    ·go_wp2
     go_ret
     refine⟨?_,rfl⟩
     have e:NameP s:=⟨H0.out,by have:=H32.out;omega,fun i hi h=>HA.out i (by omega) h⟩
     rw [show decide (NameP s)=true from decide_eq_true e];rfl
end Go.Proofs.YtlenbcmgjancmaaGreatDoor
namespace Go.Proofs.YtlenbcmgjancmaaGreatDoor
open Go.RowKit
end Go.Proofs.YtlenbcmgjancmaaGreatDoor
namespace Go.Proofs.YtlenbcmgjancmaaGreatDoor
open Go.RowKit
end Go.Proofs.YtlenbcmgjancmaaGreatDoor
namespace Go.Proofs.YtlenbcmgjancmaaGreatDoor
open Go.RowKit
theorem and_cell2 {W w':World} {a b:Addr} {u v:Value} (hc:W.cell? a=some u) (hd:W.cell? b=some v) (ha:a.block<W.heap.size) (hb:b.block<W.heap.size) (h:SW W w'):w'.cell? a=some u∧w'.cell? b=some v∧SW W w':=⟨(h.cell (p:=a) ha).trans hc,(h.cell (p:=b) hb).trans hd,h⟩
def tallS (md:Int) (iw:Nat) (t:ByteArray):Nat:=if iw=0 then 0 else linesN md iw (rowsS (flowS t.data.toList))
theorem count_all (s:ByteArray) (w0:Nat) (mode:Int) (hm:mode=0∨mode=1∨mode=2) (h2:w0≤1000000) (hs:s.size≤1000000) (w:World) :
  Calls Tryz.prog 13 #[.string s,.int .i64 w0,.int .i8 mode] w (VBel (.int .i64 (tallS mode w0 s)) w):=by
 unfold tallS
 by_cases h:w0=0
 ·subst h
  rw [if_pos rfl]
  exact(count_zero s 0 mode (by omega) w).mono fun e w' he=>⟨he.1,by rw [he.2];exact Below.refl _ _⟩
 ·rw [if_neg h]
  exact count_any s w0 mode hm (by omega) h2 hs w
end Go.Proofs.YtlenbcmgjancmaaGreatDoor
namespace Go.Proofs.YtlenbcmgjancmaaGreatDoor
open Go.RowKit Go.Maps
theorem own_laid:laidOutB Tryz.prog=true:=by kernel_rfl
theorem key_row:64<Tryz.prog.types.size:=of_decide_eq_true (by kernel_rfl)
theorem key_keyed:Keyed Tryz.prog 64:=Keyed.of_law (deep_law_laid own_laid (m:=3) (by omega) key_row (by kernel_rfl) (by kernel_rfl))
end Go.Proofs.YtlenbcmgjancmaaGreatDoor
namespace Go.Proofs.YtlenbcmgjancmaaGreatDoor
open Go.RowKit Go.Maps
theorem grownBy_drew (w:World) (row:Option Nat):w.grownBy w.drew row:=⟨rfl,rfl,rfl,Nat.le_refl _,fun _ _ _=>rfl⟩
theorem grownBy_drewN (w:World) (n:Nat) (row:Option Nat):w.grownBy (w.drewN n) row:=⟨rfl,rfl,rfl,Nat.le_refl _,fun _ _ _=>rfl⟩
theorem grownBy_below {w w':World} (h:Below w.heap.size w w') (row:Option Nat):w.grownBy w' row:=⟨h.os,h.tape,h.output,h.size,fun k hk _=>h.block k hk⟩
theorem below_grownBy {w w':World} {b B:Nat} (h:w.grownBy w' (some b)) (hb:B≤b) (hB:B≤w.heap.size):Below B w w':=⟨h.os,h.tape,h.output,h.size,fun k hk=>h.block k (by omega) (by intro e;have:=Option.some.inj e;omega)⟩
theorem grownBy_then {w w' w'':World} {row:Option Nat} (h:w.grownBy w' row) (hb:Below w'.heap.size w' w''):w.grownBy w'' row:=World.grownBy.trans h (grownBy_below hb row)
def keyV (n y x:Int):Value:=.agg #[.int .i64 n,.int .i64 y,.int .i64 x]
theorem key_desc:Tryz.prog.keyType 64=true:=by kernel_rfl
theorem key_formed (n y x:Int):(keyV n y x).formed Tryz.prog 64=true:=by kernel_rfl
theorem key_lits (n y x:Int) (hn:(Lit.int .i64 n).wf=true) (hy:(Lit.int .i64 y).wf=true) (hx:(Lit.int .i64 x).wf=true):Tryz.prog.keyLits (Tryz.prog.types.size+1) 64 (keyV n y x).cells.toList=some [.int .i64 n,.int .i64 y,.int .i64 x]:=by
 obtain⟨d,hd⟩:∃ d,Tryz.prog.types.size=d+1:=⟨Tryz.prog.types.size - 1,by have:0<Tryz.prog.types.size:=of_decide_eq_true (by kernel_rfl);omega⟩
 have c3:Tryz.prog.cellsOf 3=1:=by kernel_rfl
 have ck:Tryz.prog.cellsOf 64=3:=by kernel_rfl
 rw [hd]
 simp [Program.keyLits,Tryz.underlying64,Tryz.underlying3,c3,ck,keyV,Value.cells,hn,hy,hx]
theorem key_reads (n y x:Int) (hn:(Lit.int .i64 n).wf=true) (hy:(Lit.int .i64 y).wf=true) (hx:(Lit.int .i64 x).wf=true):∃ kl,keyOf Tryz.prog 64 (keyV n y x)=some kl:=by
 refine⟨.string (keyBytes [.int .i64 n,.int .i64 y,.int .i64 x]),?_⟩
 simp only [keyOf,Tryz.underlying64,key_desc,key_formed,key_lits n y x hn hy hx]
 rfl
def I64 (n:Int):Prop:=-9223372036854775808≤n∧n≤9223372036854775807
theorem keyV_inj {n y x n' y' x':Int} (h:keyV n y x=keyV n' y' x'):n=n'∧y=y'∧x=x':=by
 simpa [keyV] using h
def Known (D:DataW Unit) (f:Int→Int→Int→Int):Prop :=
 ∀ n y x kl,keyOf Tryz.prog 64 (keyV n y x)=some kl→Maps.has D kl=true→D.atKey kl (.lit (.int .i64 0))=.lit (.int .i64 (f n y x))
theorem known_empty (f:Int→Int→Int→Int):Known (.map []) f:=by
 intro n y x kl _ h
 simp [Maps.has] at h
theorem Known.put {D:DataW Unit} {f:Int→Int→Int→Int} (h:Known D f) (hm:IsMap D) {n y x:Int} {kl:Lit} (hk:keyOf Tryz.prog 64 (keyV n y x)=some kl) :
  Known (D.put kl (.lit (.int .i64 (f n y x)))) f:=by
 intro n' y' x' kl' hk' hh
 by_cases e:kl'=kl
 ·subst e
  obtain⟨rfl,rfl,rfl⟩:=keyV_inj (key_keyed.inj hk' hk)
  rw [Maps.atKey_put_same hm (key_keyed.key hk)]
 ·rw [Maps.has_put_other e] at hh
  rw [Maps.atKey_put_other e]
  exact h n' y' x' kl' hk' hh
structure MInv (w:World) (pm g bk bm nn cc K:Nat) (f:Int→Int→Int→Int):Prop where
 c0:w.cell? ⟨pm,0,none⟩=some (.slice (some ⟨g,0,none⟩) nn cc)
 c1:w.cell? ⟨pm,1,none⟩=some (.slice (some ⟨bk,0,none⟩) 12 12)
 c2:w.cell? ⟨pm,2,none⟩=some (.map (some bm))
 k3:w.cell? ⟨bk,3,none⟩=some (.func (.func 48) #[] #[])
 k4:w.cell? ⟨bk,4,none⟩=some (.func (.func 49) #[] #[])
 k5:w.cell? ⟨bk,5,none⟩=some (.func (.func 50) #[] #[])
 k6:w.cell? ⟨bk,6,none⟩=some (.func (.func 51) #[] #[])
 k7:w.cell? ⟨bk,7,none⟩=some (.func (.func 52) #[] #[])
 k8:w.cell? ⟨bk,8,none⟩=some (.func (.func 53) #[] #[])
 np:pm ≠ bm
 nk:bk ≠ bm
 ng:g ≠ bm
 lg:g<w.heap.size
 map:∃ D:DataW Unit,w.ownsMap Tryz.prog 64 (plainElem Tryz.prog 3) bm K D∧Known D f
theorem MInv.lp {w:World} {pm g bk bm nn cc K:Nat} {f:Int→Int→Int→Int} (h:MInv w pm g bk bm nn cc K f):pm<w.heap.size:=World.block_lt_of_cell? w ⟨pm,0,none⟩ h.c0
theorem MInv.lk {w:World} {pm g bk bm nn cc K:Nat} {f:Int→Int→Int→Int} (h:MInv w pm g bk bm nn cc K f):bk<w.heap.size:=World.block_lt_of_cell? w ⟨bk,3,none⟩ h.k3
theorem MInv.lm {w:World} {pm g bk bm nn cc K:Nat} {f:Int→Int→Int→Int} (h:MInv w pm g bk bm nn cc K f):bm<w.heap.size:=by obtain⟨D,h1,_⟩:=h.map;exact h1.lt
theorem MInv.mono {w:World} {pm g bk bm nn cc K K':Nat} {f:Int→Int→Int→Int} (h:MInv w pm g bk bm nn cc K f) (hK:K≤K'):MInv w pm g bk bm nn cc K' f:=by
 obtain⟨D,h1,h2⟩:=h.map
 exact { h with map:=⟨D,h1.mono hK,h2⟩ }
theorem MInv.kept {w w':World} {row:Option Nat} {pm g bk bm nn cc K:Nat} {f:Int→Int→Int→Int} (h:MInv w pm g bk bm nn cc K f) (hg:w.grownBy w' row) (hp:some pm ≠ row) (hk:some bk ≠ row) (hm:some bm ≠ row):MInv w' pm g bk bm nn cc K f:=by
 obtain⟨D,h1,h2⟩:=h.map
 exact⟨hg.cell h.c0 hp,hg.cell h.c1 hp,hg.cell h.c2 hp,hg.cell h.k3 hk,hg.cell h.k4 hk,hg.cell h.k5 hk,hg.cell h.k6 hk,hg.cell h.k7 hk,hg.cell h.k8 hk,h.np,h.nk,h.ng,Nat.lt_of_lt_of_le h.lg hg.size,D,h1.kept hg hm,h2⟩
theorem MInv.below {w w':World} {pm g bk bm nn cc K:Nat} {f:Int→Int→Int→Int} (h:MInv w pm g bk bm nn cc K f) (hb:Below w.heap.size w w'):MInv w' pm g bk bm nn cc K f :=
 h.kept (grownBy_below hb none) (by simp) (by simp) (by simp)
theorem MInv.turned {w w':World} {pm g bk bm nn cc K K':Nat} {f:Int→Int→Int→Int} (h:MInv w pm g bk bm nn cc K f) (hg:w.grownBy w' (some bm)) {D:DataW Unit} (ho:w'.ownsMap Tryz.prog 64 (plainElem Tryz.prog 3) bm K' D) (hk:Known D f):MInv w' pm g bk bm nn cc K' f :=
 ⟨hg.cell h.c0 (by simpa using h.np),hg.cell h.c1 (by simpa using h.np),hg.cell h.c2 (by simpa using h.np),hg.cell h.k3 (by simpa using h.nk),hg.cell h.k4 (by simpa using h.nk),hg.cell h.k5 (by simpa using h.nk),hg.cell h.k6 (by simpa using h.nk),hg.cell h.k7 (by simpa using h.nk),hg.cell h.k8 (by simpa using h.nk),h.np,h.nk,h.ng,Nat.lt_of_lt_of_le h.lg hg.size,D,ho,hk⟩
end Go.Proofs.YtlenbcmgjancmaaGreatDoor
namespace Go.Proofs.YtlenbcmgjancmaaGreatDoor
open Go.RowKit Go.Maps
structure CS where
 tk:List Bool
 dp:List Int
 ids:List (List UInt8)
def kidsC (N n:Nat):List Int→List Bool→List Int→Option (List Bool × List Int)
 | [],tk,dp=>some (tk,dp)
 |k :: r,tk,dp=>if k≤(n:Int)∨(N:Int)≤k∨tk[k.toNat]?=some true then none else kidsC N n r (tk.set k.toNat true) (dp.set k.toNat ((dp[n]?).getD 0+1))
def KBad (kd:Int) (m:Nat):Prop:=((kd<2∨6<kd)∧0<m)∨(kd=6∧m ≠ 1)
instance (kd:Int) (m:Nat):Decidable (KBad kd m):=by unfold KBad;infer_instance
def IdBad (x:ND) (ids:List (List UInt8)):Prop:=x.id.size ≠ 0∧(x.id.data.toList ∈ ids∨¬ NameP x.id)
def ClBad (x:ND):Prop:=x.cl.size ≠ 0∧¬ NameP x.cl
open Classical in
noncomputable def nodeC (N n:Nat) (x:ND) (s:CS):Except Int CS :=
 if x.kd<1∨11<x.kd then .error 101
 else if IdBad x s.ids then .error 105
 else if ClBad x then .error 105
 else match kidsC N n x.kids s.tk s.dp with
  |none=>.error 102
  |some (tk,dp)=>
   if KBad x.kd x.kids.length then .error 102 else if ¬ ItemsP x then .error 104 else if ¬ FieldsP x then .error 106 else if 65536<x.tx.size then .error 3
   else .ok ⟨tk,dp,if x.id.size=0 then s.ids else x.id.data.toList :: s.ids⟩
noncomputable def nodesC (N:Nat):Nat→List ND→CS→Except (Int × Nat) CS
 |_,[],s=>.ok s
 |n,x :: r,s=>match nodeC N n x s with
  | .error e=>.error (e,n)
  | .ok s'=>nodesC N (n+1) r s'
def cs0 (N:Nat):CS:=⟨List.replicate N false,List.replicate N 0,[]⟩
def unTaken (s:CS) (n:Nat):Bool:=decide (1≤n) && !(decide (s.tk[n]?=some true))
def tooDeep (s:CS) (n:Nat):Bool:=decide (64≤(s.dp[n]?).getD 0)
def endC (N:Nat) (s:CS):Int × Nat :=
 match (List.range N).find? (unTaken s) with
 |some n=>(102,n)
 |none=>match (List.range N).find? (tooDeep s) with
  |some n=>(103,n)
  |none=>(0,0)
noncomputable def checkS (ns:List ND):Int × Nat :=
 if ns.length=0∨4096<ns.length then (100,0)
 else match nodesC ns.length 0 ns (cs0 ns.length) with
  | .error p=>p
  | .ok s=>endC ns.length s
theorem checkS_err {ns:List ND} (h:¬ (ns.length=0∨4096<ns.length)) {n:Nat} {x:ND} {s:CS} (hs:nodesC ns.length 0 ns (cs0 ns.length)=nodesC ns.length n (ns.drop n) s) (hx:ns[n]?=some x) {e:Int} (he:nodeC ns.length n x s=.error e):checkS ns=(e,n):=by
 obtain⟨hn,rfl⟩:=List.getElem?_eq_some_iff.1 hx
 unfold checkS
 rw [if_neg h,hs,List.drop_eq_getElem_cons hn]
 simp [nodesC,he]
theorem nodesC_step {N n:Nat} {ns:List ND} {x:ND} {s s':CS} (hx:ns[n]?=some x) (he:nodeC N n x s=.ok s'):nodesC N n (ns.drop n) s=nodesC N (n+1) (ns.drop (n+1)) s':=by
 obtain⟨hn,rfl⟩:=List.getElem?_eq_some_iff.1 hx
 rw [List.drop_eq_getElem_cons hn]
 simp [nodesC,he]
theorem checkS_end {ns:List ND} (h:¬ (ns.length=0∨4096<ns.length)) {s:CS} (hs:nodesC ns.length 0 ns (cs0 ns.length)=.ok s):checkS ns=endC ns.length s:=by
 unfold checkS
 rw [if_neg h,hs]
theorem find_first {p:Nat→Bool} {N a:Nat} (ha:a<N) (hp:p a=true) (hall:∀ j,j<a→p j=false):(List.range N).find? p=some a:=by
 rw [List.find?_range_eq_some]
 exact⟨hp,by simpa using ha,fun j hj=>by simp [hall j hj]⟩
theorem find_none {p:Nat→Bool} {N:Nat} (hall:∀ j,j<N→p j=false):(List.range N).find? p=none:=by
 rw [List.find?_range_eq_none]
 exact fun j hj=>by simp [hall j hj]
def DpOk (dp:List Int):Prop:=∀ (i:Nat) d,dp[i]?=some d→0≤d∧d≤i
theorem DpOk.set {dp:List Int} (h:DpOk dp) {k n:Nat} (hk:n<k):DpOk (dp.set k ((dp[n]?).getD 0+1)):=by
 intro i d hd
 rw [List.getElem?_set] at hd
 split at hd
 ·rename_i e
  subst e
  split at hd
  ·obtain rfl:=Option.some.inj hd
   cases hn:dp[n]? with
   |none=>simp;omega
   |some d'=>have:=h n d' hn;simp;omega
  ·cases hd
 ·exact h i d hd
theorem kidsC_len {N n:Nat}:∀ (l:List Int) (tk:List Bool) (dp:List Int) tk' dp',kidsC N n l tk dp=some (tk',dp')→tk'.length=tk.length∧dp'.length=dp.length
 | [],tk,dp,tk',dp',h=>by simp [kidsC] at h;simp [h]
 |k :: r,tk,dp,tk',dp',h=>by
  simp only [kidsC] at h
  split at h
  ·cases h
  ·have:=kidsC_len r _ _ tk' dp' h
   simpa using this
def SeenM (D:DataW Unit) (ids:List (List UInt8)):Prop :=
 ∀ l:List UInt8,l.length≤maxLen→∃ c:Int,D.atKey (.string l) (.lit (.int .i64 0))=.lit (.int .i64 c)∧(0<c↔l ∈ ids)
theorem seen_empty:SeenM (.map []) []:=fun l _=>⟨0,by simp [DataW.atKey],by simp⟩
theorem str_keyed:Keyed Tryz.prog 9:=string_keyed Tryz.underlying9
theorem seen_put {D:DataW Unit} {ids:List (List UInt8)} (h:SeenM D ids) (hm:IsMap D) (l:List UInt8) (c:Int) (hc:0<c) (hl:l.length≤maxLen) (hk:∃ v,keyOf Tryz.prog 9 v=some (.string l)):SeenM (D.put (.string l) (.lit (.int .i64 c))) (l :: ids):=by
 intro l' hl'
 by_cases e:l'=l
 ·subst e
  refine⟨c,?_,by simp [hc]⟩
  obtain⟨v,hv⟩:=hk
  rw [Maps.atKey_put_same hm (str_keyed.key hv)]
 ·obtain⟨c',h1,h2⟩:=h l' hl'
  refine⟨c',?_,?_⟩
  ·rw [Maps.atKey_put_other (by simpa using e)];exact h1
  ·rw [h2];simp [e]
abbrev bvs (l:List Bool):List Value:=l.map Value.bool
abbrev ivs (l:List Int):List Value:=l.map (Value.int .i64)
structure CkM (w:World) (N b1 b4 b5 bm:Nat) (nv:Value) (K:Nat) (s:CS) (W:World):Prop where
 c1:W.cell? ⟨b1,0,none⟩=some nv
 l1:w.heap.size≤b1
 l4:w.heap.size≤b4
 l5:w.heap.size≤b5
 lm:w.heap.size≤bm
 n14:b1 ≠ b4
 n15:b1 ≠ b5
 n1m:b1 ≠ bm
 n45:b4 ≠ b5
 n4m:b4 ≠ bm
 n5m:b5 ≠ bm
 tl:s.tk.length=N
 dl:s.dp.length=N
 dk:DpOk s.dp
 tk:W.ownsRow w.heap.size 4 1 (.slice (some ⟨b4,0,none⟩) N N) N (bvs s.tk)
 dp:W.ownsRow w.heap.size 3 1 (.slice (some ⟨b5,0,none⟩) N N) N (ivs s.dp)
 mp:∃ D:DataW Unit,W.ownsMap Tryz.prog 9 (plainElem Tryz.prog 3) bm K D∧SeenM D s.ids
 bel:Below w.heap.size w W
theorem CkM.drew {w:World} {N b1 b4 b5 bm:Nat} {nv:Value} {K:Nat} {s:CS} {W:World} (h:CkM w N b1 b4 b5 bm nv K s W) (m:Nat):CkM w N b1 b4 b5 bm nv K s (W.drewN m):=by
 obtain⟨D,h1,h2⟩:=h.mp
 exact⟨h.c1,h.l1,h.l4,h.l5,h.lm,h.n14,h.n15,h.n1m,h.n45,h.n4m,h.n5m,h.tl,h.dl,h.dk,h.tk,h.dp,⟨D,h1,h2⟩,below_drewN h.bel _⟩
theorem CkM.below {w:World} {N b1 b4 b5 bm:Nat} {nv:Value} {K:Nat} {s:CS} {W W':World} (h:CkM w N b1 b4 b5 bm nv K s W) (hb:Below W.heap.size W W'):CkM w N b1 b4 b5 bm nv K s W':=by
 obtain⟨D,h1,h2⟩:=h.mp
 have hg:=grownBy_below hb none
 exact⟨hg.cell h.c1 (by simp),h.l1,h.l4,h.l5,h.lm,h.n14,h.n15,h.n1m,h.n45,h.n4m,h.n5m,h.tl,h.dl,h.dk,orow_belowSize h.tk hb,orow_belowSize h.dp hb,⟨D,h1.kept hg (by simp),h2⟩,h.bel.trans (hb.mono h.bel.size)⟩
theorem CkM.mono {w:World} {N b1 b4 b5 bm:Nat} {nv:Value} {K K':Nat} {s:CS} {W:World} (h:CkM w N b1 b4 b5 bm nv K s W) (hK:K≤K'):CkM w N b1 b4 b5 bm nv K' s W:=by
 obtain⟨D,h1,h2⟩:=h.mp
 exact { h with mp:=⟨D,h1.mono hK,h2⟩ }
theorem CkM.take {w:World} {N b1 b4 b5 bm:Nat} {nv:Value} {K:Nat} {tk:List Bool} {dp:List Int} {ids:List (List UInt8)} {W:World} (h:CkM w N b1 b4 b5 bm nv K ⟨tk,dp,ids⟩ W) {k n:Nat} (hk:n<k) :
  CkM w N b1 b4 b5 bm nv K ⟨tk.set k true,dp.set k ((dp[n]?).getD 0+1),ids⟩ ((W.setCell ⟨b4,k,none⟩ (.bool true)).setCell ⟨b5,k,none⟩ (.int .i64 ((dp[n]?).getD 0+1))):=by
 obtain⟨D,h1,h2⟩:=h.mp
 obtain⟨t1,g1⟩:=h.tk.stored k (.bool true)
 have d1:=h.dp.kept g1 (.inr (by simpa [Value.ownBlock] using fun e=>h.n45 e.symm))
 obtain⟨d2,g2⟩:=d1.stored k (.int .i64 ((dp[n]?).getD 0+1))
 have t2:=t1.kept g2 (.inr (by simpa [Value.ownBlock] using h.n45))
 refine⟨g2.cell (g1.cell h.c1 (by simpa using h.n14)) (by simpa using h.n15),h.l1,h.l4,h.l5,h.lm,h.n14,h.n15,h.n1m,h.n45,h.n4m,h.n5m,by simpa using h.tl,by simpa using h.dl,h.dk.set hk,?_,?_,⟨D,(h1.setCell (a:=⟨b4,k,none⟩) (by simpa using fun e=>h.n4m e.symm) _).setCell (a:=⟨b5,k,none⟩) (by simpa using fun e=>h.n5m e.symm) _,h2⟩,(h.bel.setCell (p:=⟨b4,k,none⟩) h.l4 _).setCell (p:=⟨b5,k,none⟩) h.l5 _⟩
 ·simpa [bvs,List.map_set] using t2
 ·simpa [ivs,List.map_set] using d2
theorem CkM.seen {w:World} {N b1 b4 b5 bm:Nat} {nv:Value} {K:Nat} {tk:List Bool} {dp:List Int} {ids:List (List UInt8)} {W W':World} (h:CkM w N b1 b4 b5 bm nv K ⟨tk,dp,ids⟩ W) (hg:W.grownBy W' (some bm)) {l:List UInt8}
  {D:DataW Unit} (ho:W'.ownsMap Tryz.prog 9 (plainElem Tryz.prog 3) bm (K+1) D) (hs:SeenM D (l :: ids)):CkM w N b1 b4 b5 bm nv (K+1) ⟨tk,dp,l :: ids⟩ W' :=
 ⟨hg.cell h.c1 (by simpa using h.n1m),h.l1,h.l4,h.l5,h.lm,h.n14,h.n15,h.n1m,h.n45,h.n4m,h.n5m,h.tl,h.dl,h.dk,h.tk.kept hg (.inr (by simpa [Value.ownBlock] using h.n4m)),h.dp.kept hg (.inr (by simpa [Value.ownBlock] using h.n5m)),⟨D,ho,hs⟩,
  h.bel.trans (below_grownBy hg h.lm h.bel.size)⟩
end Go.Proofs.YtlenbcmgjancmaaGreatDoor
namespace Go.Proofs.YtlenbcmgjancmaaGreatDoor
theorem kidsC_ok {N n:Nat}:∀ (l:List Int) (tk:List Bool) (dp:List Int) tk' dp',kidsC N n l tk dp=some (tk',dp')→tk.length=N→(∀ k ∈ l,(n:Int)<k∧k<N)∧tk'.count true=tk.count true+l.length∧tk'.length=N
 | [],tk,dp,tk',dp',h,ht=>by
  simp [kidsC] at h
  obtain⟨rfl,_⟩:=h
  exact⟨by simp,by simp,ht⟩
 |k :: r,tk,dp,tk',dp',h,ht=>by
  simp only [kidsC] at h
  split at h
  ·cases h
  ·rename_i hc
   have h1:¬ k≤(n:Int):=fun e=>hc (.inl e)
   have h2:¬ (N:Int)≤k:=fun e=>hc (.inr (.inl e))
   have h3:¬ tk[k.toNat]?=some true:=fun e=>hc (.inr (.inr e))
   have hkt:k.toNat<tk.length:=by omega
   obtain⟨a1,a2,a3⟩:=kidsC_ok r _ _ tk' dp' h (by simpa using ht)
   have h4:tk[k.toNat]=false:=by
    cases hb:tk[k.toNat] with
    |false=>rfl
    |true=>exact absurd (by rw [List.getElem?_eq_getElem hkt,hb]) h3
   refine⟨fun z hz=>?_,?_,a3⟩
   ·rcases List.mem_cons.1 hz with rfl|hz
    ·exact⟨by omega,by omega⟩
    ·exact a1 z hz
   ·rw [a2,List.count_set hkt,h4,List.length_cons]
    simp
    omega
structure NodeOk (N n:Nat) (x:ND):Prop where
 k1:1≤x.kd
 k11:x.kd≤11
 kids:∀ k ∈ x.kids,(n:Int)<k∧k<N
 kl:x.kids.length≤N
 kb:¬ KBad x.kd x.kids.length
 items:ItemsP x
 fields:FieldsP x
 tx:x.tx.size≤65536
theorem nodeC_ok {N n:Nat} {x:ND} {s s':CS} (h:nodeC N n x s=.ok s') (ht:s.tk.length=N):NodeOk N n x∧s'.tk.length=N:=by
 unfold nodeC at h
 by_cases h1:x.kd<1∨11<x.kd
 ·rw [if_pos h1] at h;cases h
 rw [if_neg h1] at h
 by_cases h2:IdBad x s.ids
 ·rw [if_pos h2] at h;cases h
 rw [if_neg h2] at h
 by_cases h3:ClBad x
 ·rw [if_pos h3] at h;cases h
 rw [if_neg h3] at h
 cases hk:kidsC N n x.kids s.tk s.dp with
 |none=>simp [hk] at h
 |some p=>
  obtain⟨tk,dp⟩:=p
  obtain⟨a1,a2,a3⟩:=kidsC_ok _ _ _ _ _ hk ht
  simp only [hk] at h
  by_cases h4:KBad x.kd x.kids.length
  ·rw [if_pos h4] at h;cases h
  rw [if_neg h4] at h
  by_cases h5:ItemsP x
  ·rw [if_neg (fun e=>e h5)] at h
   by_cases h6:FieldsP x
   ·rw [if_neg (fun e=>e h6)] at h
    by_cases h7:65536<x.tx.size
    ·rw [if_pos h7] at h;cases h
    ·rw [if_neg h7] at h
     injection h with h
     subst h
     have:tk.count true≤tk.length:=List.count_le_length
     exact⟨⟨by omega,by omega,a1,by omega,h4,h5,h6,by omega⟩,a3⟩
   ·rw [if_pos h6] at h;cases h
  ·rw [if_pos h5] at h;cases h
theorem nodeC_err {N n:Nat} {x:ND} {s:CS} {e:Int} (h:nodeC N n x s=.error e):e ≠ 0:=by
 unfold nodeC at h
 repeat' split at h
 all_goals first|(injection h with h;subst h;decide)|cases h
theorem nodesC_err {N:Nat}:∀ (l:List ND) (n:Nat) (s:CS) (p:Int × Nat),nodesC N n l s=.error p→p.1 ≠ 0
 | [],_,_,_,h=>by simp [nodesC] at h
 |x :: r,n,s,p,h=>by
  simp only [nodesC] at h
  split at h
  ·rename_i e he
   injection h with h
   subst h
   exact nodeC_err he
  ·exact nodesC_err r _ _ p h
theorem nodesC_ok {N:Nat}:∀ (l:List ND) (n:Nat) (s s':CS),nodesC N n l s=.ok s'→s.tk.length=N→∀ (i:Nat) x,l[i]?=some x→NodeOk N (n+i) x
 | [],_,_,_,_,_,i,x,hx=>by simp at hx
 |y :: r,n,s,s',h,ht,i,x,hx=>by
  simp only [nodesC] at h
  split at h
  ·cases h
  ·rename_i s1 he
   obtain⟨a1,a2⟩:=nodeC_ok he ht
   cases i with
   |zero=>simp at hx;subst hx;exact a1
   |succ i=>
    have:=nodesC_ok r (n+1) s1 s' h a2 i x (by simpa using hx)
    rwa [show n+1+i=n+(i+1) by omega] at this
structure TreeOk (ns:List ND):Prop where
 len:1≤ns.length∧ns.length≤4096
 node:∀ (i:Nat) x,ns[i]?=some x→NodeOk ns.length i x
theorem tree_ok {ns:List ND} (h:(checkS ns).1=0):TreeOk ns:=by
 unfold checkS at h
 by_cases h1:ns.length=0∨4096<ns.length
 ·rw [if_pos h1] at h;cases h
 ·rw [if_neg h1] at h
  cases hs:nodesC ns.length 0 ns (cs0 ns.length) with
  |error p=>
   rw [hs] at h
   exact absurd h (nodesC_err _ _ _ _ hs)
  |ok s=>
   refine⟨by omega,fun i x hx=>?_⟩
   have:=nodesC_ok ns 0 _ s hs (by simp [cs0]) i x hx
   rwa [Nat.zero_add] at this
end Go.Proofs.YtlenbcmgjancmaaGreatDoor
namespace Go.Proofs.YtlenbcmgjancmaaGreatDoor
structure KSp (N n:Nat) (l:List Int) (tk:List Bool) (dp:List Int) (tk':List Bool) (dp':List Int):Prop where
 nd:l.Nodup
 fr:∀ k ∈ l,tk[k.toNat]? ≠ some true
 t:∀ j,j<N→(tk'[j]?=some true↔(tk[j]?=some true∨(j:Int) ∈ l))
 d:∀ j,j<N→dp'[j]?=if (j:Int) ∈ l then some ((dp[n]?).getD 0+1) else dp[j]?
theorem kidsC_sp {N n:Nat}:∀ (l:List Int) (tk:List Bool) (dp:List Int) tk' dp',kidsC N n l tk dp=some (tk',dp')→tk.length=N→dp.length=N→KSp N n l tk dp tk' dp'
 | [],tk,dp,tk',dp',h,_,_=>by
  simp [kidsC] at h
  obtain⟨rfl,rfl⟩:=h
  exact⟨by simp,by simp,by simp,by simp⟩
 |k :: r,tk,dp,tk',dp',h,ht,hd=>by
  simp only [kidsC] at h
  split at h
  ·cases h
  ·rename_i hc
   have h1:¬ k≤(n:Int):=fun e=>hc (.inl e)
   have h2:¬ (N:Int)≤k:=fun e=>hc (.inr (.inl e))
   have h3:¬ tk[k.toNat]?=some true:=fun e=>hc (.inr (.inr e))
   obtain⟨m,rfl⟩:∃ m:Nat,k=m:=⟨k.toNat,by omega⟩
   rw [Int.toNat_natCast] at h h3
   have ih:=kidsC_sp r _ _ tk' dp' h (by simpa using ht) (by simpa using hd)
   have hmk:((m:Int) ∈ r)→False:=fun e=>ih.fr _ e (by rw [Int.toNat_natCast,List.getElem?_set_self (by omega)])
   have hdn:(dp.set m ((dp[n]?).getD 0+1))[n]?=dp[n]?:=List.getElem?_set_ne (by omega)
   refine⟨List.nodup_cons.2 ⟨hmk,ih.nd⟩,fun z hz=>?_,fun j hj=>?_,fun j hj=>?_⟩
   ·rcases List.mem_cons.1 hz with rfl|hz
    ·rwa [Int.toNat_natCast]
    ·intro e
     refine ih.fr z hz ?_
     rw [List.getElem?_set]
     split
     ·rw [if_pos (by omega)]
     ·exact e
   ·rw [ih.t j hj,List.getElem?_set]
    by_cases e:m=j
    ·subst e
     simp [show m<tk.length by omega]
    ·rw [if_neg e,List.mem_cons]
     have:¬ (j:Int)=(m:Int):=by omega
     simp [this]
   ·rw [ih.d j hj,hdn,List.getElem?_set]
    by_cases e:m=j
    ·subst e
     rw [if_neg hmk,if_pos rfl,if_pos (by omega),if_pos (by simp)]
    ·have:¬ (j:Int)=(m:Int):=by omega
     simp [this,e]
theorem kidsC_run {N n:Nat}:∀ (l:List Int) (tk:List Bool) (dp:List Int),l.Nodup→(∀ k ∈ l,(n:Int)<k∧k<N)→(∀ k ∈ l,tk[k.toNat]? ≠ some true)→∃ tk' dp',kidsC N n l tk dp=some (tk',dp')
 | [],tk,dp,_,_,_=>⟨tk,dp,rfl⟩
 |k :: r,tk,dp,hn,hr,hf=>by
  obtain⟨h1,h2⟩:=hr k (by simp)
  have h3:=hf k (by simp)
  obtain⟨a,b⟩:=List.nodup_cons.1 hn
  simp only [kidsC]
  rw [if_neg (by rintro(e|e|e)<;>first|omega|exact h3 e)]
  refine kidsC_run r _ _ b (fun z hz=>hr z (by simp [hz])) fun z hz=>?_
  have h4:=hr z (by simp [hz])
  have:z ≠ k:=fun e=>a (e ▸ hz)
  rw [List.getElem?_set_ne (by omega)]
  exact hf z (by simp [hz])
def kidsOf (ns:List ND):List Int:=ns.flatMap (·.kids)
def idOf (x:ND):List (List UInt8):=if x.id.size=0 then [] else [x.id.data.toList]
def idsOf (ns:List ND):List (List UInt8):=ns.flatMap idOf
structure CInv (ns:List ND) (n:Nat) (s:CS):Prop where
 tl:s.tk.length=ns.length
 dl:s.dp.length=ns.length
 tk:∀ j,j<ns.length→(s.tk[j]?=some true↔(j:Int) ∈ kidsOf (ns.take n))
 nd:(kidsOf (ns.take n)).Nodup
 d1:∀ i x,ns[i]?=some x→i<n→∀ k ∈ x.kids,(s.dp[k.toNat]?).getD 0=(s.dp[i]?).getD 0+1
 d0:∀ j,j<ns.length→(j:Int) ∉ kidsOf (ns.take n)→s.dp[j]?=some 0
 ids:∀ t,t ∈ s.ids↔t ∈ idsOf (ns.take n)
 idn:(idsOf (ns.take n)).Nodup
structure NodeG (N n:Nat) (x:ND):Prop where
 ok:NodeOk N n x
 idg:x.id.size ≠ 0→NameP x.id
 clg:¬ ClBad x
structure TreeG (ns:List ND):Prop where
 len:1≤ns.length∧ns.length≤4096
 node:∀ i x,ns[i]?=some x→NodeG ns.length i x
 nd:(kidsOf ns).Nodup
 cov:∀ n:Nat,1≤n→n<ns.length→(n:Int) ∈ kidsOf ns
 idn:(idsOf ns).Nodup
 dep:∃ D:Nat→Int,D 0=0∧(∀ i x,ns[i]?=some x→∀ k ∈ x.kids,D k.toNat=D i+1)∧∀ i,i<ns.length→D i<64
theorem take_step {ns:List ND} {n:Nat} {x:ND} (h:ns[n]?=some x):ns.take (n+1)=ns.take n ++ [x]:=by
 rw [List.take_add_one,h];rfl
theorem kids_step {ns:List ND} {n:Nat} {x:ND} (h:ns[n]?=some x):kidsOf (ns.take (n+1))=kidsOf (ns.take n) ++ x.kids:=by
 rw [take_step h];simp [kidsOf]
theorem ids_step {ns:List ND} {n:Nat} {x:ND} (h:ns[n]?=some x):idsOf (ns.take (n+1))=idsOf (ns.take n) ++ idOf x:=by
 rw [take_step h];simp [idsOf]
theorem kid_in {ns:List ND} {i n:Nat} {x:ND} (h:ns[i]?=some x) (hi:i<n) {k:Int} (hk:k ∈ x.kids):k ∈ kidsOf (ns.take n):=by
 refine List.mem_flatMap.2 ⟨x,List.mem_iff_getElem?.2 ⟨i,?_⟩,hk⟩
 rw [List.getElem?_take]
 simp [hi,h]
theorem in_kid {ns:List ND} {n:Nat} {k:Int} (h:k ∈ kidsOf (ns.take n)):∃ i x,ns[i]?=some x∧i<n∧k ∈ x.kids:=by
 obtain⟨x,hx,hk⟩:=List.mem_flatMap.1 h
 obtain⟨i,hi⟩:=List.mem_iff_getElem?.1 hx
 rw [List.getElem?_take] at hi
 split at hi
 ·exact⟨i,x,hi,by assumption,hk⟩
 ·cases hi
theorem inv_step {ns:List ND} {n:Nat} {x:ND} {s:CS} {tk':List Bool} {dp':List Int} (hx:ns[n]?=some x) (hI:CInv ns n s) (hk:KSp ns.length n x.kids s.tk s.dp tk' dp') (hr:∀ k ∈ x.kids,(n:Int)<k∧k<ns.length) (hid:x.id.size ≠ 0→x.id.data.toList ∉ s.ids) (hl:tk'.length=s.tk.length∧dp'.length=s.dp.length) :
  CInv ns (n+1) ⟨tk',dp',if x.id.size=0 then s.ids else x.id.data.toList :: s.ids⟩:=by
 have hn:n<ns.length:=(List.getElem?_eq_some_iff.1 hx).1
 have hold:∀ i y,ns[i]?=some y→i<n→∀ k ∈ y.kids,k ∉ x.kids:=fun i y hy hi k hk1 hk2=>by
  have h1:=hr k hk2
  refine hk.fr k hk2 ((hI.tk k.toNat (by omega)).2 ?_)
  rw [show ((k.toNat:Nat):Int)=k by omega]
  exact kid_in hy hi hk1
 have hdi:∀ i,i≤n→dp'[i]?=s.dp[i]?:=fun i hi=>by
  rw [hk.d i (by omega),if_neg fun e=>by have:=hr _ e;omega]
 refine⟨hl.1.trans hI.tl,hl.2.trans hI.dl,fun j hj=>?_,?_,fun i y hy hi k hkk=>?_,fun j hj hjn=>?_,fun t=>?_,?_⟩
 ·rw [hk.t j hj,hI.tk j hj,kids_step hx,List.mem_append]
 ·rw [kids_step hx,List.nodup_append]
  refine⟨hI.nd,hk.nd,fun a ha b hb e=>?_⟩
  subst e
  obtain⟨i,y,hy,hi,hy2⟩:=in_kid ha
  exact hold i y hy hi a hy2 hb
 ·rw [hdi i (by omega)]
  rcases Nat.lt_or_ge i n with h|h
  ·by_cases hkN:k.toNat<ns.length
   ·by_cases h0:0≤k
    ·rw [hk.d _ hkN,if_neg (by rw [show ((k.toNat:Nat):Int)=k by omega];exact hold i y hy h k hkk)]
     exact hI.d1 i y hy h k hkk
    ·rw [hdi _ (by omega)]
     exact hI.d1 i y hy h k hkk
   ·rw [List.getElem?_eq_none (by rw [hl.2,hI.dl];omega),← hI.d1 i y hy h k hkk,List.getElem?_eq_none (by rw [hI.dl];omega)]
  ·obtain rfl:i=n:=by omega
   obtain rfl:x=y:=Option.some.inj (hx.symm.trans hy)
   have:=hr k hkk
   rw [hk.d _ (by omega),if_pos (by rw [show ((k.toNat:Nat):Int)=k by omega];exact hkk)]
   rfl
 ·rw [kids_step hx,List.mem_append] at hjn
  rw [hk.d j hj,if_neg fun e=>hjn (.inr e)]
  exact hI.d0 j hj fun e=>hjn (.inl e)
 ·rw [ids_step hx,List.mem_append,← hI.ids t]
  unfold idOf
  split<;>simp [or_comm]
 ·rw [ids_step hx,List.nodup_append]
  refine⟨hI.idn,by unfold idOf;split<;>simp,fun a ha b hb e=>?_⟩
  subst e
  unfold idOf at hb
  split at hb
  ·cases hb
  ·rename_i h0
   rw [List.mem_singleton] at hb
   subst hb
   exact hid h0 ((hI.ids _).2 ha)
theorem node_inv {ns:List ND} {n:Nat} {x:ND} {s s':CS} (hx:ns[n]?=some x) (hI:CInv ns n s) (h:nodeC ns.length n x s=.ok s'):NodeG ns.length n x∧CInv ns (n+1) s':=by
 have hok:=(nodeC_ok h hI.tl).1
 unfold nodeC at h
 by_cases h1:x.kd<1∨11<x.kd
 ·rw [if_pos h1] at h;cases h
 rw [if_neg h1] at h
 by_cases h2:IdBad x s.ids
 ·rw [if_pos h2] at h;cases h
 rw [if_neg h2] at h
 by_cases h3:ClBad x
 ·rw [if_pos h3] at h;cases h
 rw [if_neg h3] at h
 cases hk:kidsC ns.length n x.kids s.tk s.dp with
 |none=>simp [hk] at h
 |some p=>
  obtain⟨tk,dp⟩:=p
  simp only [hk] at h
  have hsp:=kidsC_sp _ _ _ _ _ hk hI.tl hI.dl
  have hln:=kidsC_len _ _ _ _ _ hk
  rw [if_neg hok.kb,if_neg (fun e=>e hok.items),if_neg (fun e=>e hok.fields),if_neg (by have:=hok.tx;omega)] at h
  injection h with h
  subst h
  refine⟨⟨hok,fun e=>?_,h3⟩,inv_step hx hI hsp hok.kids (fun e e2=>h2 ⟨e,.inl e2⟩) hln⟩
  exact Classical.byContradiction fun e2=>h2 ⟨e,.inr e2⟩
theorem inv_zero (ns:List ND):CInv ns 0 (cs0 ns.length):=by
 refine⟨by simp [cs0],by simp [cs0],fun j hj=>?_,by simp [kidsOf],fun i x _ hi=>by omega,fun j hj _=>?_,fun t=>by simp [cs0,idsOf],by simp [idsOf]⟩
 ·simp [cs0,kidsOf,hj]
 ·simp [cs0,hj]
theorem nodes_inv {ns:List ND}:∀ (m n:Nat) (s s':CS),ns.length - n=m→n≤ns.length→CInv ns n s→nodesC ns.length n (ns.drop n) s=.ok s'→(∀ i x,n≤i→ns[i]?=some x→NodeG ns.length i x)∧CInv ns ns.length s'
 | 0,n,s,s',h1,h2,hI,h=>by
  obtain rfl:n=ns.length:=by omega
  rw [List.drop_length] at h
  simp only [nodesC] at h
  injection h with h
  subst h
  exact⟨fun i x hi hx=>by have:=(List.getElem?_eq_some_iff.1 hx).1;omega,hI⟩
 |m+1,n,s,s',h1,h2,hI,h=>by
  have hn:n<ns.length:=by omega
  have hx:ns[n]?=some ns[n]:=List.getElem?_eq_getElem hn
  rw [List.drop_eq_getElem_cons hn] at h
  simp only [nodesC] at h
  split at h
  ·cases h
  ·rename_i s1 he
   obtain⟨a,b⟩:=node_inv hx hI he
   obtain⟨c,d⟩:=nodes_inv m (n+1) s1 s' (by omega) (by omega) b h
   refine⟨fun i x hi hy=>?_,d⟩
   rcases Nat.lt_or_ge n i with h'|h'
   ·exact c i x h' hy
   ·obtain rfl:i=n:=by omega
    obtain rfl:ns[i]=x:=Option.some.inj (hx.symm.trans hy)
    exact a
theorem tree_good {ns:List ND} (h:(checkS ns).1=0):TreeG ns:=by
 have hok:=tree_ok h
 unfold checkS at h
 rw [if_neg (by have:=hok.len;omega)] at h
 cases hs:nodesC ns.length 0 ns (cs0 ns.length) with
 |error p=>
  rw [hs] at h
  exact absurd h (nodesC_err _ _ _ _ hs)
 |ok s=>
  rw [hs] at h
  replace h:(endC ns.length s).1=0:=h
  obtain⟨a,b⟩:=nodes_inv _ 0 _ s rfl (Nat.zero_le _) (inv_zero ns) (by rw [List.drop_zero];exact hs)
  have hT:ns.take ns.length=ns:=List.take_length
  have b2:=b.tk
  have b3:=b.nd
  have b5:=b.idn
  have b6:=b.d0
  rw [hT] at b2 b3 b5 b6
  have h1:∀ n,n<ns.length→unTaken s n=false:=by
   intro n hn
   unfold endC at h
   cases hf:(List.range ns.length).find? (unTaken s) with
   |some m=>simp [hf] at h
   |none=>exact by simpa using List.find?_eq_none.1 hf n (by simpa using hn)
  have h2:∀ n,n<ns.length→tooDeep s n=false:=by
   intro n hn
   unfold endC at h
   rw [find_none h1] at h
   cases hf:(List.range ns.length).find? (tooDeep s) with
   |some m=>simp [hf] at h
   |none=>exact by simpa using List.find?_eq_none.1 hf n (by simpa using hn)
  refine⟨hok.len,fun i x hx=>a i x (Nat.zero_le _) hx,b3,fun n h0 hn=>?_,b5,fun j=>(s.dp[j]?).getD 0,?_,fun i x hx k hk=>b.d1 i x hx (List.getElem?_eq_some_iff.1 hx).1 k hk,fun i hi=>?_⟩
  ·have:=h1 n hn
   simp [unTaken,h0] at this
   exact(b2 n hn).1 this
  ·show (s.dp[0]?).getD 0=0
   rw [b6 0 (by have:=hok.len;omega) fun e=>?_]
   ·rfl
   ·obtain⟨x,hx,hk⟩:=List.mem_flatMap.1 e
    obtain⟨i,hi⟩:=List.mem_iff_getElem?.1 hx
    have:=(a i x (Nat.zero_le _) hi).ok.kids _ hk
    omega
  ·have:=h2 i hi
   simp [tooDeep] at this
   exact this
theorem node_run {ns:List ND} {n:Nat} {x:ND} {s:CS} (hx:ns[n]?=some x) (hI:CInv ns n s) (hG:TreeG ns):∃ s',nodeC ns.length n x s=.ok s'∧CInv ns (n+1) s':=by
 have hg:=hG.node n x hx
 have hn:n<ns.length:=(List.getElem?_eq_some_iff.1 hx).1
 have hsplit:kidsOf (ns.take (n+1)) ++ kidsOf (ns.drop (n+1))=kidsOf ns:=by
  unfold kidsOf
  rw [← List.flatMap_append,List.take_append_drop]
 have hids:idsOf (ns.take (n+1)) ++ idsOf (ns.drop (n+1))=idsOf ns:=by
  unfold idsOf
  rw [← List.flatMap_append,List.take_append_drop]
 have hnd:=hG.nd
 rw [← hsplit,kids_step hx,List.nodup_append,List.nodup_append] at hnd
 have hin:=hG.idn
 rw [← hids,ids_step hx,List.nodup_append,List.nodup_append] at hin
 obtain⟨⟨_,hn2,hn3⟩,_,_⟩:=hnd
 obtain⟨⟨_,_,hi3⟩,_,_⟩:=hin
 have hidb:x.id.size ≠ 0→x.id.data.toList ∉ s.ids:=fun e e2=>hi3 _ ((hI.ids _).1 e2) _ (by unfold idOf;rw [if_neg e];simp) rfl
 obtain⟨tk',dp',hk⟩:=kidsC_run (N:=ns.length) (n:=n) x.kids s.tk s.dp hn2 hg.ok.kids fun k hk e=>by
  have:=hg.ok.kids k hk
  have h2:=(hI.tk k.toNat (by omega)).1 e
  rw [show ((k.toNat:Nat):Int)=k by omega] at h2
  exact hn3 _ h2 _ hk rfl
 refine⟨_,?_,inv_step hx hI (kidsC_sp _ _ _ _ _ hk hI.tl hI.dl) hg.ok.kids hidb (kidsC_len _ _ _ _ _ hk)⟩
 unfold nodeC
 rw [if_neg (by have:=hg.ok.k1;have:=hg.ok.k11;omega),if_neg (show ¬ IdBad x s.ids from fun e=>e.2.elim (hidb e.1) fun e2=>e2 (hg.idg e.1)),if_neg hg.clg]
 simp only [hk]
 rw [if_neg hg.ok.kb,if_neg (fun e=>e hg.ok.items),if_neg (fun e=>e hg.ok.fields),if_neg (by have:=hg.ok.tx;omega)]
theorem nodes_run {ns:List ND} (hG:TreeG ns):∀ (m n:Nat) (s:CS),ns.length - n=m→n≤ns.length→CInv ns n s→∃ s',nodesC ns.length n (ns.drop n) s=.ok s'∧CInv ns ns.length s'
 | 0,n,s,h1,h2,hI=>by
  obtain rfl:n=ns.length:=by omega
  rw [List.drop_length]
  exact⟨s,rfl,hI⟩
 |m+1,n,s,h1,h2,hI=>by
  have hn:n<ns.length:=by omega
  have hx:ns[n]?=some ns[n]:=List.getElem?_eq_getElem hn
  obtain⟨s1,he,hI1⟩:=node_run hx hI hG
  obtain⟨s',a,b⟩:=nodes_run hG m (n+1) s1 (by omega) (by omega) hI1
  refine⟨s',?_,b⟩
  rw [List.drop_eq_getElem_cons hn]
  simp only [nodesC,he]
  exact a
theorem check_good {ns:List ND} (hG:TreeG ns):(checkS ns).1=0:=by
 obtain⟨s,hs,hI⟩:=nodes_run hG _ 0 _ rfl (Nat.zero_le _) (inv_zero ns)
 rw [List.drop_zero] at hs
 rw [checkS_end (by have:=hG.len;omega) hs]
 have hT:ns.take ns.length=ns:=List.take_length
 have b2:=hI.tk
 have b6:=hI.d0
 rw [hT] at b2 b6
 obtain⟨D,hD0,hD1,hD2⟩:=hG.dep
 have hD:∀ m j,j≤m→j<ns.length→(s.dp[j]?).getD 0=D j:=by
  intro m
  induction m with
  |zero=>
   intro j hj hjn
   obtain rfl:j=0:=by omega
   rw [b6 0 hjn,hD0]
   ·rfl
   ·intro e
    obtain⟨x,hx,hk⟩:=List.mem_flatMap.1 e
    obtain⟨i,hi⟩:=List.mem_iff_getElem?.1 hx
    have:=(hG.node i x hi).ok.kids _ hk
    omega
  |succ m ih=>
   intro j hj hjn
   by_cases h0:j≤m
   ·exact ih j h0 hjn
   ·obtain⟨x,hx,hk⟩:=List.mem_flatMap.1 (hG.cov j (by omega) hjn)
    obtain⟨i,hi⟩:=List.mem_iff_getElem?.1 hx
    have hik:=(hG.node i x hi).ok.kids _ hk
    have h1:=hI.d1 i x hi (List.getElem?_eq_some_iff.1 hi).1 _ hk
    have h2:=hD1 i x hi _ hk
    rw [Int.toNat_natCast] at h1 h2
    rw [h1,h2,ih i (by omega) (by omega)]
 unfold endC
 rw [find_none fun j hj=>?_,find_none fun j hj=>?_]
 ·unfold tooDeep
  rw [hD _ j (Nat.le_refl _) hj]
  have:=hD2 j hj
  simp
  omega
 ·unfold unTaken
  by_cases h0:1≤j
  ·simp [h0,(b2 j hj).2 (hG.cov j h0 hj)]
  ·simp [h0]
end Go.Proofs.YtlenbcmgjancmaaGreatDoor
namespace Go.Proofs.YtlenbcmgjancmaaGreatDoor
open Go.RowKit
def Arr (W:World) (b:Nat) (l:List Value) (e:TypeId):Prop:=W.heap[b]?=some (.cells l.toArray e (0,0))
section
variable {W W':World} {b:Nat} {l:List Value} {e:TypeId}
theorem Arr.lt (h:Arr W b l e):b<W.heap.size:=(Array.getElem?_eq_some_iff.1 h).1
theorem Arr.cell (h:Arr W b l e) {j:Nat} {v:Value} (hj:l[j]?=some v):W.cell? ⟨b,j,none⟩=some v:=by
 rw [cell_of_row W b j _ e _ h];simpa using hj
theorem Arr.froz (h:Arr W b l e) (j:Nat):W.frozen? ⟨b,j,none⟩=false:=frozen_of_row W b j _ e h
theorem Arr.set (h:Arr W b l e) (j:Nat) (v:Value):Arr (W.setCell ⟨b,j,none⟩ v) b (l.set j v) e:=by
 have:=heap_setCell_same W b j _ e v h
 unfold Arr
 rw [this];simp
theorem Arr.other (h:Arr W b l e) {b':Nat} (hne:b ≠ b') (j:Nat) (v:Value):Arr (W.setCell ⟨b',j,none⟩ v) b l e:=by
 unfold Arr
 rw [heap_setCell_other W _ b v (by simpa using hne)];exact h
theorem Arr.below (h:Arr W b l e) (hb:Below W.heap.size W W'):Arr W' b l e:=by
 unfold Arr
 rw [hb.block b h.lt];exact h
theorem Arr.grown {row:Option Nat} (h:Arr W b l e) (hg:W.grownBy W' row) (hne:some b ≠ row):Arr W' b l e:=by
 unfold Arr
 rw [hg.block b h.lt hne];exact h
theorem Arr.alloc (h:Arr W b l e) (o:Obj):Arr (W.alloc o) b l e:=by
 exact h.grown (World.grownBy_alloc W o none) (by simp)
theorem Arr.drew (h:Arr W b l e) (m:Nat):Arr (W.drewN m) b l e:=h
theorem Arr.made (W:World) (n:Nat) (z:Value) (e:TypeId):Arr (W.alloc (.cells (madeCells #[z] n) e)) W.heap.size (List.replicate n z) e:=by
 unfold Arr
 rw [heap_alloc_new,← toList_madeCells_one]
theorem grown_set (W:World) (b j:Nat) (v:Value):W.grownBy (W.setCell ⟨b,j,none⟩ v) (some b) :=
 ⟨rfl,rfl,rfl,by simp,fun k _ hk=>heap_setCell_other W ⟨b,j,none⟩ k v (fun e=>hk (by simp [e]))⟩
theorem grown_trans {w w1 w2:World} {row:Option Nat} (h:w.grownBy w1 row) (k:w1.grownBy w2 row):w.grownBy w2 row :=
 ⟨k.os.trans h.os,k.tape.trans h.tape,k.output.trans h.output,Nat.le_trans h.size k.size,fun i hi hn=>(k.block i (Nat.lt_of_lt_of_le hi h.size) hn).trans (h.block i hi hn)⟩
theorem grown_below {w w1:World} {row:Option Nat} (h:Below w.heap.size w w1):w.grownBy w1 row :=
 ⟨h.os,h.tape,h.output,h.size,fun i hi _=>h.block i hi⟩
end
abbrev ivl (l:List Int):List Value:=l.map (Value.int .i64)
abbrev ArrI (W:World) (b:Nat) (l:List Int):Prop:=Arr W b (ivl l) 3
theorem ArrI.at {W:World} {b:Nat} {l:List Int} (h:ArrI W b l) {j:Nat} {x:Int} (hj:l[j]?=some x):W.cell? ⟨b,j,none⟩=some (.int .i64 x) :=
 h.cell (by simp [hj])
theorem ArrI.put {W:World} {b:Nat} {l:List Int} (h:ArrI W b l) (j:Nat) (x:Int):ArrI (W.setCell ⟨b,j,none⟩ (.int .i64 x)) b (l.set j x):=by
 have:=h.set j (.int .i64 x)
 simpa [ArrI,ivl,List.map_set] using this
theorem ArrI.sl {W:World} {b:Nat} {l:List Int} (h:ArrI W b l) (hl:l.length≤17592186044416) (c:Nat):SlI W (.slice (some ⟨b,0,none⟩) l.length c) l :=
 ⟨_,c,rfl,hl,fun i x hi=>⟨b,0,rfl,h.lt,by rw [Nat.zero_add];exact h.at hi⟩⟩
theorem ArrI.made (W:World) (n:Nat):ArrI (W.alloc (.cells (madeCells #[.int .i64 0] n) 3)) W.heap.size (List.replicate n 0):=by
 have:=Arr.made W n (.int .i64 0) 3
 simpa [ArrI,ivl] using this
def sumL:List Int→Int
 | []=>0
 |x :: l=>x+sumL l
theorem sumL_append (l m:List Int):sumL (l ++ m)=sumL l+sumL m:=by
 induction l with
 |nil=>simp [sumL]
 |cons x l ih=>simp only [List.cons_append,sumL];rw [ih];omega
theorem sumL_bound (l:List Int) (b:Int) (h:∀ x ∈ l,0≤x∧x≤b):0≤sumL l∧sumL l≤b*l.length:=by
 induction l with
 |nil=>simp [sumL]
 |cons x l ih=>
  have h1:=h x (by simp)
  have h2:=ih fun y hy=>h y (by simp [hy])
  rw [List.length_cons]
  have:b*((l.length+1:Nat):Int)=b*l.length+b:=by push_cast;rw [Int.mul_add,Int.mul_one]
  simp only [sumL]
  omega
theorem take_succ_sum {l:List Int} {a:Nat} {x:Int} (h:l[a]?=some x):sumL (l.take (a+1))=sumL (l.take a)+x:=by
 obtain⟨h1,rfl⟩:=List.getElem?_eq_some_iff.1 h
 rw [List.take_succ_eq_append_getElem h1,sumL_append]
 simp [sumL]
theorem sumL_map {α:Type} (f:α→Int) (l:List α):sumL (l.map f)=sumF f l:=by
 induction l with
 |nil=>rfl
 |cons x l ih=>simp only [List.map_cons,sumL,sumF,ih]
theorem sum_take_bound {l:List Int} {b:Int} (h:∀ x ∈ l,0≤x∧x≤b) (hb:0≤b) (a:Nat) (hl:l.length≤1048576):0≤sumL (l.take a)∧sumL (l.take a)≤b*1048576:=by
 have:=sumL_bound (l.take a) b fun x hx=>h x (List.mem_of_mem_take hx)
 refine⟨this.1,Int.le_trans this.2 (Int.mul_le_mul_of_nonneg_left ?_ hb)⟩
 have h2:(l.take a).length≤1048576:=by rw [List.length_take];omega
 omega
set_option maxRecDepth 100000 in
set_option maxHeartbeats 4000000 in
theorem ssum_any (v:Value) (l:List Int) (w:World) (hv:SlI w v l) (hl:l.length≤1048576) (hb:∀ x ∈ l,0≤x∧x≤1099511627776) :
  Calls Tryz.prog 128 #[v] w (VRet (.int .i64 (sumL l)) w):=by
 obtain⟨p,c,rfl,_,hx⟩:=hv
 have HX:=zH hx
 have HB:=zH hb
 clear hx hb
 go_enter Tryz.func128,Tryz.ntmps128
 go_wp2
 go_loopw [8,3] (fun i s wr=>∃ a:Nat,i=.int .i64 a∧a≤l.length∧s=.int .i64 (sumL (l.take a))∧wr=w) (fun i _ _=>l.length - (intOf i).toNat)
 case atStart=>exact⟨0,rfl,by omega,by simp [sumL],rfl⟩
 case round=>
  obtain⟨a,rfl,hle,rfl,rfl⟩:=hrel
  by_cases hlt:a<l.length
  ·have hltI:(a:Int)<(l.length:Int):=by omega
   obtain⟨x,hx⟩:∃ x,l[a]?=some x:=⟨_,List.getElem?_eq_getElem hlt⟩
   obtain⟨g,o,rfl,hg,hc⟩:=HX.out a x hx
   have HS:=zH (take_succ_sum hx)
   have hb1:=HB.out x (List.mem_of_getElem? hx)
   have hb2:=sum_take_bound HB.out (by omega) a hl
   clear hx
   generalize sumL (l.take a)=s at *
   go_wp2
   go_roundw
   case rel=>exact⟨a+1,by first|rfl|go_num,by omega,by rw [HS.out],by first|rfl|trivial⟩
   case measure=>simp [intOf];omega
  ·have hlt':¬ (a:Int)<(l.length:Int):=by omega
   obtain rfl:a=l.length:=by omega
   rw [List.take_length]
   go_wp2
   go_ret
   exact⟨rfl,rfl⟩
def sideS (n:Int):Int:=min (max n 0) 4096
theorem sideS_range (n:Int):0≤sideS n∧sideS n≤4096:=by unfold sideS;omega
set_option maxRecDepth 100000 in
theorem sside_any (n:Int) (w:World):Calls Tryz.prog 126 #[.int .i64 n] w (VRet (.int .i64 (sideS n)) w):=by
 go_enter Tryz.func126,Tryz.ntmps126
 go_wp2
 go_ret
 exact⟨by unfold sideS;rfl,rfl⟩
def intoS (n:Int) (it:Itm):Int:=if 0<it.mx then min (max n it.mn) it.mx else max n it.mn
set_option maxRecDepth 100000 in
theorem sinto_any (n:Int) (it:Itm) (w:World):Calls Tryz.prog 127 #[.int .i64 n,it.val] w (VBel (.int .i64 (intoS n it)) w):=by
 obtain⟨k,m,d,mn,mx⟩:=it
 by_cases h:0<mx
 ·have HR:Hid (intoS n ⟨k,m,d,mn,mx⟩=min (max n mn) mx):=zH (by simp [intoS,h])
  unfold Itm.val
  go_enter Tryz.func127,Tryz.ntmps127
  go_wp2
  go_ret
  exact⟨by rw [HR.out];rfl,by(repeat (first|exact Below.refl _ _|assumption|refine below_drewN ?_ _|refine Below.drew ?_|(refine Below.alloc ?_ ?bs _;(case bs=>first|omega|(simp;done)|(simp;omega)))|(refine Below.setCell ?_ ?bs _;(case bs=>first|omega|(simp;done)|(simp;omega)))))⟩
 ·have HR:Hid (intoS n ⟨k,m,d,mn,mx⟩=max n mn):=zH (by simp [intoS,h])
  unfold Itm.val
  go_enter Tryz.func127,Tryz.ntmps127
  go_wp2
  go_ret
  exact⟨by rw [HR.out];rfl,by(repeat (first|exact Below.refl _ _|assumption|refine below_drewN ?_ _|refine Below.drew ?_|(refine Below.alloc ?_ ?bs _;(case bs=>first|omega|(simp;done)|(simp;omega)))|(refine Below.setCell ?_ ?bs _;(case bs=>first|omega|(simp;done)|(simp;omega)))))⟩
set_option maxRecDepth 100000 in
theorem into_any (n:Int) (it:Itm) (w:World):Calls Tryz.prog 95 #[.int .i64 n,it.val] w (VBel (.int .i64 (intoS n it)) w):=by
 obtain⟨k,m,d,mn,mx⟩:=it
 by_cases h:0<mx
 ·have HR:Hid (intoS n ⟨k,m,d,mn,mx⟩=min (max n mn) mx):=zH (by simp [intoS,h])
  unfold Itm.val
  go_enter Tryz.func95,Tryz.ntmps95
  go_wp2
  go_ret
  exact⟨by rw [HR.out];rfl,by(repeat (first|exact Below.refl _ _|assumption|refine below_drewN ?_ _|refine Below.drew ?_|(refine Below.alloc ?_ ?bs _;(case bs=>first|omega|(simp;done)|(simp;omega)))|(refine Below.setCell ?_ ?bs _;(case bs=>first|omega|(simp;done)|(simp;omega)))))⟩
 ·have HR:Hid (intoS n ⟨k,m,d,mn,mx⟩=max n mn):=zH (by simp [intoS,h])
  unfold Itm.val
  go_enter Tryz.func95,Tryz.ntmps95
  go_wp2
  go_ret
  exact⟨by rw [HR.out];rfl,by(repeat (first|exact Below.refl _ _|assumption|refine below_drewN ?_ _|refine Below.drew ?_|(refine Below.alloc ?_ ?bs _;(case bs=>first|omega|(simp;done)|(simp;omega)))|(refine Below.setCell ?_ ?bs _;(case bs=>first|omega|(simp;done)|(simp;omega)))))⟩
set_option maxRecDepth 100000 in
theorem brought_any (n:Int) (it:Itm) (w:World):Calls Tryz.prog 133 #[.int .i64 n,it.val] w (VBel (.int .i64 (intoS n it)) w):=by
 obtain⟨k,m,d,mn,mx⟩:=it
 by_cases h:0<mx
 ·have HR:Hid (intoS n ⟨k,m,d,mn,mx⟩=min (max n mn) mx):=zH (by simp [intoS,h])
  unfold Itm.val
  go_enter Tryz.func133,Tryz.ntmps133
  go_wp2
  go_ret
  exact⟨by rw [HR.out];rfl,by(repeat (first|exact Below.refl _ _|assumption|refine below_drewN ?_ _|refine Below.drew ?_|(refine Below.alloc ?_ ?bs _;(case bs=>first|omega|(simp;done)|(simp;omega)))|(refine Below.setCell ?_ ?bs _;(case bs=>first|omega|(simp;done)|(simp;omega)))))⟩
 ·have HR:Hid (intoS n ⟨k,m,d,mn,mx⟩=max n mn):=zH (by simp [intoS,h])
  unfold Itm.val
  go_enter Tryz.func133,Tryz.ntmps133
  go_wp2
  go_ret
  exact⟨by rw [HR.out];rfl,by(repeat (first|exact Below.refl _ _|assumption|refine below_drewN ?_ _|refine Below.drew ?_|(refine Below.alloc ?_ ?bs _;(case bs=>first|omega|(simp;done)|(simp;omega)))|(refine Below.setCell ?_ ?bs _;(case bs=>first|omega|(simp;done)|(simp;omega)))))⟩
def boundS (it:Itm):Int:=if 0<it.mx then it.mx else 8192
set_option maxRecDepth 100000 in
theorem bound_any (it:Itm) (w:World):Calls Tryz.prog 158 #[it.val] w (VBel (.int .i64 (boundS it)) w):=by
 obtain⟨k,m,d,mn,mx⟩:=it
 by_cases h:0<mx
 ·have HR:Hid (boundS ⟨k,m,d,mn,mx⟩=mx):=zH (by simp [boundS,h])
  unfold Itm.val
  go_enter Tryz.func158,Tryz.ntmps158
  go_wp2
  go_ret
  exact⟨by rw [HR.out];rfl,by(repeat (first|exact Below.refl _ _|assumption|refine below_drewN ?_ _|refine Below.drew ?_|(refine Below.alloc ?_ ?bs _;(case bs=>first|omega|(simp;done)|(simp;omega)))|(refine Below.setCell ?_ ?bs _;(case bs=>first|omega|(simp;done)|(simp;omega)))))⟩
 ·have HR:Hid (boundS ⟨k,m,d,mn,mx⟩=8192):=zH (by simp [boundS,h])
  unfold Itm.val
  go_enter Tryz.func158,Tryz.ntmps158
  go_wp2
  go_ret
  exact⟨by rw [HR.out];rfl,by(repeat (first|exact Below.refl _ _|assumption|refine below_drewN ?_ _|refine Below.drew ?_|(refine Below.alloc ?_ ?bs _;(case bs=>first|omega|(simp;done)|(simp;omega)))|(refine Below.setCell ?_ ?bs _;(case bs=>first|omega|(simp;done)|(simp;omega)))))⟩
def within3S (n lo hi:Int):Int:=min (max n lo) hi
set_option maxRecDepth 100000 in
theorem within3_any (n lo hi:Int) (w:World):Calls Tryz.prog 132 #[.int .i64 n,.int .i64 lo,.int .i64 hi] w (VRet (.int .i64 (within3S n lo hi)) w):=by
 go_enter Tryz.func132,Tryz.ntmps132
 go_wp2
 go_ret
 exact⟨by unfold within3S;rfl,rfl⟩
end Go.Proofs.YtlenbcmgjancmaaGreatDoor
namespace Go.Proofs.YtlenbcmgjancmaaGreatDoor
open Go.RowKit
abbrev cmpV (bx:Nat):Value:=.func (.func 175) #[] #[.pointer (some ⟨bx,0,none⟩)]
abbrev ltR (r:List Int) (x y:Int):Bool:=decide (gd r y.toNat - gd r x.toNat<0)
structure Srt (W0:World) (d bx br cr:Nat) (r l:List Int) (W:World):Prop where
 dat:ArrI W d l
 row:ArrI W br r
 box:W.cell? ⟨bx,0,none⟩=some (.slice (some ⟨br,0,none⟩) r.length cr)
 n1:bx ≠ d
 n2:br ≠ d
 g:W0.grownBy W (some d)
 ln:l.length=r.length
 ok:∀ x ∈ l,0≤x∧x<r.length
 rb:∀ x ∈ r,0≤x∧x≤1099511627776
 rn:r.length≤1048576
section
variable {W0 W W':World} {d bx br cr:Nat} {r l:List Int}
theorem Srt.below (h:Srt W0 d bx br cr r l W) (hb:Below W.heap.size W W'):Srt W0 d bx br cr r l W' :=
 ⟨h.dat.below hb,h.row.below hb,by rw [hb.cell (p:=⟨bx,0,none⟩) (World.block_lt_of_cell? W _ h.box)];exact h.box,h.n1,h.n2,grown_trans h.g (grown_below hb),h.ln,h.ok,h.rb,h.rn⟩
theorem Srt.drew (h:Srt W0 d bx br cr r l W):Srt W0 d bx br cr r l W.drew :=
 ⟨h.dat,h.row,h.box,h.n1,h.n2,⟨h.g.os,h.g.tape,h.g.output,h.g.size,h.g.block⟩,h.ln,h.ok,h.rb,h.rn⟩
theorem Srt.drewN (h:Srt W0 d bx br cr r l W) (m:Nat):Srt W0 d bx br cr r l (W.drewN m) :=
 ⟨h.dat,h.row,h.box,h.n1,h.n2,⟨h.g.os,h.g.tape,h.g.output,h.g.size,h.g.block⟩,h.ln,h.ok,h.rb,h.rn⟩
theorem Srt.swap (h:Srt W0 d bx br cr r l W) {i j:Nat} (hi:i<l.length) (hj:j<l.length) :
  Srt W0 d bx br cr r (swp l i j) ((W.setCell ⟨d,i,none⟩ (.int .i64 (gd l j))).setCell ⟨d,j,none⟩ (.int .i64 (gd l i))) :=
 have h2:=sub_swp hi hj
 ⟨(h.dat.put i _).put j _,(h.row.other h.n2 _ _).other h.n2 _ _,(grown_trans (grown_set W d i _) (grown_set _ d j _)).cell h.box (by simpa using h.n1),h.n1,h.n2,
  grown_trans h.g (grown_trans (grown_set W d i _) (grown_set _ d j _)),h2.1.trans h.ln,fun x hx=>h.ok x (h2.2 x hx),h.rb,h.rn⟩
theorem Srt.to (h:Srt W0 d bx br cr r l W) {l':List Int} (e:l=l'):Srt W0 d bx br cr r l' W:=e ▸ h
theorem Srt.at (h:Srt W0 d bx br cr r l W) {i:Nat} (hi:i<l.length):W.cell? ⟨d,i,none⟩=some (.int .i64 (gd l i)) :=
 h.dat.at (by simp [gd,List.getElem?_eq_getElem hi])
theorem Srt.mid (h:Srt W0 d bx br cr r l W) {i j:Nat} (hj:j<l.length) (x:Int):∃ y,(W.setCell ⟨d,i,none⟩ (.int .i64 x)).cell? ⟨d,j,none⟩=some (.int .i64 y)∧(W.setCell ⟨d,i,none⟩ (.int .i64 x)).frozen? ⟨d,j,none⟩=false:=by
 have h1:=h.dat.put i x
 have h2:j<(l.set i x).length:=by simpa using hj
 exact⟨_,h1.at (List.getElem?_eq_getElem h2),h1.froz j⟩
theorem Srt.rat (h:Srt W0 d bx br cr r l W) {x:Int} (h0:0≤x) (hi:x<r.length):W.cell? ⟨br,x.toNat,none⟩=some (.int .i64 (gd r x.toNat)) :=
 have h2:x.toNat<r.length:=by omega
 h.row.at (by simp [gd,List.getElem?_eq_getElem h2])
end
set_option maxRecDepth 100000 in
set_option maxHeartbeats 4000000 in
theorem cmp_any {W0 W:World} {d bx br cr:Nat} {r l:List Int} (h:Srt W0 d bx br cr r l W) (x y:Int) (hx:0≤x∧x<r.length) (hy:0≤y∧y<r.length) :
  Calls Tryz.prog 175 #[.int .i64 x,.int .i64 y,.pointer (some ⟨bx,0,none⟩)] W (fun e w'=>e=.returned (.int .i64 (gd r y.toNat - gd r x.toNat))∧∃ m,w'=W.drewN m):=by
 obtain⟨i,rfl⟩:∃ i:Nat,x=i:=⟨x.toNat,by omega⟩
 obtain⟨j,rfl⟩:∃ j:Nat,y=j:=⟨y.toNat,by omega⟩
 have c1:=h.box
 have c2:=h.rat hx.1 hx.2
 have c3:=h.rat hy.1 hy.2
 have b1:=h.rb (gd r (i:Int).toNat) (gd_mem (by omega))
 have b2:=h.rb (gd r (j:Int).toNat) (gd_mem (by omega))
 clear h
 obtain⟨-,hx⟩:=hx
 obtain⟨-,hy⟩:=hy
 simp only [Int.toNat_natCast] at *
 generalize gd r i=u at *
 generalize gd r j=v at *
 go_enter Tryz.func175,Tryz.ntmps175
 go_wp2
 go_quiet (fail)
 go_wp2
 go_ret
 exact⟨rfl,_,rfl⟩
set_option maxRecDepth 100000 in
set_option maxHeartbeats 4000000 in
theorem swr_any {W0 W:World} {d bx br cr:Nat} {r l:List Int} (h:Srt W0 d bx br cr r l W) {N:Nat} (hN:l.length=N) {A B C:Int} (a b n c:Nat) (eA:A=a) (eB:B=b) (eC:C=n) (ha:a+n≤N) (hb:b+n≤N) :
  Calls Tryz.prog 197 #[.slice (some ⟨d,0,none⟩) N c,.int .i64 A,.int .i64 B,.int .i64 C,cmpV bx] W (fun e W'=>e=.returned (.tuple #[])∧Srt W0 d bx br cr r (swr a b n 0 l) W'):=by
 subst eA eB eC
 have H:=zH h
 have hrn:N≤1048576:=by have:=h.rn;have:=h.ln;omega
 clear h
 have HN:=zH hN
 clear hN
 go_enter Tryz.func197,Tryz.ntmps197
 go_wp2
 go_loopw [10] (fun i wr=>∃ (k:Nat) (m:List Int),i=.int .i64 k∧k≤n∧m.length=N∧Srt W0 d bx br cr r m wr∧swr a b (n - k) k m=swr a b n 0 l) (fun i _=>n - (intOf i).toNat)
 case atStart=>exact⟨0,l,rfl,by omega,HN.out,H.out,rfl⟩
 case round=>
  obtain⟨k,m,rfl,hk,hm,hS,hR⟩:=hrel
  have HS:=zH hS
  have HR:=zH hR
  have HM:=zH hm
  clear hS hR hm
  by_cases hlt:k<n
  ·have hltI:(k:Int)<(n:Int):=by omega
   have hI1:(a:Int)+(k:Int)<(N:Int):=by omega
   have hI2:(b:Int)+(k:Int)<(N:Int):=by omega
   have c1:=HS.out.at (i:=a+k) (by have:=HM.out;omega)
   have c2:=HS.out.at (i:=b+k) (by have:=HM.out;omega)
   have f1:=HS.out.dat.froz (a+k)
   have f2:=HS.out.dat.froz (b+k)
   obtain⟨y1,c3,f3⟩:=HS.out.mid (i:=a+k) (j:=b+k) (by have:=HM.out;omega) (gd m (b+k))
   have HW:=zH (HS.out.swap (i:=a+k) (j:=b+k) (by have:=HM.out;omega) (by have:=HM.out;omega))
   generalize gd m (a+k)=u at *
   generalize gd m (b+k)=v at *
   go_wp2
   go_region
   go_wp2
   go_roundw
   case rel=>exact⟨k+1,swp m (a+k) (b+k),by first|rfl|go_num,by omega,by rw [swp_len];exact HM.out,by first|exact HW.out|exact HW.out.drew,by rw [← HR.out,show n - k=(n - (k+1))+1 by omega];rfl⟩
   case measure=>simp [intOf];omega
  ·have hlt':¬ (k:Int)<(n:Int):=by omega
   obtain rfl:k=n:=by omega
   go_wp2
   go_end0
   refine⟨rfl,HS.out.to ?_⟩
   rw [← HR.out,Nat.sub_self];rfl
end Go.Proofs.YtlenbcmgjancmaaGreatDoor
