import Derived.Test.YtlenbcmgjancmaaGreatDoorMn09
import Derived.Test.YtlenbcmgjancmaaGreatDoorMn06
import Derived.Test.YtlenbcmgjancmaaGreatDoorMn07
import Derived.Laws.IdiomStrings
import Derived.Lib.BufferRead
set_option linter.unusedVariables false
set_option linter.unusedSimpArgs false
namespace Go.Proofs.YtlenbcmgjancmaaGreatDoor
open Go.RowKit
theorem putS_eq (r:Int):∃ q:Nat,q≤1114111∧putS r=(if q<128 then [q] else if q<2048 then [192+q / 64,128+q % 64] else if q<65536 then [224+q / 4096,128+q / 64 % 64,128+q % 64]
  else [240+q / 262144,128+q / 4096 % 64,128+q / 64 % 64,128+q % 64])∧(r<0∨(55296≤r∧r≤57343)∨1114111<r→q=65533)∧(¬ (r<0∨(55296≤r∧r≤57343)∨1114111<r)→q=r.toNat):=by
 refine⟨if r<0∨(55296≤r∧r≤57343)∨1114111<r then 65533 else r.toNat,?_,rfl,fun h=>if_pos h,fun h=>if_neg h⟩
 by_cases h:r<0∨(55296≤r∧r≤57343)∨1114111<r
 ·rw [if_pos h];omega
 ·rw [if_neg h];omega
theorem putS_lt (r:Int):∀ y ∈ putS r,y<256:=by
 intro y hy
 obtain⟨q,hq,e,_⟩:=putS_eq r
 rw [e] at hy
 by_cases h1:q<128
 ·rw [if_pos h1] at hy;simp at hy;omega
 ·rw [if_neg h1] at hy
  by_cases h2:q<2048
  ·rw [if_pos h2] at hy;simp at hy;omega
  ·rw [if_neg h2] at hy
   by_cases h3:q<65536
   ·rw [if_pos h3] at hy;simp at hy;omega
   ·rw [if_neg h3] at hy;simp at hy;omega
theorem putS_len (r:Int):1≤(putS r).length∧(putS r).length≤4:=by
 obtain⟨q,hq,e,_⟩:=putS_eq r
 rw [e]
 by_cases h1:q<128
 ·rw [if_pos h1];simp
 ·rw [if_neg h1]
  by_cases h2:q<2048
  ·rw [if_pos h2];simp
  ·rw [if_neg h2]
   by_cases h3:q<65536
   ·rw [if_pos h3];simp
   ·rw [if_neg h3];simp
theorem put_any (B n:Nat) (v:Value) (xs:List Value) (r:Nat) (hr:r<2147483648) (w:World) (hrow:w.ownsRow B 5 1 v n xs) (hB:B≤w.heap.size) (hlen:n<100000000000) :
  Calls Tryz.prog 124 #[v,.int .i32 r] w (PutPost B n v xs (putS r) w):=by
 obtain⟨q,hq,e,e1,e2⟩:=putS_eq r
 rw [e]
 by_cases hb:((r:Int)<0∨(55296≤(r:Int)∧(r:Int)≤57343)∨1114111<(r:Int))
 ·rw [e1 hb];exact put_bad B n v xs r hb w hrow hB hlen
 ·have hq':q=r:=by have:=e2 hb;simpa using this
  subst hq'
  by_cases h1:q<128
  ·rw [if_pos h1];exact put_1 B n v xs q h1 w hrow hB hlen
  ·rw [if_neg h1]
   by_cases h2:q<2048
   ·rw [if_pos h2];exact put_2 B n v xs q (by omega) (by omega) w hrow hB hlen
   ·rw [if_neg h2]
    by_cases h3:q<65536
    ·rw [if_pos h3];exact put_3 B n v xs q (by omega) (by omega) (by omega) w hrow hB hlen
    ·rw [if_neg h3];exact put_4 B n v xs q (by omega) (by omega) w hrow hB hlen
def mkS (l:List Nat):ByteArray:=⟨(toBytes l).toArray⟩
theorem own_convert {B n:Nat} {v:Value} {ys:List Nat} {w:World} (hlt:∀ y ∈ ys,y<256) (h:w.ownsRow B 5 1 v n (bv ys)) :
  (convert 155 9 v).run Tryz.prog w=.ok (.string (mkS ys)) w:=by
 have hn:n=ys.length:=by have:=h.1;simp [bv] at this;omega
 rcases h.2 with ⟨rfl,h0⟩|⟨g,cap,cur,rfl,_⟩
 ·have:ys=[]:=List.eq_nil_of_length_eq_zero (by omega)
  subst this
  exact Lib.run_convert_nil_bytes w _ _ _ 0 Tryz.underlying155 Tryz.underlying5 Tryz.underlying9
 ·have e:n=(toBytes ys).length:=by simp [toBytes,hn]
  have hc:∀ j (hj:j<(toBytes ys).length),w.cell? ((⟨g,0,none⟩:Addr).add j)=some (.int .u8 ((toBytes ys)[j].toNat:Int)):=by
   intro j hj
   have hj':j<ys.length:=by simpa [toBytes] using hj
   refine h.cells (g:=g) rfl j _ ?_
   have h256:=hlt ys[j] (List.getElem_mem hj')
   simp [bv,toBytes,List.getElem?_eq_getElem hj']
   omega
  subst e
  exact run_convert_bytes_back w _ _ _ ⟨g,0,none⟩ cap (toBytes ys) Tryz.underlying155 Tryz.underlying5 Tryz.underlying9 hc
theorem textS_snoc (l:List Nat) (r:Nat):textS (l ++ [r])=textS l ++ putS r:=by simp [textS]
theorem textS_lt (l:List Nat):∀ y ∈ textS l,y<256:=by
 intro y hy
 obtain⟨r,_,h⟩:=List.mem_flatMap.1 hy
 exact putS_lt _ y h
theorem textS_len (l:List Nat):(textS l).length≤4*l.length:=by
 induction l with
 |nil=>simp [textS]
 |cons r l ih=>
  simp only [textS,List.flatMap_cons,List.length_append,List.length_cons] at ih ⊢
  have h2:(putS (Int.ofNat r)).length≤4:=(putS_len _).2
  omega
set_option maxRecDepth 100000 in
set_option maxHeartbeats 1000000 in
theorem text_any (A:Option Addr) (c n:Nat) (rs:List Nat) (hn:rs.length=n) (w:World) (hA:0<n→∃ g o,A=some ⟨g,o,none⟩∧g<w.heap.size∧RdR w g o rs) (hm:n≤10000000000) (hlt:∀ x ∈ rs,x<2147483648) :
  Calls Tryz.prog 87 #[.slice A n c] w (VBel (.string (mkS (textS rs))) w):=by
 have HA:=zH hA
 have HLt:=zH hlt
 have HLN:=zH hn
 clear hA hlt hn
 go_enter Tryz.func87,Tryz.ntmps87
 go_wp2
 go_loopw [3,8] (fun v i wr=>∃ k:Nat,i=.int .i64 k∧k≤n∧Hid (wr.ownsRow w.heap.size 5 1 v (textS (rs.take k)).length (bv (textS (rs.take k))))∧Below w.heap.size w wr) (fun _ i _=>n - (intOf i).toNat)
 case atStart=>exact⟨0,rfl,by omega,World.ownsRow_nil _ _ _ _,Below.refl _ _⟩
 case round=>
  obtain⟨k,rfl,hk,HR,hbe⟩:=hrel
  have HBE:=zH hbe
  by_cases hlt:k<n
  ·obtain⟨g,o,rfl,hg,hR⟩:=HA.out (by omega)
   obtain⟨y,hy⟩:∃ y,rs[k]?=some y:=⟨_,List.getElem?_eq_getElem (by have:=HLN.out;omega)⟩
   have hcy:wr.cell? ⟨g,o+k,none⟩=some (.int .i32 y):=(hbe.cell (p:=⟨g,o+k,none⟩) hg).trans (hR k y hy)
   have hy31:=HLt.out y (List.mem_of_getElem? hy)
   have HT:Hid (rs.take (k+1)=rs.take k ++ [y]):=zH (by
    obtain⟨h1,h2⟩:=List.getElem?_eq_some_iff.1 hy
    rw [List.take_succ_eq_append_getElem h1,h2])
   have HL:Hid ((textS (rs.take k)).length<100000000000):=zH (by
    have:=textS_len (rs.take k);simp at this;omega)
   have HS:Hid (w.heap.size≤wr.heap.size):=zH hbe.size
   clear hbe hR hy
   go_wp2_with (go_at_call 124;((with_reducible refine(put_any w.heap.size _ _ _ y hy31 _ HR.out HS.out HL.out).mono ?_);rintro e w1 ⟨v1,rfl,hrow1,hb1⟩;have HR1:=zH hrow1;clear hrow1))
   go_roundw
   case rel=>
    refine⟨k+1,by go_num,by omega,?_,HBE.out.trans hb1⟩
    rw [HT.out,textS_snoc,bv_append,List.length_append]
    exact HR1.out
   case measure=>simp [intOf];omega
  ·obtain rfl:k=n:=by omega
   have HT:Hid (rs.take k=rs):=zH (List.take_of_length_le (by rw [HLN.out];exact Nat.le_refl _))
   have hR:=HR.out
   rw [HT.out] at hR
   have hcv:=own_convert (textS_lt rs) hR
   clear hR hbe
   go_wp2
   go_ret
   exact⟨rfl,HBE.out⟩
end Go.Proofs.YtlenbcmgjancmaaGreatDoor
