import Derived.Test.YtlenbcmgjancmaaGreatDoorMn04
import Derived.Test.YtlenbcmgjancmaaGreatDoorMn03
import Derived.LoopTactic
import Derived.Deep.DeepCutAuto
import Derived.Test.YtlenbcmgjancmaaGreatDoorMn08
set_option linter.unusedVariables false
set_option linter.unusedSimpArgs false
namespace Go.Proofs.YtlenbcmgjancmaaGreatDoor
open Go.RowKit
theorem elB:ElOK 155 5 1 1 (.int .u8 0):=⟨Tryz.underlying155,by kernel_rfl,rfl,by decide,by decide⟩
def bv (l:List Nat):List Value:=l.map fun (r:Nat)=>.int .u8 r
theorem bv_append (a b:List Nat):bv (a ++ b)=bv a ++ bv b:=List.map_append
theorem or_192:∀ y:Fin 32,bits .or .u8 (y.val:Int) 192=((192+y.val:Nat):Int):=by decide +kernel
theorem or_224:∀ y:Fin 16,bits .or .u8 (y.val:Int) 224=((224+y.val:Nat):Int):=by decide +kernel
theorem or_240:∀ y:Fin 8,bits .or .u8 (y.val:Int) 240=((240+y.val:Nat):Int):=by decide +kernel
def PutPost (B n:Nat) (v:Value) (xs:List Value) (ys:List Nat) (w:World) (e:Ending) (w':World):Prop :=
 ∃ v',e=.returned v'∧w'.ownsRow B 5 1 v' (n+ys.length) (xs ++ bv ys)∧Below B w w'
theorem put_end {B n:Nat} {v v':Value} {xs:List Value} {ys:List Nat} {w w1 w':World} (hrow:w.ownsRow B 5 1 v n xs) (hB:B≤w.heap.size) (hb:Below B w w1) (hr:w'.ownsRow B 5 1 v' (n+ys.length) (xs ++ bv ys)) (hg:w1.grownBy w' v.ownBlock) :
  PutPost B n v xs ys w (.returned v') w' :=
 ⟨v',rfl,hr,hb.grown hg (Nat.le_trans hB hb.size) fun k e=>(World.ownsRow.lt hrow k e).1⟩
set_option maxRecDepth 100000 in
set_option maxHeartbeats 1000000 in
theorem put_1 (B n:Nat) (v:Value) (xs:List Value) (q:Nat) (hq:q<128) (w:World) (hrow:w.ownsRow B 5 1 v n xs) (hB:B≤w.heap.size) (hlen:n<100000000000) :
  Calls Tryz.prog 124 #[v,.int .i32 q] w (PutPost B n v xs [q] w):=by
 have HR:=zH hrow
 clear hrow
 go_enter Tryz.func124,Tryz.ntmps124
 go_wp2_with ((with_reducible apply wpList_append_new elB (B:=B) (n:=n) (xs:=xs) (nw:=#[.int .u8 q]));exact rfl;exact rfl;exact rfl;exact HR.out;exact hB;omega;exact rfl;(intro u hu;simp at hu;subst hu;rfl);intro v' w3 hrow3 hgr3 hpl3 K hK)
 go_ret
 exact put_end (ys:=[q]) HR.out hB ((Below.refl _ _).alloc hB _) hrow3 hgr3
theorem mask_63i (r:Int) (h0:0≤r) (h:r<2147483648):bits .and .i32 r 63=r % 64:=bits_mask .i32 31 (by decide) wraps_i32 6 (by decide) r h0 (by simpa using h)
theorem or_192i (y:Int) (h0:0≤y) (h:y<32):bits .or .u8 y 192=192+y:=by
 obtain⟨n,rfl⟩:=Int.eq_ofNat_of_zero_le h0
 exact(or_192 ⟨n,by omega⟩).trans (by simp)
theorem or_224i (y:Int) (h0:0≤y) (h:y<16):bits .or .u8 y 224=224+y:=by
 obtain⟨n,rfl⟩:=Int.eq_ofNat_of_zero_le h0
 exact(or_224 ⟨n,by omega⟩).trans (by simp)
theorem or_240i (y:Int) (h0:0≤y) (h:y<8):bits .or .u8 y 240=240+y:=by
 obtain⟨n,rfl⟩:=Int.eq_ofNat_of_zero_le h0
 exact(or_240 ⟨n,by omega⟩).trans (by simp)
theorem xor_192:bits .xor .u8 IntKind.u8.max 63=192:=by decide +kernel
theorem xor_224:bits .xor .u8 IntKind.u8.max 31=224:=by decide +kernel
theorem xor_240:bits .xor .u8 IntKind.u8.max 15=240:=by decide +kernel
theorem xoi_192:bits .xor .u8 (if IntKind.u8.signed=true then -1 else IntKind.u8.max) 63=192:=by decide +kernel
theorem xoi_224:bits .xor .u8 (if IntKind.u8.signed=true then -1 else IntKind.u8.max) 31=224:=by decide +kernel
theorem xoi_240:bits .xor .u8 (if IntKind.u8.signed=true then -1 else IntKind.u8.max) 15=240:=by decide +kernel
set_option maxRecDepth 100000 in
set_option maxHeartbeats 1000000 in
theorem put_2 (B n:Nat) (v:Value) (xs:List Value) (r:Int) (hq:128≤r) (hq':r<2048) (w:World) (hrow:w.ownsRow B 5 1 v n xs) (hB:B≤w.heap.size) (hlen:n<100000000000) :
  Calls Tryz.prog 124 #[v,.int .i32 r] w (PutPost B n v xs [192+r.toNat / 64,128+r.toNat % 64] w):=by
 have HR:=zH hrow
 have HN:=zH hlen
 clear hrow hlen
 obtain⟨d0,hd0⟩:∃ d,d=r % 64:=⟨_,rfl⟩
 obtain⟨q1,hq1⟩:∃ d,d=r / 64:=⟨_,rfl⟩
 obtain⟨e0,he0⟩:∃ d,d=128+d0:=⟨_,rfl⟩
 obtain⟨e1,he1⟩:∃ d,d=192+q1:=⟨_,rfl⟩
 have A0:Hid (bits .and .i32 r 63=d0):=zH (by rw [mask_63i r (by omega) (by omega),hd0])
 have O0:Hid (bits .or .u8 128 d0=e0):=zH (by rw [u8_or128 d0 (by omega) (by omega),he0])
 have D0:Hid (r / 64=q1):=zH hq1.symm
 have O1:Hid (bits .or .u8 q1 192=e1):=zH ((or_192i q1 (by omega) (by omega)).trans he1.symm)
 have bd0:d0<64:=by omega
 have cd0:0≤d0:=by omega
 have cq1:0≤q1:=by omega
 have bq1:q1<32:=by omega
 have be0:e0<256:=by omega
 have ce0:0≤e0:=by omega
 have be1:e1<256:=by omega
 have ce1:0≤e1:=by omega
 have HY:Hid (bv [192+r.toNat / 64,128+r.toNat % 64]=[.int .u8 e1,.int .u8 e0]):=zH (by
  simp only [bv,List.map_cons,List.map_nil,List.cons.injEq,Value.int.injEq,true_and,and_true];omega)
 clear hd0 hq1 he0 he1
 go_enter Tryz.func124,Tryz.ntmps124
 go_upto_region 19 with (fail)
 have f0:=A0.out
 have f1:=O0.out
 go_upto_region 20 with (fail)
 clear f0 f1
 have f2:=D0.out
 go_upto_region 21 with (fail)
 clear f2
 have f3:=O1.out
 have f4:=xor_192
 have f5:=xoi_192
 go_wp2_with ((with_reducible apply wpList_append_cells elB (B:=B) (n:=n) (xs:=xs) (news:=[.int .u8 e1,.int .u8 e0]));exact rfl;exact rfl;exact rfl;exact news_of_alloc _ _ _ 2 _ rfl;(intro u hu;simp at hu;rcases hu with rfl|rfl<;>rfl);exact HR.out.alloc _;(simp;omega);(have:=HN.out;omega);decide;intro v' w3 hrow3 hgr3 hpl3 K hK)
 go_ret
 exact put_end (ys:=[192+r.toNat / 64,128+r.toNat % 64]) HR.out hB ((Below.refl _ _).alloc hB _) (by rw [HY.out];exact hrow3) hgr3
set_option maxRecDepth 100000 in
set_option maxHeartbeats 1000000 in
theorem put_3 (B n:Nat) (v:Value) (xs:List Value) (r:Int) (hq:2048≤r) (hq':r<65536) (hsur:¬ (55296≤r∧r≤57343)) (w:World) (hrow:w.ownsRow B 5 1 v n xs) (hB:B≤w.heap.size) (hlen:n<100000000000) :
  Calls Tryz.prog 124 #[v,.int .i32 r] w (PutPost B n v xs [224+r.toNat / 4096,128+r.toNat / 64 % 64,128+r.toNat % 64] w):=by
 have HR:=zH hrow
 have HN:=zH hlen
 clear hrow hlen
 obtain⟨d0,hd0⟩:∃ d,d=r % 64:=⟨_,rfl⟩
 obtain⟨q1,hq1⟩:∃ d,d=r / 64:=⟨_,rfl⟩
 obtain⟨e0,he0⟩:∃ d,d=128+d0:=⟨_,rfl⟩
 obtain⟨d1,hd1⟩:∃ d,d=q1 % 64:=⟨_,rfl⟩
 obtain⟨q2,hq2⟩:∃ d,d=q1 / 64:=⟨_,rfl⟩
 obtain⟨e1,he1⟩:∃ d,d=128+d1:=⟨_,rfl⟩
 obtain⟨e2,he2⟩:∃ d,d=224+q2:=⟨_,rfl⟩
 have A0:Hid (bits .and .i32 r 63=d0):=zH (by rw [mask_63i r (by omega) (by omega),hd0])
 have O0:Hid (bits .or .u8 128 d0=e0):=zH (by rw [u8_or128 d0 (by omega) (by omega),he0])
 have D0:Hid (r / 64=q1):=zH hq1.symm
 have A1:Hid (bits .and .i32 q1 63=d1):=zH (by rw [mask_63i q1 (by omega) (by omega),hd1])
 have O1:Hid (bits .or .u8 128 d1=e1):=zH (by rw [u8_or128 d1 (by omega) (by omega),he1])
 have D1:Hid (q1 / 64=q2):=zH hq2.symm
 have O2:Hid (bits .or .u8 q2 224=e2):=zH ((or_224i q2 (by omega) (by omega)).trans he2.symm)
 have bd0:d0<64:=by omega
 have cd0:0≤d0:=by omega
 have bd1:d1<64:=by omega
 have cd1:0≤d1:=by omega
 have cq1:0≤q1:=by omega
 have bq1:q1<2097152:=by omega
 have cq2:0≤q2:=by omega
 have bq2:q2<16:=by omega
 have be0:e0<256:=by omega
 have ce0:0≤e0:=by omega
 have be1:e1<256:=by omega
 have ce1:0≤e1:=by omega
 have be2:e2<256:=by omega
 have ce2:0≤e2:=by omega
 have HY:Hid (bv [224+r.toNat / 4096,128+r.toNat / 64 % 64,128+r.toNat % 64]=[.int .u8 e2,.int .u8 e1,.int .u8 e0]):=zH (by
  simp only [bv,List.map_cons,List.map_nil,List.cons.injEq,Value.int.injEq,true_and,and_true];omega)
 clear hd0 hd1 hq1 hq2 he0 he1 he2
 by_cases hs:55296≤r
 ·have hs':¬ r≤57343:=fun h=>hsur ⟨hs,h⟩
  clear hsur
  go_enter Tryz.func124,Tryz.ntmps124
  go_upto_region 17 with (fail)
  have f0:=A0.out
  have f1:=O0.out
  go_upto_region 18 with (fail)
  clear f0 f1
  have f2:=D0.out
  go_upto_region 19 with (fail)
  clear f2
  have f0:=A1.out
  have f1:=O1.out
  go_upto_region 20 with (fail)
  clear f0 f1
  have f2:=D1.out
  go_upto_region 21 with (fail)
  clear f2
  have f3:=O2.out
  have f4:=xor_224
  have f5:=xoi_224
  go_wp2_with ((with_reducible apply wpList_append_cells elB (B:=B) (n:=n) (xs:=xs) (news:=[.int .u8 e2,.int .u8 e1,.int .u8 e0]));exact rfl;exact rfl;exact rfl;exact news_of_alloc _ _ _ 3 _ rfl;(intro u hu;simp at hu;rcases hu with rfl|rfl|rfl<;>rfl);exact HR.out.alloc _;(simp;omega);(have:=HN.out;omega);decide;intro v' w3 hrow3 hgr3 hpl3 K hK)
  go_ret
  exact put_end (ys:=[224+r.toNat / 4096,128+r.toNat / 64 % 64,128+r.toNat % 64]) HR.out hB ((Below.refl _ _).alloc hB _) (by rw [HY.out];exact hrow3) hgr3
 ·clear hsur
  go_enter Tryz.func124,Tryz.ntmps124
  go_upto_region 17 with (fail)
  have f0:=A0.out
  have f1:=O0.out
  go_upto_region 18 with (fail)
  clear f0 f1
  have f2:=D0.out
  go_upto_region 19 with (fail)
  clear f2
  have f0:=A1.out
  have f1:=O1.out
  go_upto_region 20 with (fail)
  clear f0 f1
  have f2:=D1.out
  go_upto_region 21 with (fail)
  clear f2
  have f3:=O2.out
  have f4:=xor_224
  have f5:=xoi_224
  go_wp2_with ((with_reducible apply wpList_append_cells elB (B:=B) (n:=n) (xs:=xs) (news:=[.int .u8 e2,.int .u8 e1,.int .u8 e0]));exact rfl;exact rfl;exact rfl;exact news_of_alloc _ _ _ 3 _ rfl;(intro u hu;simp at hu;rcases hu with rfl|rfl|rfl<;>rfl);exact HR.out.alloc _;(simp;omega);(have:=HN.out;omega);decide;intro v' w3 hrow3 hgr3 hpl3 K hK)
  go_ret
  exact put_end (ys:=[224+r.toNat / 4096,128+r.toNat / 64 % 64,128+r.toNat % 64]) HR.out hB ((Below.refl _ _).alloc hB _) (by rw [HY.out];exact hrow3) hgr3
set_option maxRecDepth 100000 in
set_option maxHeartbeats 1000000 in
theorem put_4 (B n:Nat) (v:Value) (xs:List Value) (r:Int) (hq:65536≤r) (hq':r<1114112) (w:World) (hrow:w.ownsRow B 5 1 v n xs) (hB:B≤w.heap.size) (hlen:n<100000000000) :
  Calls Tryz.prog 124 #[v,.int .i32 r] w (PutPost B n v xs [240+r.toNat / 262144,128+r.toNat / 4096 % 64,128+r.toNat / 64 % 64,128+r.toNat % 64] w):=by
 have HR:=zH hrow
 have HN:=zH hlen
 clear hrow hlen
 obtain⟨d0,hd0⟩:∃ d,d=r % 64:=⟨_,rfl⟩
 obtain⟨q1,hq1⟩:∃ d,d=r / 64:=⟨_,rfl⟩
 obtain⟨e0,he0⟩:∃ d,d=128+d0:=⟨_,rfl⟩
 obtain⟨d1,hd1⟩:∃ d,d=q1 % 64:=⟨_,rfl⟩
 obtain⟨q2,hq2⟩:∃ d,d=q1 / 64:=⟨_,rfl⟩
 obtain⟨e1,he1⟩:∃ d,d=128+d1:=⟨_,rfl⟩
 obtain⟨d2,hd2⟩:∃ d,d=q2 % 64:=⟨_,rfl⟩
 obtain⟨q3,hq3⟩:∃ d,d=q2 / 64:=⟨_,rfl⟩
 obtain⟨e2,he2⟩:∃ d,d=128+d2:=⟨_,rfl⟩
 obtain⟨e3,he3⟩:∃ d,d=240+q3:=⟨_,rfl⟩
 have A0:Hid (bits .and .i32 r 63=d0):=zH (by rw [mask_63i r (by omega) (by omega),hd0])
 have O0:Hid (bits .or .u8 128 d0=e0):=zH (by rw [u8_or128 d0 (by omega) (by omega),he0])
 have D0:Hid (r / 64=q1):=zH hq1.symm
 have A1:Hid (bits .and .i32 q1 63=d1):=zH (by rw [mask_63i q1 (by omega) (by omega),hd1])
 have O1:Hid (bits .or .u8 128 d1=e1):=zH (by rw [u8_or128 d1 (by omega) (by omega),he1])
 have D1:Hid (q1 / 64=q2):=zH hq2.symm
 have A2:Hid (bits .and .i32 q2 63=d2):=zH (by rw [mask_63i q2 (by omega) (by omega),hd2])
 have O2:Hid (bits .or .u8 128 d2=e2):=zH (by rw [u8_or128 d2 (by omega) (by omega),he2])
 have D2:Hid (q2 / 64=q3):=zH hq3.symm
 have O3:Hid (bits .or .u8 q3 240=e3):=zH ((or_240i q3 (by omega) (by omega)).trans he3.symm)
 have bd0:d0<64:=by omega
 have cd0:0≤d0:=by omega
 have bd1:d1<64:=by omega
 have cd1:0≤d1:=by omega
 have bd2:d2<64:=by omega
 have cd2:0≤d2:=by omega
 have cq1:0≤q1:=by omega
 have bq1:q1<2097152:=by omega
 have cq2:0≤q2:=by omega
 have bq2:q2<2097152:=by omega
 have cq3:0≤q3:=by omega
 have bq3:q3<8:=by omega
 have be0:e0<256:=by omega
 have ce0:0≤e0:=by omega
 have be1:e1<256:=by omega
 have ce1:0≤e1:=by omega
 have be2:e2<256:=by omega
 have ce2:0≤e2:=by omega
 have be3:e3<256:=by omega
 have ce3:0≤e3:=by omega
 have HY:Hid (bv [240+r.toNat / 262144,128+r.toNat / 4096 % 64,128+r.toNat / 64 % 64,128+r.toNat % 64]=[.int .u8 e3,.int .u8 e2,.int .u8 e1,.int .u8 e0]):=zH (by
  simp only [bv,List.map_cons,List.map_nil,List.cons.injEq,Value.int.injEq,true_and,and_true];omega)
 clear hd0 hd1 hd2 hq1 hq2 hq3 he0 he1 he2 he3
 have hs:55296≤r:=by omega
 have hs':¬ r≤57343:=by omega
 go_enter Tryz.func124,Tryz.ntmps124
 go_upto_region 15 with (fail)
 have f0:=A0.out
 have f1:=O0.out
 go_upto_region 16 with (fail)
 clear f0 f1
 have f2:=D0.out
 go_upto_region 17 with (fail)
 clear f2
 have f0:=A1.out
 have f1:=O1.out
 go_upto_region 18 with (fail)
 clear f0 f1
 have f2:=D1.out
 go_upto_region 19 with (fail)
 clear f2
 have f0:=A2.out
 have f1:=O2.out
 go_upto_region 20 with (fail)
 clear f0 f1
 have f2:=D2.out
 go_upto_region 21 with (fail)
 clear f2
 have f3:=O3.out
 have f4:=xor_240
 have f5:=xoi_240
 go_wp2_with ((with_reducible apply wpList_append_cells elB (B:=B) (n:=n) (xs:=xs) (news:=[.int .u8 e3,.int .u8 e2,.int .u8 e1,.int .u8 e0]));exact rfl;exact rfl;exact rfl;exact news_of_alloc _ _ _ 4 _ rfl;(intro u hu;simp at hu;rcases hu with rfl|rfl|rfl|rfl<;>rfl);exact HR.out.alloc _;(simp;omega);(have:=HN.out;omega);decide;intro v' w3 hrow3 hgr3 hpl3 K hK)
 go_ret
 exact put_end (ys:=[240+r.toNat / 262144,128+r.toNat / 4096 % 64,128+r.toNat / 64 % 64,128+r.toNat % 64]) HR.out hB ((Below.refl _ _).alloc hB _) (by rw [HY.out];exact hrow3) hgr3
theorem bad_63:bits .and .i32 65533 63=61:=by decide +kernel
theorem bad_61:bits .or .u8 128 61=189:=by decide +kernel
theorem bad_1023:bits .and .i32 1023 63=63:=by decide +kernel
theorem bad_191:bits .or .u8 128 63=191:=by decide +kernel
theorem bad_239:bits .or .u8 15 224=239:=by decide +kernel
set_option maxRecDepth 100000 in
set_option maxHeartbeats 1000000 in
theorem put_bad (B n:Nat) (v:Value) (xs:List Value) (r:Int) (hq:r<0∨(55296≤r∧r≤57343)∨1114111<r) (w:World) (hrow:w.ownsRow B 5 1 v n xs) (hB:B≤w.heap.size) (hlen:n<100000000000) :
  Calls Tryz.prog 124 #[v,.int .i32 r] w (PutPost B n v xs [239,191,189] w):=by
 have HR:=zH hrow
 have HN:=zH hlen
 clear hrow hlen
 have a1:=bad_63
 have a2:=bad_61
 have a3:=bad_1023
 have a4:=bad_191
 have a5:=bad_239
 have A:=zH (And.intro a1 (And.intro a2 (And.intro a3 (And.intro a4 a5))))
 clear a1 a2 a3 a4 a5
 rcases hq with hq|hq|hq
 ·go_enter Tryz.func124,Tryz.ntmps124
  go_upto_region 17 with (fail)
  have a1:=A.out.1
  have a2:=A.out.2.1
  have a3:=A.out.2.2.1
  have a4:=A.out.2.2.2.1
  have a5:=A.out.2.2.2.2
  have a6:=xor_224
  go_wp2_with ((with_reducible apply wpList_append_cells elB (B:=B) (n:=n) (xs:=xs) (news:=[.int .u8 239,.int .u8 191,.int .u8 189]));exact rfl;exact rfl;exact rfl;exact news_of_alloc _ _ _ 3 _ rfl;(intro u hu;simp at hu;rcases hu with rfl|rfl|rfl<;>rfl);exact HR.out.alloc _;(simp;omega);(have:=HN.out;omega);decide;intro v' w3 hrow3 hgr3 hpl3 K hK)
  go_ret
  exact put_end (ys:=[239,191,189]) HR.out hB ((Below.refl _ _).alloc hB _) hrow3 hgr3
 ·obtain⟨hq,hq'⟩:=hq
  have hn0:¬ r<0:=by omega
  go_enter Tryz.func124,Tryz.ntmps124
  go_upto_region 17 with (fail)
  have a1:=A.out.1
  have a2:=A.out.2.1
  have a3:=A.out.2.2.1
  have a4:=A.out.2.2.2.1
  have a5:=A.out.2.2.2.2
  have a6:=xor_224
  go_wp2_with ((with_reducible apply wpList_append_cells elB (B:=B) (n:=n) (xs:=xs) (news:=[.int .u8 239,.int .u8 191,.int .u8 189]));exact rfl;exact rfl;exact rfl;exact news_of_alloc _ _ _ 3 _ rfl;(intro u hu;simp at hu;rcases hu with rfl|rfl|rfl<;>rfl);exact HR.out.alloc _;(simp;omega);(have:=HN.out;omega);decide;intro v' w3 hrow3 hgr3 hpl3 K hK)
  go_ret
  exact put_end (ys:=[239,191,189]) HR.out hB ((Below.refl _ _).alloc hB _) hrow3 hgr3
 ·have hn0:¬ r<0:=by omega
  have hq1:55296≤r:=by omega
  have hq2:¬ r≤57343:=by omega
  go_enter Tryz.func124,Tryz.ntmps124
  go_upto_region 17 with (fail)
  have a1:=A.out.1
  have a2:=A.out.2.1
  have a3:=A.out.2.2.1
  have a4:=A.out.2.2.2.1
  have a5:=A.out.2.2.2.2
  have a6:=xor_224
  go_wp2_with ((with_reducible apply wpList_append_cells elB (B:=B) (n:=n) (xs:=xs) (news:=[.int .u8 239,.int .u8 191,.int .u8 189]));exact rfl;exact rfl;exact rfl;exact news_of_alloc _ _ _ 3 _ rfl;(intro u hu;simp at hu;rcases hu with rfl|rfl|rfl<;>rfl);exact HR.out.alloc _;(simp;omega);(have:=HN.out;omega);decide;intro v' w3 hrow3 hgr3 hpl3 K hK)
  go_ret
  exact put_end (ys:=[239,191,189]) HR.out hB ((Below.refl _ _).alloc hB _) hrow3 hgr3
end Go.Proofs.YtlenbcmgjancmaaGreatDoor
namespace Go.Proofs.YtlenbcmgjancmaaGreatDoor
open Go.RowKit
def decV (l:List UInt8):Value:=.tuple #[.int .i32 (firstS l).1,.int .i64 (firstS l).2.1]
set_option maxRecDepth 100000 in
set_option maxHeartbeats 1000000 in
theorem decode_any (s:ByteArray) (w:World) (hs:s.size≤1000000000000):Calls Tryz.prog 119 #[.string s] w (VBel (decV s.data.toList) w):=by
 cases hl:s.data.toList with
 |nil=>
  have e:s=ByteArray.empty:=by
   have:s.data = #[]:=by simpa using hl
   cases s;simp at this;subst this;rfl
  subst e
  go_enter Tryz.func119,Tryz.ntmps119
  go_wp2
  go_ret2
  exact⟨rfl,by(repeat (first|exact Below.refl _ _|assumption|refine below_drewN ?_ _|refine Below.drew ?_|(refine Below.alloc ?_ ?bs _;(case bs=>first|omega|(simp;done)|(simp;omega)))|(refine Below.setCell ?_ ?bs _;(case bs=>first|omega|(simp;done)|(simp;omega)))))⟩
 |cons b cs=>
  have hne:s.toList=b :: cs:=by rw [← hl];simp [ByteArray.toList_eq]
  have hsz:s.size=cs.length+1:=by
   have:=congrArg List.length hl
   simpa using this
  have HF:=fun (w':World) (hc:w'.cell? ⟨w.heap.size,0,none⟩=some (.string s))=>first_any 152 #[.pointer (some ⟨w.heap.size,0,none⟩)] b cs w' (fun _ _=>rfl) (fun i c h=>by
   have hi:i<s.size:=by rw [hsz];have:=(List.getElem?_eq_some_iff.1 h).1;simpa using this
   have e:c=s[i]:=by
    rw [← hl] at h
    obtain⟨h1,h2⟩:=List.getElem?_eq_some_iff.1 h
    rw [← h2];rfl
   subst e
   exact decode1_any w.heap.size s i hi w' hc)
  have HF2:∀ (w':World),w'.cell? ⟨w.heap.size,0,none⟩=some (.string s)→Calls Tryz.prog 151 #[.func (.func 152) #[] #[.pointer (some ⟨w.heap.size,0,none⟩)],.int .i64 (s.size:Int)] w' (VRet (firstV (b :: cs)) w'):=by
   intro w' hc
   rw [hsz];exact HF w' hc
  have H:=zH HF2
  clear HF HF2 hsz hl
  have he:s.toList.isEmpty=false:=by rw [hne];rfl
  clear hne
  go_enter Tryz.func119,Tryz.ntmps119
  go_wp2_with (go_at_call 151;((with_reducible refine(H.out _ (by simp)).mono ?_);rintro e w2 ⟨rfl,rfl⟩;unfold firstV))
  go_ret2
  exact⟨rfl,by(repeat (first|exact Below.refl _ _|assumption|refine below_drewN ?_ _|refine Below.drew ?_|(refine Below.alloc ?_ ?bs _;(case bs=>first|omega|(simp;done)|(simp;omega)))|(refine Below.setCell ?_ ?bs _;(case bs=>first|omega|(simp;done)|(simp;omega)))))⟩
end Go.Proofs.YtlenbcmgjancmaaGreatDoor
namespace Go.Proofs.YtlenbcmgjancmaaGreatDoor
open Go.RowKit
theorem elR:ElOK 116 21 1 4 (.int .i32 0):=⟨Tryz.underlying116,by kernel_rfl,rfl,by decide,by decide⟩
def rv (l:List Nat):List Value:=l.map fun (r:Nat)=>.int .i32 r
theorem rv_append (a b:List Nat):rv (a ++ b)=rv a ++ rv b:=List.map_append
theorem blen (s:ByteArray):s.data.toList.length=s.size:=by simp
theorem extract_toList (s:ByteArray) (k:Nat):(s.extract k s.size).data.toList=s.data.toList.drop k:=by
 rw [ByteArray.data_extract,Array.toList_extract]
 simp only [List.extract]
 rw [List.take_of_length_le (by simp)]
def RunesInv (s:ByteArray) (w:World) (k:Nat) (v:Value) (wr:World):Prop :=
 ∃ pre:List Nat,runesS s.data.toList=pre ++ runesS (s.data.toList.drop k)∧pre.length≤k∧wr.ownsRow w.heap.size 21 1 v pre.length (rv pre)∧Below w.heap.size w wr
set_option maxRecDepth 100000 in
set_option maxHeartbeats 1000000 in
theorem runes_any (s:ByteArray) (w:World) (hs:s.size≤100000000000):Calls Tryz.prog 82 #[.string s] w (VRow 21 1 (runesS s.data.toList).length (rv (runesS s.data.toList)) w):=by
 go_enter Tryz.func82,Tryz.ntmps82
 go_wp2
 go_loopw [3,4] (fun v i wr=>∃ k:Nat,i=.int .i64 k∧k≤s.size∧RunesInv s w k v wr) (fun _ i _=>s.size - (intOf i).toNat)
 case atStart=>exact⟨0,rfl,by omega,[],rfl,Nat.le_refl _,World.ownsRow_nil _ _ _ _,Below.refl _ _⟩
 case round=>
  obtain⟨k,rfl,hk,pre,hpre,hpl,hrow,hb⟩:=hrel
  have HP:=zH hpre
  have HB:=zH hb
  have HR:=zH hrow
  clear hpre hb hrow
  by_cases hlt:k<s.size
  ·obtain⟨b,cs,hd⟩:∃ b cs,s.data.toList.drop k=b :: cs:=by
    have:(s.data.toList.drop k).length=s.size - k:=by rw [List.length_drop,blen]
    match h:s.data.toList.drop k with
    | []=>rw [h] at this;simp at this;omega
    |b :: cs=>exact⟨b,cs,rfl⟩
   obtain⟨⟨r,n,o⟩,hf⟩:∃ p,firstS (b :: cs)=p:=⟨_,rfl⟩
   have hsz:=firstS_size b cs
   rw [hf] at hsz
   simp only at hsz
   have hlen:(b :: cs).length=s.size - k:=by rw [← hd,List.length_drop,blen]
   have hn1:1≤n:=hsz.1
   have hn2:k+n≤s.size:=by omega
   have HV:Hid (decV (s.extract k s.size).data.toList=.tuple #[.int .i32 r,.int .i64 n]):=zH (by rw [extract_toList,hd];unfold decV;rw [hf])
   have HN:Hid (runesS s.data.toList=(pre ++ [r]) ++ runesS (s.data.toList.drop (k+n))):=zH (by
    rw [HP.out,hd]
    conv=>lhs;rw [runesS]
    rw [hf]
    simp only
    rw [← hd,List.drop_drop,List.append_assoc];rfl)
   have hln:pre.length<1000000000000:=by omega
   have hx:(s.extract k s.size).size≤1000000000000:=by simp [ByteArray.size_extract];omega
   have HX:=zH hx
   clear hd hf hsz hlen hx
   go_wp2_with (first|(go_at_call 119;((with_reducible refine(decode_any _ _ HX.out).mono ?_);rw [HV.out];rintro e w1 ⟨rfl,hb1⟩))|((with_reducible apply wpList_append_new elR (B:=w.heap.size) (n:=pre.length) (xs:=rv pre) (nw:=#[.int .i32 r]));exact rfl;exact rfl;exact rfl;exact orow_belowSize HR.out hb1;exact Nat.le_trans HB.out.size hb1.size;exact hln;exact rfl;(intro u hu;simp at hu;subst hu;rfl);intro v' w3 hrow3 hgr3 hpl3 K hK))
   go_roundw
   case rel=>
    refine⟨k+n,by go_num,by omega,pre ++ [r],HN.out,by simp;omega,?_,?_⟩
    ·rw [rv_append,List.length_append];exact hrow3
    ·exact(((HB.out.trans (hb1.mono HB.out.size)).alloc (Nat.le_trans HB.out.size hb1.size) _).grown hgr3 (by have:=HB.out.size;have:=hb1.size;simp;omega) (fun k e=>(World.ownsRow.lt HR.out k e).1))
   case measure=>simp [intOf];omega
  ·obtain rfl:k=s.size:=by omega
   have HN:Hid (runesS s.data.toList=pre):=zH (by
    rw [HP.out,show s.data.toList.drop s.size=[] from List.drop_eq_nil_of_le (by rw [blen];exact Nat.le_refl _)];simp [runesS])
   go_wp2
   go_ret
   exact⟨_,rfl,HB.out,by rw [HN.out];exact HR.out⟩
end Go.Proofs.YtlenbcmgjancmaaGreatDoor
