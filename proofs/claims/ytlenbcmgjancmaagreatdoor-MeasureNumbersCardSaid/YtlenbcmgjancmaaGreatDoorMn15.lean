import Derived.Test.YtlenbcmgjancmaaGreatDoorMn13
import Derived.Test.YtlenbcmgjancmaaGreatDoorMn14
import Derived.Lib.Builder
import Derived.Lib.AppendStr
import Derived.Lib.UnsafeStr
import Derived.Laws.Externs
set_option linter.unusedVariables false
set_option linter.unusedSimpArgs false
namespace Go.Proofs.YtlenbcmgjancmaaGreatDoor
open Go.RowKit
theorem sizeBd:(Tryz.prog.info? 157).map (·.size)=some 2:=by kernel_rfl
theorem liesBd:liesAt Tryz.prog Tryz.prog.depth 157 (2 / Tryz.prog.cellsOf 157) 0 157 1=true:=by kernel_rfl
set_option maxHeartbeats 1000000 in
set_option maxRecDepth 100000 in
theorem copyCheck_used (b:Nat) (w:World) (h0:w.cell? ⟨b,0,none⟩=some (.pointer (some ⟨b,0,none⟩))) :
  Calls Tryz.prog 146 #[.pointer (some ⟨b,0,none⟩)] w fun e w'=>e=.returned (.tuple #[])∧w'=w:=by
 obtain⟨j,hj,_⟩:=Option.map_eq_some_iff.1 sizeBd
 go_enter Tryz.func146,Tryz.ntmps146
 go_wp2
 rw [Lib.run_neq_ptr_same w _ Tryz.underlying154 hj]
 go_wp2
 go_end0
 exact⟨rfl,rfl⟩
set_option maxHeartbeats 1000000 in
set_option maxRecDepth 100000 in
theorem copyCheck_fresh (b:Nat) (w:World) (h0:w.cell? ⟨b,0,none⟩=some (.pointer none)) (hsh:w.shape? b=some (157,2)) (hfz:w.frozen? ⟨b,0,none⟩=false) :
  Calls Tryz.prog 146 #[.pointer (some ⟨b,0,none⟩)] w fun e w'=>e=.returned (.tuple #[])∧w'=w.setCell ⟨b,0,none⟩ (.pointer (some ⟨b,0,none⟩)):=by
 obtain⟨j,hj,hjs⟩:=Option.map_eq_some_iff.1 sizeBd
 go_enter Tryz.func146,Tryz.ntmps146
 go_wp2
 rw [Lib.run_to_unsafe w ⟨b,0,none⟩ Tryz.underlying154 Tryz.underlying225 hj (by rw [hjs];decide) hsh (Nat.zero_lt_succ 1)]
 simp only [Result.andThen]
 rw [Oper.upon_value]
 go_wp2
 rw [run_callFunc_extern Tryz.func169 (by kernel_rfl) (by kernel_rfl) (by kernel_rfl) (e:=Extern.AbiNoEscape.same) (by kernel_rfl)]
 rw [Lib.run_noEscape]
 simp only [Result.andThen]
 rw [Oper.upon_value]
 go_wp2
 rw [Lib.run_from_unsafe w ⟨b,0,none⟩ Tryz.underlying225 Tryz.underlying154 hj hsh liesBd]
 simp only [Result.andThen]
 rw [Oper.upon_value]
 go_wp2
 go_end0
 exact⟨rfl,rfl⟩
theorem copyCheck_any (B b:Nat) (bs:List Value) (w:World) (h:Lib.IsBuilder 157 5 B b bs w) :
  Calls Tryz.prog 146 #[.pointer (some ⟨b,0,none⟩)] w fun e w'=>e=.returned (.tuple #[])∧(Lib.BuilderAt 157 5 B b (.pointer (some ⟨b,0,none⟩)) bs w'∧Below B w w'):=by
 rcases h with h|h
 ·refine(copyCheck_fresh b w h.cell0 h.shape h.frozen0).mono ?_
  rintro e w' ⟨rfl,rfl⟩
  exact⟨rfl,h.used _,(Below.refl B w).setCell (p:=⟨b,0,none⟩) h.1 _⟩
 ·refine(copyCheck_used b w h.cell0).mono ?_
  rintro e w' ⟨rfl,rfl⟩
  exact⟨rfl,h,Below.refl B _⟩
set_option maxHeartbeats 2000000 in
set_option maxRecDepth 100000 in
theorem writeString_any (B b:Nat) (bs:List Value) (s:ByteArray) (w:World) (h:Lib.IsBuilder 157 5 B b bs w) (hlen:bs.length+s.size≤140737488355328) (hBw:B≤w.heap.size) :
  Calls Tryz.prog 111 #[.pointer (some ⟨b,0,none⟩),.string s] w fun e w'=>e=.returned (.tuple #[.int .i64 s.size,.nilIface])∧(Lib.BuilderAt 157 5 B b (.pointer (some ⟨b,0,none⟩)) (bs ++ Lib.strCells s) w'∧Below B w w'):=by
 obtain⟨i0,hi,hz0,hz1,hz2⟩:=info_parts elB.hI
 go_enter Tryz.func111,Tryz.ntmps111
 go_wp2_with (go_at_call 146;refine(copyCheck_any B b bs _ h).mono ?_)
 rintro e w1 ⟨rfl,h1,hb1⟩
 obtain⟨hB,v,hbk,hown,hne⟩:=h1
 have c0:w1.cell? ⟨b,0,none⟩=some (.pointer (some ⟨b,0,none⟩)):=by rw [Lib.cell_of_heap hbk];rfl
 have c1:w1.cell? ⟨b,1,none⟩=some v:=by rw [Lib.cell_of_heap hbk];rfl
 go_wp2_with (at_builtin;refine Lib.wpList_append_own_string _ rfl _ _ 155 9 rfl B 5 i0 elB.hT Tryz.underlying9 hi hz0 hz1 hz2 _ _ _ rfl hown s rfl ?c3 ?c4 ?c5 ?_)
 case c3=>unfold maxLen;omega
 case c4=>omega
 case c5=>have:=hb1.size;omega
 intro v' w2 hown' hgrow _
 have hlt:b<w1.heap.size:=by
  rcases Nat.lt_or_ge b w1.heap.size with h'|h'
  ·exact h'
  ·simp [Array.getElem?_eq_none h'] at hbk
 have hb2:w2.heap[b]?=some (.cells #[.pointer (some ⟨b,0,none⟩),v] 157 (0,0)):=by
  rw [hgrow.block b hlt (fun e=>hne e.symm)]
  exact hbk
 have d0:w2.cell? ⟨b,0,none⟩=some (.pointer (some ⟨b,0,none⟩)):=by rw [Lib.cell_of_heap hb2];rfl
 have d1:w2.cell? ⟨b,1,none⟩=some v:=by rw [Lib.cell_of_heap hb2];rfl
 have f1:w2.frozen? ⟨b,1,none⟩=false:=Lib.frozen_of_heap hb2 1
 obtain⟨ao,n',cap,rfl⟩:∃ ao n' cap,v'=.slice ao n' cap:=by
  rcases hown'.2 with ⟨hv,_⟩|⟨g,cap,cur,hv,_⟩
  ·exact⟨_,_,_,hv⟩
  ·exact⟨_,_,_,hv⟩
 go_wp2
 go_ret2
 refine⟨rfl,?_,?_⟩
 ·exact Lib.BuilderAt.put (T:=157) (e:=5) hB hb2 (bs':=bs ++ Lib.strCells s) (by simpa [Lib.strCells_length] using hown') (by decide)
 ·exact(hb1.grown hgrow (by have:=hb1.size;omega) (fun k hk=>(hown.lt k hk).1)).setCell (p:=⟨b,1,none⟩) hB _
end Go.Proofs.YtlenbcmgjancmaaGreatDoor
namespace Go.Proofs.YtlenbcmgjancmaaGreatDoor
open Go.RowKit
theorem isBd_below {T e B b:Nat} {bs:List Value} {w w':World} (h:Lib.IsBuilder T e B b bs w) (hb:Below w.heap.size w w'):Lib.IsBuilder T e B b bs w':=by
 have go:∀ p,Lib.BuilderAt T e B b p bs w→Lib.BuilderAt T e B b p bs w':=by
  rintro p h
  have hlt:=h.lt
  obtain⟨hB,v,hbk,hown,hne⟩:=h
  exact⟨hB,v,(hb.block b hlt).trans hbk,orow_belowSize hown hb,hne⟩
 rcases h with h|h
 ·exact .inl (go _ h)
 ·exact .inr (go _ h)
def joinB (l:List Cl):List Nat:=l.flatMap (·.1)
theorem joinB_len (l:List Cl) (h:∀ c ∈ l,c.1.length≤64):(joinB l).length≤64*l.length:=by
 induction l with
 |nil=>simp [joinB]
 |cons c l ih=>
  have h1:=ih fun x hx=>h x (List.mem_cons_of_mem _ hx)
  have h2:=h c (by simp)
  simp only [joinB,List.flatMap_cons,List.length_append,List.length_cons] at h1 ⊢
  omega
theorem toBytes_append (a b:List Nat):toBytes (a ++ b)=toBytes a ++ toBytes b:=by simp [toBytes]
theorem joinB_take (l:List Cl) (k:Nat) (y:Cl) (h:l[k]?=some y):joinB (l.take (k+1))=joinB (l.take k) ++ y.1:=by
 obtain⟨h1,h2⟩:=List.getElem?_eq_some_iff.1 h
 rw [List.take_succ_eq_append_getElem h1,h2];simp [joinB]
theorem byteCells_append (a b:List UInt8):Lib.byteCells (a ++ b)=Lib.byteCells a ++ Lib.byteCells b:=by simp [Lib.byteCells]
theorem strCells_mk (l:List Nat):Lib.strCells (mkS l)=Lib.byteCells (toBytes l):=by simp [Lib.strCells,Lib.byteCells,mkS]
set_option maxRecDepth 100000 in
set_option maxHeartbeats 1000000 in
theorem join_any (A:Option Addr) (c n:Nat) (cs:List Cl) (w:World) (hS:SeeC w A n cs) (hm:n≤10000000000) (h64:∀ c ∈ cs,c.1.length≤64) :
  Calls Tryz.prog 78 #[.slice A n c] w (VBel (.string (mkS (joinB cs))) w):=by
 have HS:=zH hS
 have H6:=zH h64
 clear hS h64
 go_enter Tryz.func78,Tryz.ntmps78
 go_wp2
 go_loopw [8] (fun i wr=>∃ k:Nat,i=.int .i64 k∧k≤n∧Hid (Lib.IsBuilder 157 5 w.heap.size w.heap.size (Lib.byteCells (toBytes (joinB (cs.take k)))) wr)∧Hid (Below w.heap.size w wr)) (fun i _=>n - (intOf i).toNat)
 case atStart=>exact⟨0,rfl,by omega,Lib.fresh_isBuilder _ _ w,(Below.refl _ _).alloc (Nat.le_refl _) _⟩
 case round=>
  obtain⟨k,rfl,hk,HB,HBE⟩:=hrel
  by_cases hlt:k<n
  ·obtain⟨g,o,rfl,hg,hR⟩:=HS.out.2 (by omega)
   obtain⟨y,hy⟩:∃ y,cs[k]?=some y:=⟨_,List.getElem?_eq_getElem (by have:=HS.out.1;omega)⟩
   have hR':=(hR.below HBE.out hg) k y hy
   have hc0:=hR'.1
   have hc1:=hR'.2
   have HT:=zH (joinB_take cs k y hy)
   have hgr:g<wr.heap.size:=Nat.lt_of_lt_of_le hg HBE.out.size
   have HL:Hid ((Lib.byteCells (toBytes (joinB (cs.take k)))).length+(mkS y.1).size≤140737488355328):=zH (by
    have h1:=joinB_len (cs.take k) fun x hx=>H6.out x (List.mem_of_mem_take hx)
    have h2:(cs.take k).length≤k:=List.length_take_le _ _
    have h3:=H6.out y (List.mem_of_getElem? hy)
    have h4:(Lib.byteCells (toBytes (joinB (cs.take k)))).length=(joinB (cs.take k)).length:=by simp [Lib.byteCells,toBytes]
    rw [h4,mkS_size];omega)
   clear hR hR' hy
   go_wp2_with (go_at_call 111;((with_reducible refine(writeString_any w.heap.size w.heap.size _ (mkS y.1) _ (isBd_below HB.out ((Below.refl _ _).alloc (Nat.le_refl _) _)) HL.out (by have:=HBE.out.size;simp;omega)).mono ?_);rintro e w2 ⟨rfl,hbd,hb2⟩;have HBD:=zH hbd;clear hbd))
   go_roundw
   case rel=>
    refine⟨k+1,by go_num,by omega,?_,(HBE.out.alloc HBE.out.size _).trans hb2⟩
    rw [HT.out,toBytes_append,byteCells_append,← strCells_mk]
    exact .inr HBD.out
   case measure=>simp [intOf];omega
  ·obtain rfl:k=n:=by omega
   have HT:Hid (cs.take k=cs):=zH (List.take_of_length_le (by rw [HS.out.1];exact Nat.le_refl _))
   rw [HT.out] at HB
   go_wp2_with (go_at_call 112;((with_reducible refine(Tryz.Builder_String_any w.heap.size w.heap.size _ _ HB.out HBE.out.size).mono ?_);rintro e w2 ⟨rfl,hb2⟩))
   go_ret
   exact⟨rfl,HBE.out.trans hb2⟩
end Go.Proofs.YtlenbcmgjancmaaGreatDoor
