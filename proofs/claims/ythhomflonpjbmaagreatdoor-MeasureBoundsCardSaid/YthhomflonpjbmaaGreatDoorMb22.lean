/-
 The walks of solve.topped and solve.share at any rows.
-/
import Derived.Test.YthhomflonpjbmaaGreatDoorMb21
import Derived.Test.YthhomflonpjbmaaGreatDoorMb20
set_option linter.unusedVariables false
set_option linter.unusedSimpArgs false
namespace Go.Proofs.YthhomflonpjbmaaGreatDoor
open Go.RowKit
def iota (n : Nat) : List Int:=(List.range n).map Int.ofNat
theorem iota_len (n : Nat) : (iota n).length = n:=by simp [iota]
theorem iota_mem {n : Nat} {x : Int} (h : x ∈ iota n) : 0≤x∧x < n:=by
 simp only [iota,List.mem_map,List.mem_range] at h
 obtain ⟨a,h1,rfl⟩:=h
 exact ⟨Int.natCast_nonneg a,by simpa using h1⟩
def iot (k n : Nat) : List Int:=iota k ++ List.replicate (n - k) 0
theorem iot_set {k n : Nat} (h : k < n) : (iot k n).set k (k : Int) = iot (k + 1) n:=by
 unfold iot
 rw [List.set_append_right _ _ (by rw [iota_len];exact Nat.le_refl _),iota_len,Nat.sub_self,show n - k = (n - (k + 1)) + 1 by omega,List.replicate_succ,List.set_cons_zero]
 have : iota (k + 1) = iota k ++ [(k : Int)]:=by simp [iota,List.range_succ]
 rw [this,List.append_assoc];rfl
theorem iot_full (n : Nat) : iot n n = iota n:=by simp [iot]
def bump : List Int→List Int→List Int
 |out,[]=>out
 |out,i :: is=>bump (out.set i.toNat (gd out i.toNat + 1)) is
def toppedS (out rests : List Int) (left : Nat) : List Int:=bump out ((stableS (ltR rests) (iota out.length)).take left)
theorem bump_len (is : List Int) : ∀ out : List Int,(bump out is).length = out.length:=by
 induction is with
 |nil=>intro out;rfl
 |cons i is ih=>intro out;simp only [bump];rw [ih];simp
theorem bump_range (is : List Int) : ∀ (out : List Int) (B : Int),(∀ x ∈ out,0≤x∧x≤B)→(∀ i ∈ is,0≤i∧i < out.length)→∀ x ∈ bump out is,0≤x∧x≤B + is.length:=by
 induction is with
 |nil=>intro out B h _ x hx;have:=h x hx;simp;omega
 |cons i is ih=>
  intro out B h hi x hx
  simp only [bump] at hx
  have h1:=hi i (by simp)
  have:=ih _ (B + 1) (fun y hy=>by
   rcases List.mem_or_eq_of_mem_set hy with hy | rfl
   ·have:=h y hy;omega
   ·have:=h (gd out i.toNat) (gd_mem (by omega));omega) (fun j hj=>by rw [List.length_set];exact hi j (by simp [hj])) x hx
  rw [List.length_cons];push_cast;omega
theorem bump_take {out l : List Int} {k : Nat} {x : Int} (h : l[k]? = some x) : bump out (l.take (k + 1)) = (bump out (l.take k)).set x.toNat (gd (bump out (l.take k)) x.toNat + 1):=by
 obtain ⟨h1,rfl⟩:=List.getElem?_eq_some_iff.1 h
 rw [List.take_succ_eq_append_getElem h1]
 generalize l.take k = m
 generalize l[k] = y
 induction m generalizing out with
 |nil=>rfl
 |cons a m ih=>simp only [List.cons_append,bump];exact ih
structure Tpd (W0 : World) (d bx br bo cr : Nat) (r out l : List Int) (W : World) : Prop where
 dat : ArrI W d l
 row : ArrI W br r
 out : ArrI W bo out
 box : W.cell? ⟨bx,0,none⟩ = some (.slice (some ⟨br,0,none⟩) r.length cr)
 n1 : bx ≠ d
 n2 : br ≠ d
 n3 : bo ≠ d
 n4 : br ≠ bo
 n5 : bx ≠ bo
 nd : W0.heap.size≤d
 nb : bo < W0.heap.size
 g : W0.grownBy W (some bo)
theorem Tpd.write {W0 W : World} {d bx br bo cr : Nat} {r out l : List Int} (h : Tpd W0 d bx br bo cr r out l W) (k : Nat) (x : Int) : Tpd W0 d bx br bo cr r out (l.set k x) (W.setCell ⟨d,k,none⟩ (.int .i64 x)) :=
 ⟨h.dat.put k x,h.row.other h.n2 _ _,h.out.other h.n3 _ _,(grown_set W d k _).cell h.box (by simpa using h.n1),h.n1,h.n2,h.n3,h.n4,h.n5,h.nd,h.nb,
  ⟨h.g.os,h.g.tape,h.g.output,by simpa using h.g.size,fun i hi hn=>by rw [(grown_set W d k _).block i (Nat.lt_of_lt_of_le hi h.g.size) (by have:=h.nd;simp;omega)];exact h.g.block i hi hn⟩⟩
theorem Tpd.bump {W0 W : World} {d bx br bo cr : Nat} {r out l : List Int} (h : Tpd W0 d bx br bo cr r out l W) (k : Nat) (x : Int) : Tpd W0 d bx br bo cr r (out.set k x) l (W.setCell ⟨bo,k,none⟩ (.int .i64 x)) :=
 ⟨h.dat.other h.n3.symm _ _,h.row.other h.n4 _ _,h.out.put k x,(grown_set W bo k _).cell h.box (by simpa using h.n5),h.n1,h.n2,h.n3,h.n4,h.n5,h.nd,h.nb,grown_trans h.g (grown_set W bo k _)⟩
theorem Tpd.to {W0 W : World} {d bx br bo cr : Nat} {r out l l' : List Int} (h : Tpd W0 d bx br bo cr r out l W) (e : l = l') : Tpd W0 d bx br bo cr r out l' W:=e ▸ h
theorem Tpd.srt {W0 W : World} {d bx br bo cr : Nat} {r out l : List Int} (h : Tpd W0 d bx br bo cr r out l W) (e : l.length = r.length) (ok : ∀ x ∈ l,0≤x∧x < r.length) (rb : ∀ x ∈ r,0≤x∧x≤1099511627776) (rn : r.length≤1048576) : Srt W d bx br cr r l W :=
 ⟨h.dat,h.row,h.box,h.n1,h.n2,World.grownBy.refl W _,e,ok,rb,rn⟩
theorem Tpd.sorted {W0 W W' : World} {d bx br bo cr : Nat} {r out l l' : List Int} (h : Tpd W0 d bx br bo cr r out l W) (s : Srt W d bx br cr r l' W') : Tpd W0 d bx br bo cr r out l' W' :=
 ⟨s.dat,s.row,h.out.grown s.g (by simpa using h.n3),s.box,h.n1,h.n2,h.n3,h.n4,h.n5,h.nd,h.nb,
  ⟨s.g.os.trans h.g.os,s.g.tape.trans h.g.tape,s.g.output.trans h.g.output,Nat.le_trans h.g.size s.g.size,fun i hi hn=>by rw [s.g.block i (Nat.lt_of_lt_of_le hi h.g.size) (by have:=h.nd;simp;omega)];exact h.g.block i hi hn⟩⟩
theorem mk_ints (N : Nat) (hN : N≤4398046511104) (w : World) : (Instr.makeSlice 38 (.int .i64 N) (.int .i64 N)).run Tryz.prog w = .ok (.slice (some ⟨w.heap.size,0,none⟩) N N) (w.alloc (.cells (madeCells #[.int .i64 0] N) 3)):=by
 obtain ⟨i0,hi,hz0,hz1,hz2⟩:=info_parts (P:=Tryz.prog) (show (Tryz.prog.info? 3).map (fun i=>(i.zero,i.size,i.bytes)) = some (some (.int .i64 0),1,8) by kernel_rfl)
 have:=run_make (P:=Tryz.prog) w 38 3 i0 (.int .i64 0) Tryz.underlying38 hi hz0 .i64 .i64 N N (by omega) (Int.le_refl _) (by rw [hz2];omega) (by omega)
 rw [hz1] at this
 simpa [Value.cells] using this
theorem tpd_start {W : World} {br bo cr : Nat} {r out : List Int} (hr : ArrI W br r) (ho : ArrI W bo out) (hne : br ≠ bo) (n : Nat) :
  Tpd W (W.heap.size + 1) W.heap.size br bo cr r out (List.replicate n 0) ((W.alloc (.cells #[.slice (some ⟨br,0,none⟩) r.length cr] 38)).alloc (.cells (madeCells #[.int .i64 0] n) 3)):=by
 have h1:=hr.lt
 have h2:=ho.lt
 refine ⟨?_,(hr.alloc _).alloc _,(ho.alloc _).alloc _,by go_simp,by omega,by omega,by omega,hne,by omega,by omega,h2,grown_trans (World.grownBy_alloc W _ _) (World.grownBy_alloc _ _ _)⟩
 have:=ArrI.made (W.alloc (.cells #[.slice (some ⟨br,0,none⟩) r.length cr] 38)) n
 simpa using this
set_option maxRecDepth 100000 in
set_option maxHeartbeats 4000000 in
theorem topped_any {W : World} {br bo cr co : Nat} {r out : List Int} (hr : ArrI W br r) (ho : ArrI W bo out) (hne : br ≠ bo) (n : Nat) (hn : out.length = n) (hrn : r.length = n) (hn2 : n≤1048576) (rb : ∀ x ∈ r,0≤x∧x≤1099511627776) (B : Int) (hB : 0≤B∧B≤1099511627776) (ob : ∀ x ∈ out,0≤x∧x≤B) {L : Int} (left : Nat) (eL : L = left) (hleft : left≤n) :
  Calls Tryz.prog 157 #[.slice (some ⟨bo,0,none⟩) n co,.slice (some ⟨br,0,none⟩) n cr,.int .i64 L] W (fun e W'=>e = .returned (.tuple #[])∧ArrI W' bo (toppedS out r left)∧W.grownBy W' (some bo)):=by
 subst eL
 have hT:=tpd_start (cr:=cr) hr ho hne n
 have hmk:=mk_ints n (by omega)
 rw [hrn] at hT
 have HT0:=zH hT
 have HR:=zH hrn
 have HO:=zH hn
 have HRB:=zH rb
 have HOB:=zH ob
 clear hT hrn hn rb ob hr ho hne
 go_enter Tryz.func157,Tryz.ntmps157
 go_wp2
 go_loopw [15] (fun i wr=>∃ k : Nat,i = .int .i64 k∧k≤n∧Tpd W (W.heap.size + 1) W.heap.size br bo cr r out (iot k n) wr) (fun i _=>n - (intOf i).toNat)
 case atStart=>exact ⟨0,rfl,by omega,HT0.out.to (by simp [iot,iota])⟩
 case round=>
  obtain ⟨k,rfl,hk,hT⟩:=hrel
  have HT:=zH hT
  clear hT HT0
  by_cases hlt : k < n
  ·have hltI : (k : Int) < (n : Int):=by omega
   have c1:=HT.out.dat.at (j:=k) (x:=0) (by simp [iot,iota_len,List.getElem?_append_right,List.getElem?_replicate,Nat.sub_pos_of_lt hlt])
   have f1:=HT.out.dat.froz k
   have HW:=zH ((HT.out.write k k).to (iot_set hlt))
   clear hmk
   go_wp2
   go_roundw
   case rel=>exact ⟨k + 1,by first | rfl | go_num,by omega,by first | exact HW.out⟩
   case measure=>simp [intOf] <;> omega
  ·have hltI : decide ((k : Int) < (n : Int)) = false:=decide_eq_false (by omega)
   obtain rfl : k = n:=by omega
   have HS:=zH ((HT.out.to (iot_full k)).srt (by rw [iota_len,HR.out]) (fun x hx=>by rw [HR.out];exact iota_mem hx) HRB.out (by rw [HR.out];exact hn2))
   have HTs:=zH fun (W' : World) (h : Srt wr (W.heap.size + 1) W.heap.size br cr r (stableS (ltR r) (iota k)) W')=>(HT.out.to (iot_full k)).sorted h
   have HSL : Hid ((stableS (ltR r) (iota k)).length = k∧∀ x ∈ stableS (ltR r) (iota k),0≤x∧x < (k : Int)):=zH ⟨by rw [(kin_stable (ltR r) (iota k)).1,iota_len],fun x hx=>iota_mem ((kin_stable (ltR r) (iota k)).2 x hx)⟩
   have HTS : Hid (toppedS out r left = bump out ((stableS (ltR r) (iota k)).take left)):=zH (by unfold toppedS;rw [HO.out])
   have hleftI : (left : Int)≤(k : Int):=by omega
   clear HT hmk
   go_wp2_with (go_at_call 174;(with_reducible refine (sortf_any HS.out (iota_len k) k).mono ?_);rintro e1' w1 ⟨rfl,hS1⟩;have HT1:=zH (HTs.out _ hS1);clear hS1 HTs)
   generalize stableS (ltR r) (iota k) = so at HT1 HSL HTS
   clear HS
   go_loopw [30] (fun i wr=>∃ (q : Nat) (o : List Int),i = .int .i64 q∧q≤left∧Tpd W (W.heap.size + 1) W.heap.size br bo cr r o so wr∧o = bump out (so.take q)) (fun i _=>left - (intOf i).toNat)
   case atStart=>exact ⟨0,out,rfl,by omega,HT1.out,rfl⟩
   case round=>
    obtain ⟨q,o,rfl,hq,hT,hO⟩:=hrel
    have HT:=zH hT
    have HO2:=zH hO
    clear hT hO HT1
    by_cases hlt2 : q < left
    ·have hltI : (q : Int) < (left : Int):=by omega
     have hltN : (q : Int) < (k : Int):=by omega
     obtain ⟨x,hx⟩ : ∃ x,so[q]? = some x:=⟨_,List.getElem?_eq_getElem (by have:=HSL.out.1;omega)⟩
     have hx0:=HSL.out.2 x (List.mem_of_getElem? hx)
     obtain ⟨i,rfl⟩ : ∃ i : Nat,x = i:=⟨x.toNat,by omega⟩
     have hi : i < k:=by omega
     have hol : o.length = k:=by rw [HO2.out,bump_len];exact HO.out
     have hob:=bump_range (so.take q) out B HOB.out (fun j hj=>by rw [HO.out];exact HSL.out.2 j (List.mem_of_mem_take hj)) (gd o i) (by rw [← HO2.out];exact gd_mem (by omega))
     have hlq : (so.take q).length≤1048576:=by rw [List.length_take];omega
     have c1:=HT.out.dat.at hx
     have c2:=HT.out.out.at (j:=i) (x:=gd o i) (by simp [gd,List.getElem?_eq_getElem (show i < o.length by omega)])
     have f1:=HT.out.out.froz i
     have HW:=zH (HT.out.bump i (gd o i + 1))
     have HB:=zH (bump_take (out:=out) hx)
     have hiI : (i : Int) < (k : Int):=by omega
     have HE : Hid (bump out (so.take (q + 1)) = o.set i (gd o i + 1)):=zH (by rw [HB.out,← HO2.out];simp)
     clear hx HB hx0
     generalize gd o i = u at *
     go_wp2
     go_roundw
     case rel=>exact ⟨q + 1,_,by first | rfl | go_num,by omega,HW.out,HE.out.symm⟩
     case measure=>simp [intOf] <;> omega
    ·have hltI : decide ((q : Int) < (left : Int)) = false:=decide_eq_false (by omega)
     obtain rfl : q = left:=by omega
     go_wp2
     go_end0
     exact ⟨rfl,by rw [HTS.out,← HO2.out];exact HT.out.out,HT.out.g⟩
def shareS (total : Int) (ws : List Int) : List Int :=
 if sumL ws = 0 then List.replicate ws.length 0
 else toppedS (ws.map fun w=>total * w / sumL ws) (ws.map fun w=>total * w % sumL ws) (total - sumL (ws.map fun w=>total * w / sumL ws)).toNat
end Go.Proofs.YthhomflonpjbmaaGreatDoor
/-
 The walk of solve.share at any rows.
-/
namespace Go.Proofs.YthhomflonpjbmaaGreatDoor
open Go.RowKit
def NewI (l : List Int) (w : World) (e : Ending) (w' : World) : Prop :=
 ∃ b : Nat,e = .returned (.slice (some ⟨b,0,none⟩) l.length l.length)∧w.heap.size≤b∧ArrI w' b l∧Below w.heap.size w w'
def part (l : List Int) (k : Nat) : List Int:=l.take k ++ List.replicate (l.length - k) 0
theorem part_zero (l : List Int) : part l 0 = List.replicate l.length 0:=by simp [part]
theorem part_full (l : List Int) : part l l.length = l:=by simp [part]
theorem part_full2 {l : List Int} {k : Nat} (h : k = l.length) : part l k = l:=by subst h;exact part_full l
theorem part_get {l : List Int} {k : Nat} (h : k < l.length) : (part l k)[k]? = some 0:=by
 unfold part
 rw [List.getElem?_append_right (by rw [List.length_take];omega),List.length_take,Nat.min_eq_left (by omega),Nat.sub_self,List.getElem?_replicate,if_pos (by omega)]
theorem part_set {l : List Int} {k : Nat} {x : Int} (h : l[k]? = some x) : (part l k).set k x = part l (k + 1):=by
 obtain ⟨h1,rfl⟩:=List.getElem?_eq_some_iff.1 h
 unfold part
 have hk : (l.take k).length = k:=by rw [List.length_take];omega
 rw [List.set_append_right _ _ (by rw [hk];exact Nat.le_refl _),hk,Nat.sub_self,show l.length - k = (l.length - (k + 1)) + 1 by omega,List.replicate_succ,List.set_cons_zero,List.take_succ_eq_append_getElem h1,List.append_assoc]
 rfl
theorem ArrI.to {W : World} {b : Nat} {l l' : List Int} (h : ArrI W b l) (e : l = l') : ArrI W b l':=e ▸ h
structure Two2 (W : World) (p q : Nat) (a b : List Int) (w : World) : Prop where
 a : ArrI w p a
 b : ArrI w q b
 np : W.heap.size≤p
 nq : W.heap.size≤q
 ne : p ≠ q
 g : Below W.heap.size W w
set_option maxRecDepth 100000 in
set_option maxHeartbeats 4000000 in
theorem share_any {W : World} {v : Value} {ws : List Int} (hv : SlI W v ws) (total : Int) (ht : 0≤total∧total≤34359738368) (hw : ∀ x ∈ ws,0≤x∧x≤4194304) (hn : ws.length≤4096) :
  Calls Tryz.prog 129 #[.int .i64 total,v] W (NewI (shareS total ws) W):=by
 have HV:=zH hv
 have HW:=zH hw
 obtain ⟨p,c,rfl,_,hx⟩:=hv
 have HX:=zH hx
 obtain ⟨n,hnn⟩ : ∃ n,ws.length = n:=⟨_,rfl⟩
 have HN:=zH hnn
 have HSU:=zH (ssum_any _ ws W HV.out (by omega) (fun x hx=>by have:=hw x hx;omega))
 have hall:=sumL_bound ws 4194304 hw
 have hmk:=mk_ints n (by omega)
 rw [hnn] at HSU hn hall ⊢
 clear hx hw hnn
 by_cases h0 : sumL ws = 0
 ·have HR : Hid (shareS total ws = List.replicate n 0):=zH (by unfold shareS;rw [if_pos h0,HN.out])
  rw [h0] at HSU
  go_enter Tryz.func129,Tryz.ntmps129
  go_wp2_with (go_at_call 128;((with_reducible refine HSU.out.mono ?_);rintro e1' w1 ⟨rfl,rfl⟩))
  go_ret
  rw [HR.out]
  refine ⟨w1.heap.size,by simp,by omega,ArrI.made _ _,?_⟩
  (repeat (first | exact Below.refl _ _ | assumption | refine below_drewN ?_ _ | refine Below.drew ?_ | (refine Below.alloc ?_ ?bs _;(case bs=>first | omega | (simp;done) | (simp;omega))) | (refine Below.setCell ?_ ?bs _;(case bs=>first | omega | (simp;done) | (simp;omega)))))
 ·have hR : shareS total ws = toppedS (ws.map fun w=>total * w / sumL ws) (ws.map fun w=>total * w % sumL ws) (total - sumL (ws.map fun w=>total * w / sumL ws)).toNat:=by unfold shareS;rw [if_neg h0]
  obtain ⟨all,hall2⟩ : ∃ all,sumL ws = all:=⟨_,rfl⟩
  rw [hall2] at hR h0 hall HSU
  have ha0 : 0 < all:=by omega
  obtain ⟨O,hO⟩ : ∃ O,(ws.map fun w=>total * w / all) = O:=⟨_,rfl⟩
  obtain ⟨R,hRr⟩ : ∃ R,(ws.map fun w=>total * w % all) = R:=⟨_,rfl⟩
  have hleft:=floors_left ws (fun w=>w) total all (by rw [← hall2];have:=sumL_map (fun w=>w) ws;simpa using this) ha0
  have hsO : sumL O = sumF (fun w=>total * w / all) ws:=by rw [← hO,sumL_map]
  rw [← hsO] at hleft
  rw [hO,hRr] at hR
  have hOb : ∀ x ∈ O,0≤x∧x≤34359738368:=fun x hx=>by
   rw [← hO] at hx
   obtain ⟨y,hy,rfl⟩:=List.mem_map.1 hx
   have h1:=HW.out y hy
   have h2 : y≤all:=by
    rw [← hall2]
    obtain ⟨s,t,rfl⟩:=List.append_of_mem hy
    rw [sumL_append]
    have h3:=sumL_bound s 4194304 fun z hz=>HW.out z (by simp [hz])
    have h4:=sumL_bound t 4194304 fun z hz=>HW.out z (by simp [hz])
    simp only [sumL];omega
   refine ⟨Int.ediv_nonneg (Int.mul_nonneg ht.1 h1.1) (by omega),?_⟩
   have h5 : total * y / all≤total:=by
    have : total * y≤total * all:=Int.mul_le_mul_of_nonneg_left h2 ht.1
    calc total * y / all≤total * all / all:=Int.ediv_le_ediv ha0 this
     _ = total:=Int.mul_ediv_cancel _ (by omega)
   omega
  have hRb : ∀ x ∈ R,0≤x∧x≤1099511627776:=fun x hx=>by
   rw [← hRr] at hx
   obtain ⟨y,hy,rfl⟩:=List.mem_map.1 hx
   have h1:=Int.emod_nonneg (total * y) (show all ≠ 0 by omega)
   have h2:=Int.emod_lt_of_pos (total * y) ha0
   omega
  have hOl : O.length = n:=by rw [← hO,List.length_map,HN.out]
  have hRl : R.length = n:=by rw [← hRr,List.length_map,HN.out]
  have HO:=zH hO
  have HRr:=zH hRr
  have HR:=zH hR
  have HOb:=zH hOb
  have HRb:=zH hRb
  have HOl:=zH hOl
  have HRl:=zH hRl
  have HLE:=zH hleft
  have hne : (all == 0) = false:=by rw [beq_eq_false_iff_ne];omega
  clear hO hRr hR hOb hRb hOl hRl hleft hsO hall2
  go_enter Tryz.func129,Tryz.ntmps129
  go_wp2_with (go_at_call 128;((with_reducible refine HSU.out.mono ?_);rintro e1' w1 ⟨rfl,rfl⟩))
  have e2 : ∀ W : World,W.heap.size < (W.alloc (.cells (madeCells #[.int .i64 0] n) 3)).heap.size:=fun W=>by simp
  go_loopw [23] (fun i wr=>∃ k : Nat,i = .int .i64 k∧k≤n∧Two2 w1 w1.heap.size (w1.heap.size + 1) (part O k) (part R k) wr) (fun i _=>n - (intOf i).toNat)
  case atStart=>
   refine ⟨0,rfl,by omega,?_⟩
   rw [part_zero,part_zero,HOl.out,HRl.out]
   refine ⟨(ArrI.made _ _).alloc _,?_,by omega,by omega,by omega,by (repeat (first | exact Below.refl _ _ | assumption | refine below_drewN ?_ _ | refine Below.drew ?_ | (refine Below.alloc ?_ ?bs _;(case bs=>first | omega | (simp;done) | (simp;omega))) | (refine Below.setCell ?_ ?bs _;(case bs=>first | omega | (simp;done) | (simp;omega)))))⟩
   have:=ArrI.made (w1.alloc (.cells (madeCells #[.int .i64 0] n) 3)) n
   simpa using this
  case round=>
   obtain ⟨k,rfl,hk,hT⟩:=hrel
   have HT:=zH hT
   clear hT hmk e2
   by_cases hlt : k < n
   ·have hltI : (k : Int) < (n : Int):=by omega
    obtain ⟨x,hx⟩ : ∃ x,ws[k]? = some x:=⟨_,List.getElem?_eq_getElem (by have:=HN.out;omega)⟩
    obtain ⟨g,o,rfl,hg,hc0⟩:=HX.out k x hx
    have hc : wr.cell? ⟨g,o + k,none⟩ = some (.int .i64 x):=by rw [HT.out.g.cell (p:=⟨g,o + k,none⟩) hg];exact hc0
    have hOk : O[k]? = some (total * x / all):=by rw [← HO.out,List.getElem?_map,hx];rfl
    have hRk : R[k]? = some (total * x % all):=by rw [← HRr.out,List.getElem?_map,hx];rfl
    have c1:=HT.out.a.at (part_get (show k < O.length by rw [HOl.out];exact hlt))
    have c2:=HT.out.b.at (part_get (show k < R.length by rw [HRl.out];exact hlt))
    have f1:=HT.out.a.froz k
    have f2:=HT.out.b.froz k
    have hne2:=HT.out.ne
    have hwx:=HW.out x (List.mem_of_getElem? hx)
    have hm0 : 0≤total * x:=Int.mul_nonneg ht.1 hwx.1
    have hm1 : total * x≤144115188075855872:=by
     have h1 : total * x≤34359738368 * x:=Int.mul_le_mul_of_nonneg_right ht.2 hwx.1
     omega
    have hd : (total * x).tdiv all = total * x / all:=Int.tdiv_eq_ediv_of_nonneg hm0
    have hr : (total * x).tmod all = total * x % all:=Int.tmod_eq_emod_of_nonneg hm0
    have hqb:=HOb.out _ (List.mem_of_getElem? hOk)
    have HA:=zH ((HT.out.a.put k (total * x / all)).to (part_set hOk))
    have HB:=zH ((HT.out.b.put k (total * x % all)).to (part_set hRk))
    have hRk2:=zH hRk
    clear hx hc0 hOk hRk HB
    generalize total * x / all = q1 at *
    generalize total * x % all = q2 at *
    go_wp2
    go_roundw
    case rel=>exact ⟨k + 1,by first | rfl | go_num,by omega,HA.out.other hne2 _ _,(ArrI.put (l:=part R k) (HT.out.b.other hne2.symm k _) k _).to (part_set hRk2.out),HT.out.np,HT.out.nq,HT.out.ne,(HT.out.g.setCell (p:=⟨w1.heap.size,k,none⟩) (by simp) _).setCell (p:=⟨w1.heap.size + 1,k,none⟩) (by simp) _⟩
    case measure=>simp [intOf] <;> omega
   ·have hltI : decide ((k : Int) < (n : Int)) = false:=decide_eq_false (by omega)
    obtain rfl : k = n:=by omega
    have HA : Hid (ArrI wr w1.heap.size O):=zH (HT.out.a.to (part_full2 HOl.out.symm))
    have HB : Hid (ArrI wr (w1.heap.size + 1) R):=zH (HT.out.b.to (part_full2 HRl.out.symm))
    have HSU2:=zH (ssum_any _ O wr (HA.out.sl (by rw [HOl.out];omega) k) (by rw [HOl.out];omega) (fun x hx=>by have:=HOb.out x hx;omega))
    have hl0:=HLE.out
    rw [HN.out] at hl0
    have hso:=sumL_bound O 34359738368 HOb.out
    rw [HOl.out] at hso HSU2
    have HTP:=zH (topped_any (co:=k) (cr:=k) HB.out HA.out (by omega) k HOl.out HRl.out (by omega) HRb.out 34359738368 (by omega) HOb.out (L:=total - sumL O) (total - sumL O).toNat (by omega) (by omega))
    generalize sumL O = so at *
    go_wp2_with (first | (go_at_call 128;((with_reducible refine HSU2.out.mono ?_);rintro e1' w2 ⟨rfl,rfl⟩)) | (go_at_call 157;((with_reducible refine HTP.out.mono ?_);rintro e1' w3 ⟨rfl,hA3,hg3⟩)))
    go_ret
    rw [HR.out]
    refine ⟨w1.heap.size,?_,by omega,hA3,HT.out.g.grown hg3 HT.out.g.size (fun b hb=>by simp at hb;omega)⟩
    rw [show (toppedS O R (total - so).toNat).length = k by unfold toppedS;rw [bump_len];exact HOl.out]
    rfl
end Go.Proofs.YthhomflonpjbmaaGreatDoor
/-
 How solve.fill shares room, plainly: its loops, and what holds between its rounds.
-/
namespace Go.Proofs.YthhomflonpjbmaaGreatDoor
section
variable {α : Type}
theorem sumF_append (f : α→Int) (l m : List α) : sumF f (l ++ m) = sumF f l + sumF f m:=by
 induction l with
 |nil=>simp [sumF]
 |cons x l ih=>simp only [List.cons_append,sumF];rw [ih];omega
theorem sumF_range {f : α→Int} {l : List α} {B : Int} (h : ∀ x ∈ l,0≤f x∧f x≤B) : 0≤sumF f l∧sumF f l≤B * l.length:=by
 induction l with
 |nil=>simp [sumF]
 |cons x l ih=>
  have h1:=h x (by simp)
  have h2:=ih fun y hy=>h y (by simp [hy])
  rw [List.length_cons]
  have : B * ((l.length + 1 : Nat) : Int) = B * l.length + B:=by push_cast;rw [Int.mul_add,Int.mul_one]
  simp only [sumF];omega
theorem sumF_mem {f : α→Int} {l : List α} (h : ∀ x ∈ l,0≤f x) {x : α} (hx : x ∈ l) : f x≤sumF f l:=by
 obtain ⟨s,t,rfl⟩:=List.append_of_mem hx
 rw [sumF_append]
 have h1:=sumF_nonneg (f:=f) (l:=s) fun y hy=>h y (by simp [hy])
 have h2:=sumF_nonneg (f:=f) (l:=t) fun y hy=>h y (by simp [hy])
 simp only [sumF];omega
end
abbrev gi (l : List Itm) (i : Int) : Itm:=gd l i.toNat
structure FS where
 rest : Int
 weight : Int
 most : Int
 opn : List Int
 bd : Bool
def fill1 (l : List Itm) (sz : List Int) (i : Nat) (s : FS) : FS :=
 let it:=gd l i
 if it.k = 3 then ⟨s.rest,s.weight + it.n,s.most + it.mx,s.opn ++ [(i : Int)],s.bd && decide (0 < it.mx)⟩ else { s with rest:=s.rest - gd sz i }
def fill0 (l : List Itm) (sz : List Int) (room : Int) : Nat→FS
 | 0=>⟨room,0,0,[],true⟩
 |i + 1=>fill1 l sz i (fill0 l sz room i)
def setMax (l : List Itm) : List Int→List Int→List Int
 | [],sz=>sz
 |i :: o,sz=>setMax l o (sz.set i.toNat (gi l i).mx)
abbrev aboveF (l : List Itm) (rest weight : Int) (i : Int) : Int:=max 0 (rest * (gi l i).n - weight * boundS (gi l i))
abbrev belowF (l : List Itm) (rest weight : Int) (i : Int) : Int:=max 0 (weight * (gi l i).mn - rest * (gi l i).n)
structure RS where
 stay : List Int
 left : Int
 heavy : Int
 sz : List Int
abbrev isUp (l : List Itm) (rest weight a b : Int) (i : Int) : Prop:=b≤a∧weight * boundS (gi l i)≤rest * (gi l i).n
abbrev isDn (l : List Itm) (rest weight a b : Int) (i : Int) : Prop:=a≤b∧rest * (gi l i).n≤weight * (gi l i).mn
def round1 (l : List Itm) (rest weight a b : Int) (s : RS) (i : Int) : RS :=
 if isUp l rest weight a b i then ⟨s.stay,s.left - (gi l i).mx,s.heavy - (gi l i).n,s.sz.set i.toNat (gi l i).mx⟩
 else if isDn l rest weight a b i then ⟨s.stay,s.left - (gi l i).mn,s.heavy - (gi l i).n,s.sz.set i.toNat (gi l i).mn⟩
 else { s with stay:=s.stay ++ [i] }
def roundS (l : List Itm) (rest weight a b : Int) : List Int→RS→RS
 | [],s=>s
 |i :: o,s=>roundS l rest weight a b o (round1 l rest weight a b s i)
structure GS where
 opn : List Int
 rest : Int
 weight : Int
 sz : List Int
def rounds (l : List Itm) : Nat→GS→GS
 | 0,s=>s
 |f + 1,s=>
  if s.opn = [] then s
  else if sumF (aboveF l s.rest s.weight) s.opn = 0∧sumF (belowF l s.rest s.weight) s.opn = 0 then s
  else
   let r:=roundS l s.rest s.weight (sumF (aboveF l s.rest s.weight) s.opn) (sumF (belowF l s.rest s.weight) s.opn) s.opn ⟨[],s.rest,s.weight,s.sz⟩
   rounds l f ⟨r.stay,r.left,r.heavy,r.sz⟩
def fzB (l : List Itm) (rest weight a b : Int) (i : Int) : Bool:=decide (isUp l rest weight a b i∨isDn l rest weight a b i)
def szV (l : List Itm) (rest weight a b : Int) (i : Int) : Int:=if isUp l rest weight a b i then (gi l i).mx else (gi l i).mn
theorem roundS_eq (l : List Itm) (rest weight a b : Int) : ∀ (o : List Int) (s : RS),(roundS l rest weight a b o s).stay = s.stay ++ o.filter (fun i=>!fzB l rest weight a b i)∧(roundS l rest weight a b o s).left = s.left - sumF (szV l rest weight a b) (o.filter (fzB l rest weight a b))∧(roundS l rest weight a b o s).heavy = s.heavy - sumF (fun i=>(gi l i).n) (o.filter (fzB l rest weight a b))
 | [],s=>by simp [roundS,sumF]
 |i :: o,s=>by
  have ih:=roundS_eq l rest weight a b o (round1 l rest weight a b s i)
  simp only [roundS]
  rw [ih.1,ih.2.1,ih.2.2]
  unfold round1
  by_cases h1 : isUp l rest weight a b i
  ·have hf : fzB l rest weight a b i = true:=by unfold fzB;exact decide_eq_true (.inl h1)
   have hs : szV l rest weight a b i = (gi l i).mx:=by unfold szV;rw [if_pos h1]
   rw [if_pos h1]
   simp only [List.filter_cons,hf,if_true,Bool.not_true,Bool.false_eq_true,if_false,sumF,hs]
   refine ⟨trivial,by omega,by omega⟩
  ·by_cases h2 : isDn l rest weight a b i
   ·have hf : fzB l rest weight a b i = true:=by unfold fzB;exact decide_eq_true (.inr h2)
    have hs : szV l rest weight a b i = (gi l i).mn:=by unfold szV;rw [if_neg h1]
    rw [if_neg h1,if_pos h2]
    simp only [List.filter_cons,hf,if_true,Bool.not_true,Bool.false_eq_true,if_false,sumF,hs]
    refine ⟨trivial,by omega,by omega⟩
   ·have hf : fzB l rest weight a b i = false:=by unfold fzB;exact decide_eq_false (by rintro (h | h);exact h1 h;exact h2 h)
    rw [if_neg h1,if_neg h2]
    simp only [List.filter_cons,hf,if_true,Bool.not_false,Bool.false_eq_true,if_false]
    exact ⟨by simp,by simp,by simp⟩
def FItm (i : Itm) : Prop:=0≤i.mn∧i.mn≤4096∧0≤i.mx∧i.mx≤4096∧(0 < i.mx→i.mn≤i.mx)∧(i.k = 3→1≤i.n∧i.n≤1000)
theorem Itm.ok.fitm {i : Itm} (h : i.ok) : FItm i:=by
 obtain ⟨h1,h2,h3,h4⟩:=h
 exact ⟨h1,h2,by omega,by omega,by omega,by omega⟩
def SzOk (n : Nat) (sz : List Int) : Prop:=sz.length = n∧∀ x ∈ sz,0≤x∧x≤4096
theorem SzOk.set {n : Nat} {sz : List Int} (h : SzOk n sz) (i : Nat) {x : Int} (hx : 0≤x∧x≤4096) : SzOk n (sz.set i x) :=
 ⟨by simpa using h.1,fun y hy=>by
  rcases List.mem_or_eq_of_mem_set hy with hy | rfl
  ·exact h.2 y hy
  ·exact hx⟩
theorem round1_sz {l : List Itm} (hl : ∀ x ∈ l,FItm x) {rest weight a b : Int} {s : RS} {i : Int} (hi : 0≤i∧i < l.length) {n : Nat} (h : SzOk n s.sz) : SzOk n (round1 l rest weight a b s i).sz:=by
 have h1 : i.toNat < l.length:=by omega
 have hm:=hl (gi l i) (by simp [gi,gd,List.getElem?_eq_getElem h1])
 unfold round1
 split
 ·exact h.set _ ⟨hm.2.2.1,hm.2.2.2.1⟩
 ·split
  ·exact h.set _ ⟨hm.1,hm.2.1⟩
  ·exact h
theorem roundS_sz {l : List Itm} (hl : ∀ x ∈ l,FItm x) {rest weight a b : Int} {n : Nat} : ∀ (o : List Int) (s : RS),(∀ i ∈ o,0≤i∧i < (l.length : Int))→SzOk n s.sz→SzOk n (roundS l rest weight a b o s).sz
 | [],_,_,h=>h
 |i :: o,s,hi,h=>by
  simp only [roundS]
  exact roundS_sz hl o _ (fun j hj=>hi j (by simp [hj])) (round1_sz hl (hi i (by simp)) h)
structure FI (l : List Itm) (s : GS) : Prop where
 op : ∀ i ∈ s.opn,0≤i∧i < l.length∧(gi l i).k = 3
 ol : s.opn.length≤l.length
 w : s.weight = sumF (fun i=>(gi l i).n) s.opn
 rest : sumF (fun i=>(gi l i).mn) s.opn≤s.rest
 rt : s.rest≤4096
 sz : SzOk l.length s.sz
theorem gi_mem {l : List Itm} {i : Int} (h : 0≤i∧i < l.length) : gi l i ∈ l:=by
 have h1 : i.toNat < l.length:=by omega
 simp [gi,gd,List.getElem?_eq_getElem h1]
theorem round_inv {l : List Itm} (hl : ∀ x ∈ l,FItm x) {s : GS} (h : FI l s) (hgo : ¬ (sumF (aboveF l s.rest s.weight) s.opn = 0∧sumF (belowF l s.rest s.weight) s.opn = 0)) :
  let r:=roundS l s.rest s.weight (sumF (aboveF l s.rest s.weight) s.opn) (sumF (belowF l s.rest s.weight) s.opn) s.opn ⟨[],s.rest,s.weight,s.sz⟩
  FI l ⟨r.stay,r.left,r.heavy,r.sz⟩∧r.stay.length < s.opn.length:=by
 obtain ⟨e1,e2,e3⟩:=roundS_eq l s.rest s.weight (sumF (aboveF l s.rest s.weight) s.opn) (sumF (belowF l s.rest s.weight) s.opn) s.opn ⟨[],s.rest,s.weight,s.sz⟩
 have e4:=roundS_sz (n:=l.length) hl (rest:=s.rest) (weight:=s.weight) (a:=sumF (aboveF l s.rest s.weight) s.opn) (b:=sumF (belowF l s.rest s.weight) s.opn) s.opn ⟨[],s.rest,s.weight,s.sz⟩ (fun i hi=>⟨(h.op i hi).1,(h.op i hi).2.1⟩) h.sz
 generalize hA : sumF (aboveF l s.rest s.weight) s.opn = A at *
 generalize hB : sumF (belowF l s.rest s.weight) s.opn = B at *
 generalize roundS l s.rest s.weight A B s.opn ⟨[],s.rest,s.weight,s.sz⟩ = r at *
 simp only [List.nil_append] at e1
 have hit : ∀ i ∈ s.opn,FItm (gi l i):=fun i hi=>hl _ (gi_mem ⟨(h.op i hi).1,(h.op i hi).2.1⟩)
 have hN : ∀ i ∈ s.opn,1≤(gi l i).n∧(gi l i).n≤1000:=fun i hi=>(hit i hi).2.2.2.2.2 (h.op i hi).2.2
 have hm : ∀ i ∈ s.opn,(gi l i).mn≤boundS (gi l i):=fun i hi=>by
  have:=hit i hi
  unfold boundS
  split
  ·exact this.2.2.2.2.1 (by assumption)
  ·have:=this.2.1;omega
 have hnf : ∀ x ∈ s.opn,fzB l s.rest s.weight A B x = false→¬ (B≤A∧s.weight * boundS (gi l x)≤s.rest * (gi l x).n)∧¬ (A≤B∧s.rest * (gi l x).n≤s.weight * (gi l x).mn):=fun x _ hx=>by
  unfold fzB at hx
  have:=of_decide_eq_false hx
  exact ⟨fun h=>this (.inl h),fun h=>this (.inr h)⟩
 have hlt:=fill_less s.opn (fun i=>(gi l i).n) (fun i=>(gi l i).mn) (fun i=>boundS (gi l i)) (fzB l s.rest s.weight A B) s.rest s.weight A B hA.symm hB.symm hnf hgo
 have hst:=fill_step s.opn (fun i=>(gi l i).n) (fun i=>(gi l i).mn) (fun i=>boundS (gi l i)) (szV l s.rest s.weight A B) (fzB l s.rest s.weight A B) s.rest s.weight A B h.w (fun i hi=>(hN i hi).1) hm h.rest hA.symm hB.symm (fun x hx hz=>by
  unfold fzB at hz
  have hz:=of_decide_eq_true hz
  by_cases hu : isUp l s.rest s.weight A B x
  ·refine .inl ⟨hu.1,hu.2,?_⟩
   unfold szV
   rw [if_pos hu]
   by_cases hp : 0 < (gi l x).mx
   ·simp only [boundS];rw [if_pos hp]
   ·exfalso
    have h2:=hu.2
    simp only [boundS] at h2
    rw [if_neg hp] at h2
    have hwx : (gi l x).n≤s.weight:=by rw [h.w];exact sumF_mem (f:=fun i=>(gi l i).n) (fun y hy=>by have:=(hN y hy).1;omega) hx
    have hx1:=(hN x hx).1
    have hrt:=h.rt
    have h4 : s.rest * (gi l x).n≤4096 * (gi l x).n:=Int.mul_le_mul_of_nonneg_right hrt (by omega)
    omega
  ·rcases hz with hz | hz
   ·exact absurd hz hu
   ·refine .inr ⟨hz.1,hz.2,hu,?_⟩
    unfold szV
    rw [if_neg hu]) hnf
 have hsv : ∀ x ∈ s.opn.filter (fzB l s.rest s.weight A B),0≤szV l s.rest s.weight A B x:=fun x hx=>by
  have hx:=(List.mem_filter.1 hx).1
  have:=hit x hx
  unfold szV
  split
  ·exact this.2.2.1
  ·exact this.1
 have hs0:=sumF_nonneg hsv
 have hf:=sumF_filter (fun i=>(gi l i).n) (fzB l s.rest s.weight A B) s.opn
 refine ⟨⟨?_,?_,?_,?_,?_,e4⟩,by rw [e1];exact hlt⟩
 ·intro i hi
  dsimp only at hi
  rw [e1] at hi
  exact h.op i (List.mem_filter.1 hi).1
 ·dsimp only
  rw [e1];have:=h.ol;omega
 ·dsimp only
  rw [e1,e3]
  have hw:=h.w
  dsimp only at hf hw ⊢
  omega
 ·dsimp only
  rw [e1,e2];exact hst
 ·dsimp only
  rw [e2];have:=h.rt;dsimp only;omega
theorem rounds_end {l : List Itm} {f : Nat} {s : GS} (h : s.opn = []∨(sumF (aboveF l s.rest s.weight) s.opn = 0∧sumF (belowF l s.rest s.weight) s.opn = 0)) : rounds l f s = s:=by
 cases f with
 |zero=>rfl
 |succ f=>
  simp only [rounds]
  split
  ·rfl
  ·rcases h with h | h
   ·contradiction
   ·rw [if_pos h]
theorem rounds_inv {l : List Itm} (hl : ∀ x ∈ l,FItm x) : ∀ (f : Nat) (s : GS),FI l s→FI l (rounds l f s)
 | 0,s,h=>h
 |f + 1,s,h=>by
  simp only [rounds]
  split
  ·exact h
  ·split
   ·exact h
   ·rename_i hgo
    exact rounds_inv hl f _ (round_inv hl h hgo).1
def assign : List Int→List Int→List Int→List Int
 |i :: o,x :: r,sz=>assign o r (sz.set i.toNat x)
 |_,_,sz=>sz
def shO (l : List Itm) (rest weight : Int) (o : List Int) : List Int:=o.map fun i=>rest * (gi l i).n / weight
def shR (l : List Itm) (rest weight : Int) (o : List Int) : List Int:=o.map fun i=>rest * (gi l i).n % weight
def tailS (l : List Itm) (g : GS) : List Int :=
 assign g.opn (if g.opn = [] then [] else toppedS (shO l g.rest g.weight g.opn) (shR l g.rest g.weight g.opn) (g.rest - sumL (shO l g.rest g.weight g.opn)).toNat) g.sz
def fillE (l : List Itm) (sz : List Int) (s0 : FS) : List Int :=
 if s0.bd = true∧s0.most≤s0.rest then setMax l s0.opn sz else tailS l (rounds l l.length ⟨s0.opn,s0.rest,s0.weight,sz⟩)
def fillS (l : List Itm) (sz : List Int) (room : Int) : List Int:=fillE l sz (fill0 l sz room l.length)
theorem fill0_w (l : List Itm) (sz : List Int) (room : Int) : ∀ k,k≤l.length→(fill0 l sz room k).weight = sumF (fun i=>(gi l i).n) (fill0 l sz room k).opn
 | 0,_=>rfl
 |k + 1,hk=>by
  have ih:=fill0_w l sz room k (by omega)
  have e1 : (fill0 l sz room (k + 1)) = fill1 l sz k (fill0 l sz room k):=rfl
  rw [e1]
  unfold fill1
  by_cases hk3 : (gd l k).k = 3
  ·simp only [hk3,if_true]
   rw [sumF_append,ih]
   simp [sumF,gi]
  ·simp only [if_neg hk3]
   exact ih
end Go.Proofs.YthhomflonpjbmaaGreatDoor
/-
 What solve.Sizes answers, plainly.
-/
namespace Go.Proofs.YthhomflonpjbmaaGreatDoor
open Classical in
/-- An item as Sizes takes it: right, or none. -/
noncomputable def normI (it : Itm) : Itm:=if it.ok then it else ⟨1,0,0,0,0⟩
def wantS (room : Int) (it : Itm) : Int:=if it.k = 2 then intoS (it.n * room / it.d) it else if it.k = 3 then it.mn else intoS it.n it
noncomputable def sizesS (items : List Itm) (extent gap : Int) : List Int :=
 if items.length = 0∨4096 < items.length then []
 else
  let room:=max 0 (sideS extent - sideS gap * ((items.length : Int) - 1))
  let l:=items.map normI
  let mins:=l.map Itm.mn
  let wants:=l.map (wantS room)
  if room < sumL mins then shareS room mins
  else if 0 < sumL wants - room then List.zipWith (· - ·) wants (shareS (sumL wants - room) (List.zipWith (· - ·) wants mins))
  else fillS l wants room
theorem normI_fitm (it : Itm) : FItm (normI it):=by
 unfold normI
 split
 ·exact Itm.ok.fitm (by assumption)
 ·exact ⟨by decide,by decide,by decide,by decide,by decide,by decide⟩
theorem intoS_range {n : Int} {it : Itm} (h : FItm it) (hn : n≤4096) : it.mn≤intoS n it∧intoS n it≤4096:=by
 obtain ⟨h1,h2,h3,h4,h5,_⟩:=h
 unfold intoS
 split
 ·have:=h5 (by assumption);omega
 ·omega
theorem fill0_room {l : List Itm} {room0 : Int} {wants : List Int} (hw : wants = l.map (wantS room0)) (room : Int) : ∀ k,k≤l.length→
  (fill0 l wants room k).rest - sumF (fun i=>(gi l i).mn) (fill0 l wants room k).opn = room - sumL (wants.take k)
 | 0,_=>by simp [fill0,sumF,sumL]
 |k + 1,hk=>by
  have ih:=fill0_room hw room k (by omega)
  have hx : l[k]? = some (gd l k):=by simp [gd,List.getElem?_eq_getElem (show k < l.length by omega)]
  have hwk : wants[k]? = some (wantS room0 (gd l k)):=by rw [hw,List.getElem?_map,hx];rfl
  have hwg : gd wants k = wantS room0 (gd l k):=by simp [gd,hwk]
  rw [take_succ_sum hwk]
  have e1 : (fill0 l wants room (k + 1)) = fill1 l wants k (fill0 l wants room k):=rfl
  rw [e1]
  unfold fill1
  by_cases h3 : (gd l k).k = 3
  ·simp only [h3,if_true]
   rw [sumF_append]
   have hm : wantS room0 (gd l k) = (gd l k).mn:=by unfold wantS;rw [if_neg (by omega),if_pos h3]
   rw [hm]
   simp only [sumF,gi,Int.toNat_natCast]
   simp only [gi] at ih
   omega
  ·simp only [if_neg h3]
   rw [hwg]
   omega
theorem fill0_min {l : List Itm} {room0 : Int} {wants : List Int} (hw : wants = l.map (wantS room0)) {room : Int} (h : sumL wants≤room) :
  sumF (fun i=>(gi l i).mn) (fill0 l wants room l.length).opn≤(fill0 l wants room l.length).rest:=by
 have h1:=fill0_room hw room l.length (Nat.le_refl _)
 rw [List.take_of_length_le (by rw [hw];simp)] at h1
 omega
end Go.Proofs.YthhomflonpjbmaaGreatDoor
/-
 Places in a grid, plainly: hit, across, down, strip, behind, Flow, and what they keep.
-/
namespace Go.Proofs.YthhomflonpjbmaaGreatDoor
structure Spn where
 c : Int
 r : Int
 cs : Int
 rs : Int
instance : Inhabited Spn:=⟨⟨0,0,0,0⟩⟩
def ovl (s t : Spn) : Bool:=decide (t.c < s.c + s.cs) && (decide (s.c < t.c + t.cs) && (decide (t.r < s.r + s.rs) && decide (s.r < t.r + t.rs)))
theorem ovl_true {s t : Spn} : ovl s t = true↔t.c < s.c + s.cs∧s.c < t.c + t.cs∧t.r < s.r + s.rs∧s.r < t.r + t.rs:=by
 unfold ovl;simp only [Bool.and_eq_true,decide_eq_true_eq]
structure SOk (cols M : Int) (t : Spn) : Prop where
 c0 : 0≤t.c
 r0 : 0≤t.r
 cs : 1≤t.cs
 cc : t.c + t.cs≤cols
 rs : 1≤t.rs
 r4 : t.rs≤4096
 m : t.r + t.rs≤M
theorem SOk.mono {cols M M' : Int} {t : Spn} (h : SOk cols M t) (hm : M≤M') : SOk cols M' t:={ h with m:=Int.le_trans h.m hm }
def hitS (tk : List Spn) (s : Spn) : Option Spn:=tk.find? (ovl s)
def acrossF (cols : Int) (tk : List Spn) : Nat→Spn→Spn
 | 0,s=>{ s with c:=0 }
 |f + 1,s=>if s.c + s.cs≤cols then (match hitS tk s with | none=>s | some t=>acrossF cols tk f { s with c:=t.c + t.cs }) else { s with c:=0 }
theorem across_out {cols : Int} {tk : List Spn} {f : Nat} {s : Spn} (h : cols < s.c + s.cs) : acrossF cols tk f s = { s with c:=0 }:=by
 cases f with
 |zero=>rfl
 |succ f=>unfold acrossF;rw [if_neg (by omega)]
theorem across_free {cols : Int} {tk : List Spn} {f : Nat} {s : Spn} (h : s.c + s.cs≤cols) (hn : hitS tk s = none) (hf : f ≠ 0) : acrossF cols tk f s = s:=by
 obtain ⟨f,rfl⟩:=Nat.exists_eq_succ_of_ne_zero hf
 unfold acrossF;rw [if_pos h,hn]
theorem across_hit {cols : Int} {tk : List Spn} {f : Nat} {s t : Spn} (h : s.c + s.cs≤cols) (hn : hitS tk s = some t) : acrossF cols tk (f + 1) s = acrossF cols tk f { s with c:=t.c + t.cs }:=by
 rw [acrossF,if_pos h,hn]
theorem hit_some {tk : List Spn} {s t : Spn} (h : hitS tk s = some t) : t ∈ tk∧ovl s t = true:=⟨List.mem_of_find?_eq_some h,by simpa using List.find?_some h⟩
theorem across_ok {cols M : Int} {tk : List Spn} (hk : ∀ t ∈ tk,SOk cols M t) : ∀ (f : Nat) (s : Spn),1≤s.cs→s.cs≤cols→0≤s.c→0≤(acrossF cols tk f s).c∧(acrossF cols tk f s).c + s.cs≤cols∧(acrossF cols tk f s).r = s.r∧(acrossF cols tk f s).cs = s.cs∧(acrossF cols tk f s).rs = s.rs
 | 0,s,h1,h2,h3=>⟨Int.le_refl 0,by simpa [acrossF] using h2,rfl,rfl,rfl⟩
 |f + 1,s,h1,h2,h3=>by
  unfold acrossF
  split
  ·split
   ·exact ⟨h3,by assumption,rfl,rfl,rfl⟩
   ·rename_i t ht
    have ho:=hk t (hit_some ht).1
    have:=across_ok hk f { s with c:=t.c + t.cs } h1 h2 (by have:=ho.c0;have:=ho.cs;simp only;omega)
    exact this
  ·exact ⟨Int.le_refl 0,by simpa using h2,rfl,rfl,rfl⟩
def pass : List Spn→Spn→Bool→Spn × Bool
 | [],s,m=>(s,m)
 |t :: l,s,m=>if ovl s t = true then pass l { s with r:=t.r + t.rs } true else pass l s m
theorem pass_drop {tk : List Spn} {k : Nat} {t s : Spn} {m : Bool} (h : tk[k]? = some t) : pass (tk.drop k) s m = if ovl s t = true then pass (tk.drop (k + 1)) { s with r:=t.r + t.rs } true else pass (tk.drop (k + 1)) s m:=by
 obtain ⟨h1,rfl⟩:=List.getElem?_eq_some_iff.1 h
 rw [List.drop_eq_getElem_cons h1]
 rfl
theorem pass_le {M : Int} : ∀ (tk : List Spn) (s : Spn) (m : Bool),(∀ t ∈ tk,t.r + t.rs≤M)→(pass tk s m).1.c = s.c∧(pass tk s m).1.cs = s.cs∧(pass tk s m).1.rs = s.rs∧s.r≤(pass tk s m).1.r∧(s.r≤M→(pass tk s m).1.r≤M)∧((pass tk s m).2 = true→m = true∨s.r < (pass tk s m).1.r)∧((pass tk s m).2 = false→(pass tk s m).1 = s∧m = false)
 | [],s,m,_=>by simp [pass]
 |t :: l,s,m,h=>by
  have ht:=h t (by simp)
  have hl : ∀ t ∈ l,t.r + t.rs≤M:=fun x hx=>h x (by simp [hx])
  unfold pass
  split
  ·rename_i ho
   have ho:=ovl_true.1 ho
   obtain ⟨a1,a2,a3,a4,a5,a6,a7⟩:=pass_le l { s with r:=t.r + t.rs } true hl
   dsimp only at a1 a2 a3 a4 a5
   refine ⟨a1,a2,a3,by omega,fun _=>a5 ht,fun _=>.inr (by omega),fun hf=>?_⟩
   have:=(a7 hf).2
   cases this
  ·exact pass_le l s m hl
def downF (tk : List Spn) : Nat→Spn→Spn
 | 0,s=>s
 |f + 1,s=>if (pass tk s false).2 = true then downF tk f (pass tk s false).1 else (pass tk s false).1
theorem pass_past {M : Int} : ∀ (tk : List Spn) (s : Spn) (m : Bool),(∀ t ∈ tk,t.r + t.rs≤M)→M≤s.r→pass tk s m = (s,m)
 | [],s,m,_,_=>rfl
 |t :: l,s,m,h,hM=>by
  unfold pass
  have ht:=h t (by simp)
  rw [if_neg (by rw [ovl_true];omega)]
  exact pass_past l s m (fun x hx=>h x (by simp [hx])) hM
theorem down_round {M : Int} {tk : List Spn} (hk : ∀ t ∈ tk,t.r + t.rs≤M) {f : Nat} {s s' : Spn} {b : Bool} (hf : M < s.r + f) (hp : pass tk s false = (s',b)) : if b = true then (∃ g,f = g + 1∧downF tk f s = downF tk g s'∧M < s'.r + g∧s.r < s'.r) else downF tk f s = s':=by
 cases f with
 |zero=>
  rw [pass_past tk s false hk (by omega)] at hp
  cases hp
  rfl
 |succ f=>
  have hl:=pass_le tk s false hk
  rw [hp] at hl
  cases b with
  |true=>
   have:=(hl.2.2.2.2.2.1 rfl)
   have h2 : s.r < s'.r:=by rcases this with h | h;(cases h);(exact h)
   refine ⟨f,rfl,?_,by push_cast at hf;omega,h2⟩
   rw [downF,hp];rfl
  |false=>rw [if_neg (by simp),downF,hp];rfl
theorem down_ok {M : Int} {tk : List Spn} (hk : ∀ t ∈ tk,t.r + t.rs≤M) : ∀ (f : Nat) (s : Spn),s.r≤M→s.r≤(downF tk f s).r∧(downF tk f s).r≤M∧(downF tk f s).c = s.c∧(downF tk f s).cs = s.cs∧(downF tk f s).rs = s.rs
 | 0,s,h=>⟨Int.le_refl _,h,rfl,rfl,rfl⟩
 |f + 1,s,h=>by
  have hl:=pass_le tk s false hk
  unfold downF
  split
  ·obtain ⟨a1,a2,a3,a4,a5⟩:=down_ok hk f (pass tk s false).1 (hl.2.2.2.2.1 h)
   exact ⟨Int.le_trans hl.2.2.2.1 a1,a2,a3.trans hl.1,a4.trans hl.2.1,a5.trans hl.2.2.1⟩
  ·exact ⟨hl.2.2.2.1,hl.2.2.2.2.1 h,hl.1,hl.2.1,hl.2.2.1⟩
abbrev inRows (row rows : Int) (t : Spn) : Prop:=t.r < row + rows∧row < t.r + t.rs
def stripE (row rows : Int) : List Spn→Int→Int
 | [],e=>e
 |t :: l,e=>if inRows row rows t then stripE row rows l (if e = 0∨t.r + t.rs < e then t.r + t.rs else e) else stripE row rows l e
def markF : Nat→Nat→List Bool→List Bool
 | 0,_,l=>l
 |k + 1,c,l=>markF k (c + 1) (l.set c true)
def stripT (cols : Int) (row rows : Int) : List Spn→List Bool→List Bool
 | [],l=>l
 |t :: tl,l=>if inRows row rows t then stripT cols row rows tl (markF (min (t.c + t.cs) cols - t.c).toNat t.c.toNat l) else stripT cols row rows tl l
theorem markF_len : ∀ (k c : Nat) (l : List Bool),(markF k c l).length = l.length
 | 0,_,_=>rfl
 |k + 1,c,l=>by unfold markF;rw [markF_len];simp
theorem stripT_len (cols row rows : Int) : ∀ (tk : List Spn) (l : List Bool),(stripT cols row rows tk l).length = l.length
 | [],_=>rfl
 |t :: tk,l=>by unfold stripT;split <;> rw [stripT_len];rw [markF_len]
theorem stripT_drop {cols row rows : Int} {tk : List Spn} {k : Nat} {t : Spn} {l : List Bool} (h : tk[k]? = some t) : stripT cols row rows (tk.drop k) l = if inRows row rows t then stripT cols row rows (tk.drop (k + 1)) (markF (min (t.c + t.cs) cols - t.c).toNat t.c.toNat l) else stripT cols row rows (tk.drop (k + 1)) l:=by
 obtain ⟨h1,rfl⟩:=List.getElem?_eq_some_iff.1 h
 rw [List.drop_eq_getElem_cons h1]
 rfl
theorem stripE_drop {row rows : Int} {tk : List Spn} {k : Nat} {t : Spn} {e : Int} (h : tk[k]? = some t) : stripE row rows (tk.drop k) e = if inRows row rows t then stripE row rows (tk.drop (k + 1)) (if e = 0∨t.r + t.rs < e then t.r + t.rs else e) else stripE row rows (tk.drop (k + 1)) e:=by
 obtain ⟨h1,rfl⟩:=List.getElem?_eq_some_iff.1 h
 rw [List.drop_eq_getElem_cons h1]
 rfl
theorem stripE_ok {cols M row rows : Int} : ∀ (tk : List Spn) (e : Int),(∀ t ∈ tk,SOk cols M t)→(e = 0∨(row < e∧e≤M))→stripE row rows tk e = 0∨(row < stripE row rows tk e∧stripE row rows tk e≤M)
 | [],e,_,h=>h
 |t :: tk,e,hk,h=>by
  have ht:=hk t (by simp)
  have hl : ∀ t ∈ tk,SOk cols M t:=fun x hx=>hk x (by simp [hx])
  unfold stripE
  split
  ·rename_i hi
   refine stripE_ok tk _ hl ?_
   have:=ht.m
   split
   ·exact .inr ⟨hi.2,this⟩
   ·exact h
  ·exact stripE_ok tk e hl h
theorem stripE_keep {cols M row rows : Int} : ∀ (tk : List Spn) (e : Int),(∀ t ∈ tk,SOk cols M t)→0 < e→0 < stripE row rows tk e
 | [],e,_,h=>h
 |t :: tk,e,hk,h=>by
  have ht:=hk t (by simp)
  have hl : ∀ t ∈ tk,SOk cols M t:=fun x hx=>hk x (by simp [hx])
  unfold stripE
  split
  ·refine stripE_keep tk _ hl ?_
   have:=ht.r0
   have:=ht.rs
   split <;> omega
  ·exact stripE_keep tk e hl h
theorem stripE_zero {cols M row rows : Int} : ∀ (tk : List Spn),(∀ t ∈ tk,SOk cols M t)→stripE row rows tk 0 = 0→∀ l,stripT cols row rows tk l = l
 | [],_,_,l=>rfl
 |t :: tk,hk,h,l=>by
  have ht:=hk t (by simp)
  have hl : ∀ t ∈ tk,SOk cols M t:=fun x hx=>hk x (by simp [hx])
  unfold stripE at h
  unfold stripT
  split at h
  ·have:=stripE_keep (row:=row) (rows:=rows) tk (if (0 : Int) = 0∨t.r + t.rs < 0 then t.r + t.rs else 0) hl (by rw [if_pos (.inl rfl)];have:=ht.r0;have:=ht.rs;omega)
   omega
  ·rename_i hi
   rw [if_neg hi]
   exact stripE_zero tk hl h l
def freeAt (l : List Bool) (c n : Nat) : Bool:=(List.range n).all fun i=>!(gd l (c + i))
def seekF (cols n : Int) (l : List Bool) : Nat→Nat→Option Nat
 | 0,_=>none
 |f + 1,c=>if (c : Int) + n≤cols then (if freeAt l c n.toNat = true then some c else seekF cols n l f (c + 1)) else none
def behindF (cols : Int) (tk : List Spn) (s : Spn) : Nat→Int→Nat→Spn
 | 0,row,col=>{ s with r:=row,c:=col }
 |f + 1,row,col=>
  match seekF cols s.cs (stripT cols row s.rs tk (List.replicate cols.toNat false)) (cols.toNat + 1) col with
  |some c=>{ s with r:=row,c:=c }
  |none=>if 0 < col then behindF cols tk s f (row + 1) 0 else behindF cols tk s f (stripE row s.rs tk 0) 0
theorem seek_some {cols n : Int} {l : List Bool} : ∀ (f c d : Nat),seekF cols n l f c = some d→c≤d∧(d : Int) + n≤cols
 | 0,c,d,h=>by simp [seekF] at h
 |f + 1,c,d,h=>by
  unfold seekF at h
  split at h
  ·split at h
   ·cases h;exact ⟨Nat.le_refl _,by assumption⟩
   ·have:=seek_some f (c + 1) d h;omega
  ·cases h
theorem free_none {k c n : Nat} : freeAt (List.replicate k false) c n = true:=by
 unfold freeAt
 rw [List.all_eq_true]
 intro i _
 simp only [gd,List.getElem?_replicate]
 split <;> rfl
theorem free_true {l : List Bool} {c n : Nat} (h : ∀ i,i < n→gd l (c + i) = false) : freeAt l c n = true:=by
 unfold freeAt
 rw [List.all_eq_true]
 intro i hi
 rw [h i (List.mem_range.1 hi)]
 rfl
theorem free_false {l : List Bool} {c n i : Nat} (hi : i < n) (h : gd l (c + i) = true) : freeAt l c n = false:=by
 unfold freeAt
 rw [List.all_eq_false]
 exact ⟨i,List.mem_range.2 hi,by rw [h];simp⟩
theorem seek_zero {cols M row rows n : Int} {tk : List Spn} (hk : ∀ t ∈ tk,SOk cols M t) (hn : n≤cols) (h : seekF cols n (stripT cols row rows tk (List.replicate cols.toNat false)) (cols.toNat + 1) 0 = none) : row < stripE row rows tk 0∧stripE row rows tk 0≤M:=by
 rcases stripE_ok (row:=row) (rows:=rows) tk 0 hk (.inl rfl) with h0 | h0
 ·rw [stripE_zero tk hk h0] at h
  unfold seekF at h
  rw [if_pos (by simpa using hn),if_pos free_none] at h
  cases h
 ·exact h0
abbrev bmeas (M row : Int) (col : Nat) : Int:=2 * (M + 1 - row) + (if col = 0 then 0 else 1)
theorem behind_round {cols M : Int} {tk : List Spn} (hk : ∀ t ∈ tk,SOk cols M t) {s : Spn} (h2 : s.cs≤cols) {f : Nat} {row : Int} {col : Nat} (h0 : 0≤row) (hr : row≤M + 1) (hc : 0 < col→row≤M) (hf : bmeas M row col < f) :
  match seekF cols s.cs (stripT cols row s.rs tk (List.replicate cols.toNat false)) (cols.toNat + 1) col with
  |some c=>behindF cols tk s f row col = { s with r:=row,c:=c }∧(c : Int) + s.cs≤cols
  |none=>∃ g row',f = g + 1∧behindF cols tk s f row col = behindF cols tk s g row' 0∧row < row'∧row'≤M + 1∧bmeas M row' 0 < g∧bmeas M row' 0 < bmeas M row col∧row' = (if 0 < col then row + 1 else stripE row s.rs tk 0):=by
 have hm : 0≤bmeas M row col:=by unfold bmeas;split <;> omega
 obtain ⟨g,rfl⟩ : ∃ g,f = g + 1:=⟨f - 1,by omega⟩
 have e : behindF cols tk s (g + 1) row col = (match seekF cols s.cs (stripT cols row s.rs tk (List.replicate cols.toNat false)) (cols.toNat + 1) col with
  |some c=>{ s with r:=row,c:=c }
  |none=>if 0 < col then behindF cols tk s g (row + 1) 0 else behindF cols tk s g (stripE row s.rs tk 0) 0):=rfl
 rw [e]
 split
 ·rename_i c hs
  exact ⟨rfl,(seek_some _ _ _ hs).2⟩
 ·rename_i hs
  have hbm : bmeas M row col = 2 * (M + 1 - row) + (if col = 0 then 0 else 1):=rfl
  by_cases hcol : 0 < col
  ·have:=hc hcol
   rw [if_neg (by omega)] at hbm
   refine ⟨g,row + 1,rfl,by rw [if_pos hcol],by omega,by omega,?_,?_,by rw [if_pos hcol]⟩
   ·simp only [bmeas,if_true];push_cast at hf;omega
   ·simp only [bmeas,if_true];rw [if_neg (by omega)];omega
  ·obtain rfl : col = 0:=by omega
   have:=seek_zero hk h2 hs
   rw [if_pos rfl] at hbm
   refine ⟨g,_,rfl,by rw [if_neg hcol],this.1,by omega,?_,?_,by rw [if_neg hcol]⟩
   ·simp only [bmeas,if_true];push_cast at hf;omega
   ·simp only [bmeas,if_true];omega
theorem behind_ok {cols M : Int} {tk : List Spn} (hk : ∀ t ∈ tk,SOk cols M t) {s : Spn} (h2 : s.cs≤cols) : ∀ (f : Nat) (row : Int) (col : Nat),0≤row→row≤M + 1→(0 < col→row≤M)→bmeas M row col < f→
  0≤(behindF cols tk s f row col).c∧(behindF cols tk s f row col).c + s.cs≤cols∧0≤(behindF cols tk s f row col).r∧(behindF cols tk s f row col).r≤M + 1∧(behindF cols tk s f row col).cs = s.cs∧(behindF cols tk s f row col).rs = s.rs:=by
 intro f
 induction f with
 |zero=>
  intro row col h0 hr hc hf
  have hm : 0≤bmeas M row col:=by unfold bmeas;split <;> omega
  omega
 |succ f ih=>
  intro row col h0 hr hc hf
  have:=behind_round hk h2 h0 hr hc hf
  split at this
  ·rw [this.1]
   exact ⟨by simp only;omega,this.2,h0,hr,rfl,rfl⟩
  ·obtain ⟨g,row',hg,e,h3,h4,h5,_,_⟩:=this
   cases hg
   rw [e]
   exact ih row' 0 (by omega) h4 (by omega) h5
def fuelG : Nat:=200000000
def clampG (cols : Int) (s : Spn) : Spn :=
 ⟨within3S s.c (-1) (cols - within3S s.cs 1 cols),within3S s.r (-1) 4096,within3S s.cs 1 cols,within3S s.rs 1 4096⟩
structure SIn (cols : Int) (s : Spn) : Prop where
 c0 : -1≤s.c
 r0 : -1≤s.r
 r1 : s.r≤4096
 cs : 1≤s.cs
 cc : s.c + s.cs≤cols
 c2 : s.cs≤cols
 rs : 1≤s.rs
 r4 : s.rs≤4096
theorem clampG_ok {cols : Int} (h : 1≤cols) (s : Spn) : SIn cols (clampG cols s):=by
 unfold clampG within3S
 constructor <;> dsimp only <;> omega
abbrev setP (s : Spn) : Prop:=0≤s.c∧0≤s.r
structure GB where
 tk : List Spn
 row : Int
 col : Int
def putG (cols : Int) (b : GB) (s : Spn) : Spn :=
 if 0≤s.r then acrossF cols b.tk fuelG { s with c:=0 }
 else if 0≤s.c then downF b.tk fuelG { s with r:=0 }
 else behindF cols b.tk s fuelG b.row b.col.toNat
def flow1 (cols : Int) (b : GB) (s : Spn) : GB :=
 if setP s then b
 else ⟨b.tk ++ [putG cols b s],if s.r < 0∧s.c < 0 then (putG cols b s).r else b.row,if s.r < 0∧s.c < 0 then (putG cols b s).c else b.col⟩
def flow0 (cols : Int) (b : GB) (s : Spn) : Spn:=if setP s then s else putG cols b s
def flowF (cols : Int) : List Spn→GB→List Spn
 | [],_=>[]
 |s :: l,b=>flow0 cols b s :: flowF cols l (flow1 cols b s)
def flowB (cols : Int) : List Spn→GB→GB
 | [],b=>b
 |s :: l,b=>flowB cols l (flow1 cols b s)
def gflow (spans : List Spn) (n : Int) : List Spn :=
 if 4096 < spans.length then []
 else flowF (within3S n 1 64) (spans.map (clampG (within3S n 1 64))) ⟨(spans.map (clampG (within3S n 1 64))).filter (fun s=>decide (setP s)),0,0⟩
structure GBOk (cols M : Int) (b : GB) : Prop where
 tk : ∀ t ∈ b.tk,SOk cols M t
 row : 0≤b.row∧b.row≤M
 col : 0≤b.col∧b.col≤cols
theorem putG_ok {cols M : Int} (hM : 8192≤M∧M≤50000000) (hc : 1≤cols∧cols≤64) {b : GB} (h : GBOk cols M b) {s : Spn} (hs : SIn cols s) : SOk cols (M + 4097) (putG cols b s):=by
 unfold putG
 have hF : (fuelG : Int) = 200000000:=rfl
 split
 ·have:=across_ok h.tk fuelG { s with c:=0 } hs.cs hs.c2 (Int.le_refl 0)
  obtain ⟨a1,a2,a3,a4,a5⟩:=this
  dsimp only at a2 a3 a4 a5
  have:=hs.cs
  have:=hs.rs
  have:=hs.r4
  have:=hs.r1
  exact ⟨a1,by omega,by omega,by omega,by omega,by omega,by omega⟩
 ·split
  ·have:=down_ok (M:=M) (fun t ht=>(h.tk t ht).m) fuelG { s with r:=0 } (by dsimp only;omega)
   obtain ⟨a1,a2,a3,a4,a5⟩:=this
   dsimp only at a1 a2 a3 a4 a5
   have:=hs.cs
   have:=hs.rs
   have:=hs.r4
   have:=hs.cc
   exact ⟨by omega,by omega,by omega,by omega,by omega,by omega,by omega⟩
  ·have hr:=h.row
   have hcl:=h.col
   have:=behind_ok h.tk hs.c2 fuelG b.row b.col.toNat hr.1 (by omega) (fun _=>hr.2) (by unfold bmeas;split <;> omega)
   obtain ⟨a1,a2,a3,a4,a5,a6⟩:=this
   have:=hs.cs
   have:=hs.rs
   have:=hs.r4
   exact ⟨by omega,by omega,by omega,by omega,by omega,by omega,by omega⟩
theorem flow1_ok {cols M : Int} (hM : 8192≤M∧M≤50000000) (hc : 1≤cols∧cols≤64) {b : GB} (h : GBOk cols M b) {s : Spn} (hs : SIn cols s) : GBOk cols (M + 4097) (flow1 cols b s):=by
 have hp:=putG_ok hM hc h hs
 have hr:=h.row
 have hcl:=h.col
 have htk : ∀ t ∈ b.tk,SOk cols (M + 4097) t:=fun t ht=>(h.tk t ht).mono (by omega)
 unfold flow1
 split
 ·exact ⟨htk,by omega,by omega⟩
 ·generalize putG cols b s = q at *
  have:=hp.c0
  have:=hp.cc
  have:=hp.cs
  have:=hp.r0
  have:=hp.rs
  have:=hp.m
  refine ⟨fun t ht=>?_,?_,?_⟩
  ·rcases List.mem_append.1 ht with ht | ht
   ·exact htk t ht
   ·rw [List.mem_singleton.1 ht];exact hp
  ·dsimp only;split <;> omega
  ·dsimp only;split <;> omega
theorem flow0_ok {cols M : Int} (hM : 8192≤M∧M≤50000000) (hc : 1≤cols∧cols≤64) {b : GB} (h : GBOk cols M b) {s : Spn} (hs : SIn cols s) : SOk cols (M + 4097) (flow0 cols b s):=by
 unfold flow0
 split
 ·rename_i hp
  have:=hs.rs
  have:=hs.r4
  have:=hs.r1
  exact ⟨hp.1,hp.2,hs.cs,hs.cc,hs.rs,hs.r4,by omega⟩
 ·exact putG_ok hM hc h hs
theorem flowF_len (cols : Int) : ∀ (l : List Spn) (b : GB),(flowF cols l b).length = l.length
 | [],_=>rfl
 |s :: l,b=>by simp only [flowF,List.length_cons];rw [flowF_len]
theorem flowF_append (cols : Int) : ∀ (l m : List Spn) (b : GB),flowF cols (l ++ m) b = flowF cols l b ++ flowF cols m (flowB cols l b)
 | [],_,_=>rfl
 |s :: l,m,b=>by simp only [List.cons_append,flowF,flowB];rw [flowF_append]
theorem flowB_append (cols : Int) : ∀ (l m : List Spn) (b : GB),flowB cols (l ++ m) b = flowB cols m (flowB cols l b)
 | [],_,_=>rfl
 |s :: l,m,b=>by simp only [List.cons_append,flowB];rw [flowB_append]
theorem flowB_ok {cols : Int} (hc : 1≤cols∧cols≤64) : ∀ (l : List Spn) (b : GB) (M : Int),(∀ s ∈ l,SIn cols s)→GBOk cols M b→8192≤M→M + 4097 * l.length≤50000000→GBOk cols (M + 4097 * l.length) (flowB cols l b)
 | [],b,M,_,h,_,_=>by simpa [flowB] using h
 |s :: l,b,M,hs,h,h1,h2=>by
  rw [List.length_cons] at h2 ⊢
  push_cast at h2 ⊢
  have:=flowB_ok hc l (flow1 cols b s) (M + 4097) (fun x hx=>hs x (by simp [hx])) (flow1_ok ⟨h1,by omega⟩ hc h (hs s (by simp))) (by omega) (by omega)
  simp only [flowB]
  rwa [show M + 4097 * ((l.length : Int) + 1) = M + 4097 + 4097 * l.length by omega]
theorem flowF_ok {cols : Int} (hc : 1≤cols∧cols≤64) : ∀ (l : List Spn) (b : GB) (M : Int),(∀ s ∈ l,SIn cols s)→GBOk cols M b→8192≤M→M + 4097 * l.length≤50000000→∀ t ∈ flowF cols l b,SOk cols (M + 4097 * l.length) t
 | [],b,M,_,h,_,_,t,ht=>by simp [flowF] at ht
 |s :: l,b,M,hs,h,h1,h2,t,ht=>by
  rw [List.length_cons] at h2 ⊢
  push_cast at h2 ⊢
  have hm : ∀ x ∈ l,SIn cols x:=fun x hx=>hs x (by simp [hx])
  simp only [flowF,List.mem_cons] at ht
  rcases ht with rfl | ht
  ·exact (flow0_ok ⟨h1,by omega⟩ hc h (hs s (by simp))).mono (by omega)
  ·have:=flowF_ok hc l (flow1 cols b s) (M + 4097) hm (flow1_ok ⟨h1,by omega⟩ hc h (hs s (by simp))) (by omega) (by omega) t ht
   exact this.mono (by omega)
end Go.Proofs.YthhomflonpjbmaaGreatDoor
