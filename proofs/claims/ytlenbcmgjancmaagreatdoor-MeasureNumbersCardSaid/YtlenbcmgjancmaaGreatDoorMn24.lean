import Derived.Test.YtlenbcmgjancmaaGreatDoorMn23
import Derived.Test.YtlenbcmgjancmaaGreatDoorMn20
import Derived.Deep.DeepCutAuto
import Derived.Deep.QuietTactic
import Derived.Laws.ResultCell
import Derived.Laws.Rows
set_option linter.unusedVariables false
set_option linter.unusedSimpArgs false
namespace Go.Proofs.YtlenbcmgjancmaaGreatDoor
open Go.RowKit
theorem SS.start {W w1 w':World} {lb mb wb ob n:Nat} {its:List Itm} {room:Int} {r:List Value} (hn:its.length=n) (hr:r.length=n*5) (hl:Arr w1 lb r 40) (h1:Below w1.heap.size w1 w') (h2:Below W.heap.size W w') (nl:W.heap.size≤lb) (hlt:lb<w1.heap.size)
  (hm:ArrI w' mb (List.replicate n 0)) (hw:ArrI w' wb (List.replicate n 0)) (ho:ArrI w' ob (List.replicate n 0)) (nm:w1.heap.size≤mb) (nw:w1.heap.size≤wb) (no:w1.heap.size≤ob) (e4:mb ≠ wb) (e5:mb ≠ ob) (e6:wb ≠ ob) (hs:W.heap.size≤w1.heap.size):SS W lb mb wb ob n its room 0 w' :=
 ⟨⟨r,by simpa using hr,by simpa [itL] using hl.below h1⟩,hm.to (by rw [part_zero];simp [minsN,hn]),hw.to (by rw [part_zero];simp [wantsN,hn]),ho.to (by rw [part_zero];simp [overN,hn]),nl,by omega,by omega,by omega,by omega,by omega,by omega,e4,e5,e6,h2⟩
structure S4 (W:World) (lb mb wb ob:Nat) (L:List Value) (M A O:List Int) (w:World):Prop where
 li:Arr w lb L 40
 mi:ArrI w mb M
 wa:ArrI w wb A
 ov:ArrI w ob O
 nl:W.heap.size≤lb
 nm:W.heap.size≤mb
 nw:W.heap.size≤wb
 no:W.heap.size≤ob
 e1:lb ≠ mb
 e2:lb ≠ wb
 e3:lb ≠ ob
 e4:mb ≠ wb
 e5:mb ≠ ob
 e6:wb ≠ ob
 g:Below W.heap.size W w
theorem Arr.oth {W:World} {b b' j:Nat} {l:List Value} {e:TypeId} {v:Value} (h:Arr W b l e) (hne:b ≠ b'):Arr (W.setCell ⟨b',j,none⟩ v) b l e:=Arr.other h hne j v
section
variable {W w w':World} {lb mb wb ob:Nat} {L:List Value} {M A O:List Int}
theorem S4.below (h:S4 W lb mb wb ob L M A O w) (hb:Below w.heap.size w w'):S4 W lb mb wb ob L M A O w' :=
 ⟨Arr.below h.li hb,Arr.below h.mi hb,Arr.below h.wa hb,Arr.below h.ov hb,h.nl,h.nm,h.nw,h.no,h.e1,h.e2,h.e3,h.e4,h.e5,h.e6,h.g.trans (hb.mono h.g.size)⟩
theorem S4.putL (h:S4 W lb mb wb ob L M A O w) (j:Nat) (v:Value):S4 W lb mb wb ob (L.set j v) M A O (w.setCell ⟨lb,j,none⟩ v) :=
 ⟨Arr.set h.li j v,Arr.oth h.mi (Ne.symm h.e1),Arr.oth h.wa (Ne.symm h.e2),Arr.oth h.ov (Ne.symm h.e3),h.nl,h.nm,h.nw,h.no,h.e1,h.e2,h.e3,h.e4,h.e5,h.e6,h.g.setCell (p:=⟨lb,j,none⟩) h.nl _⟩
theorem S4.putM (h:S4 W lb mb wb ob L M A O w) (j:Nat) (v:Int):S4 W lb mb wb ob L (M.set j v) A O (w.setCell ⟨mb,j,none⟩ (.int .i64 v)) :=
 ⟨Arr.oth h.li h.e1,ArrI.put h.mi j v,Arr.oth h.wa (Ne.symm h.e4),Arr.oth h.ov (Ne.symm h.e5),h.nl,h.nm,h.nw,h.no,h.e1,h.e2,h.e3,h.e4,h.e5,h.e6,h.g.setCell (p:=⟨mb,j,none⟩) h.nm _⟩
theorem S4.putA (h:S4 W lb mb wb ob L M A O w) (j:Nat) (v:Int):S4 W lb mb wb ob L M (A.set j v) O (w.setCell ⟨wb,j,none⟩ (.int .i64 v)) :=
 ⟨Arr.oth h.li h.e2,Arr.oth h.mi h.e4,ArrI.put h.wa j v,Arr.oth h.ov (Ne.symm h.e6),h.nl,h.nm,h.nw,h.no,h.e1,h.e2,h.e3,h.e4,h.e5,h.e6,h.g.setCell (p:=⟨wb,j,none⟩) h.nw _⟩
theorem S4.putO (h:S4 W lb mb wb ob L M A O w) (j:Nat) (v:Int):S4 W lb mb wb ob L M A (O.set j v) (w.setCell ⟨ob,j,none⟩ (.int .i64 v)) :=
 ⟨Arr.oth h.li h.e3,Arr.oth h.mi h.e5,Arr.oth h.wa h.e6,ArrI.put h.ov j v,h.nl,h.nm,h.nw,h.no,h.e1,h.e2,h.e3,h.e4,h.e5,h.e6,h.g.setCell (p:=⟨ob,j,none⟩) h.no _⟩
theorem SS.four {n k:Nat} {its:List Itm} {room:Int} (h:SS W lb mb wb ob n its room k w):∃ r:List Value,r.length=(n - k)*5∧S4 W lb mb wb ob (itL ((its.map normI).take k) ++ r) (part (minsN its) k) (part (wantsN room its) k) (part (overN room its) k) w:=by
 obtain⟨r,h1,h2⟩:=h.li
 exact⟨r,h1,h2,h.mi,h.wa,h.ov,h.nl,h.nm,h.nw,h.no,h.e1,h.e2,h.e3,h.e4,h.e5,h.e6,h.g⟩
theorem S4.back {n k:Nat} {its:List Itm} {room:Int} {r:List Value} (h1:r.length=(n - k)*5) (h:S4 W lb mb wb ob (itL ((its.map normI).take k) ++ r) (part (minsN its) k) (part (wantsN room its) k) (part (overN room its) k) w):SS W lb mb wb ob n its room k w :=
 ⟨⟨r,h1,h.li⟩,h.mi,h.wa,h.ov,h.nl,h.nm,h.nw,h.no,h.e1,h.e2,h.e3,h.e4,h.e5,h.e6,h.g⟩
end
theorem part_got {l:List Int} {k:Nat} {x:Int} (h:l[k]?=some x):(part l (k+1))[k]?=some x:=by
 obtain⟨h1,h2⟩:=List.getElem?_eq_some_iff.1 h
 unfold part
 rw [List.getElem?_append_left (by rw [List.length_take];omega),List.getElem?_take,if_pos (by omega),h]
theorem part_ok {x y:Itm} (hy:normI x=y) (h:y.k=2):0≤y.n∧y.n≤1000∧1≤y.d∧y.d≤1000:=by
 subst hy
 unfold normI at h ⊢
 split
 ·rename_i ho
  rw [if_pos ho] at h
  have h4:=ho.2.2.2
  omega
 ·rename_i ho
  rw [if_neg ho] at h
  simp at h
theorem NewI.from {l:List Int} {W w:World} {e:Ending} {w':World} (h:NewI l w e w') (hb:Below W.heap.size W w):NewI l W e w':=by
 obtain⟨b,h1,h2,h3,h4⟩:=h
 exact⟨b,h1,Nat.le_trans hb.size h2,h3,hb.trans (h4.mono hb.size)⟩
theorem full_len {l:List Int} {n:Nat} (h:l.length=n):part l n=l:=part_full2 h.symm
theorem mem_le_sum:∀ {l:List Int},(∀ x ∈ l,0≤x)→∀ x ∈ l,x≤sumL l
 | [],_,x,hx=>by simp at hx
 |y :: l,h,x,hx=>by
  have hy:=h y (by simp)
  have hl:0≤sumL l:=(sumL_bound l (sumL l+100000000) (fun z hz=>⟨h z (by simp [hz]),by have:=mem_le_sum (l:=l) (fun q hq=>h q (by simp [hq])) z hz;omega⟩)).1
  simp only [sumL]
  rcases List.mem_cons.1 hx with rfl|hx
  ·omega
  ·have:=mem_le_sum (l:=l) (fun q hq=>h q (by simp [hq])) x hx
   omega
def offs (a s:List Int) (k:Nat):List Int:=(List.zipWith (· - ·) a s).take k ++ a.drop k
theorem offs_get {a s:List Int} {j:Nat} (hl:s.length=a.length) (h:j<a.length):(offs a s j)[j]?=a[j]?:=by
 unfold offs
 have e:((List.zipWith (· - ·) a s).take j).length=j:=by rw [List.length_take,List.length_zipWith];omega
 rw [List.getElem?_append_right (by omega),e,Nat.sub_self,List.getElem?_drop,Nat.add_zero]
theorem offs_set {a s:List Int} {j:Nat} {x y:Int} (hl:s.length=a.length) (hx:a[j]?=some x) (hy:s[j]?=some y):(offs a s j).set j (x - y)=offs a s (j+1):=by
 obtain⟨h1,h2⟩:=List.getElem?_eq_some_iff.1 hx
 have e:((List.zipWith (· - ·) a s).take j).length=j:=by rw [List.length_take,List.length_zipWith];omega
 have hz:(List.zipWith (· - ·) a s)[j]?=some (x - y):=by rw [List.getElem?_zipWith,hx,hy]
 obtain⟨h3,h4⟩:=List.getElem?_eq_some_iff.1 hz
 unfold offs
 rw [List.set_append_right _ _ (by omega),e,Nat.sub_self,List.take_succ_eq_append_getElem h3,h4,List.append_assoc,List.drop_eq_getElem_cons h1]
 rfl
theorem offs_full {a s:List Int} {n:Nat} (ha:a.length=n) (hs:s.length=n):offs a s n=List.zipWith (· - ·) a s:=by
 unfold offs
 rw [List.take_of_length_le (by rw [List.length_zipWith];omega),List.drop_of_length_le (by omega),List.append_nil]
theorem bump_range2:∀ (is out:List Int) (B:Int),0≤B→(∀ x ∈ out,0≤x∧x≤B)→∀ x ∈ bump out is,0≤x∧x≤B+is.length
 | [],out,B,hB,h,x,hx=>by have:=h x hx;simp;omega
 |i :: is,out,B,hB,h,x,hx=>by
  simp only [bump] at hx
  have hg:0≤gd out i.toNat∧gd out i.toNat≤B:=by
   unfold gd
   cases hq:out[i.toNat]? with
   |none=>exact⟨Int.le_refl _,hB⟩
   |some v=>exact h v (List.mem_of_getElem? hq)
  have:=bump_range2 is _ (B+1) (by omega) (fun y hy=>by
   rcases List.mem_or_eq_of_mem_set hy with hy|rfl
   ·have:=h y hy;omega
   ·omega) x hx
  rw [List.length_cons]
  push_cast
  omega
theorem shareS_len (total:Int) (ws:List Int):(shareS total ws).length=ws.length:=by
 unfold shareS
 split
 ·simp
 ·unfold toppedS;rw [bump_len];simp
theorem shareS_range {total:Int} {ws:List Int} (ht:0≤total) (hw:∀ x ∈ ws,0≤x):∀ x ∈ shareS total ws,0≤x∧x≤total+total:=by
 intro x hx
 unfold shareS at hx
 split at hx
 ·have:=List.eq_of_mem_replicate hx;omega
 ·rename_i h0
  have hs:0≤sumL ws:=by
   have:=mem_le_sum hw
   have h1:=sumL_bound ws (sumL ws+1000000000) (fun z hz=>⟨hw z hz,by have:=this z hz;omega⟩)
   exact h1.1
  have hp:0<sumL ws:=by omega
  have hf:∀ z ∈ (ws.map fun w=>total*w / sumL ws),0≤z∧z≤total:=fun z hz=>by
   obtain⟨w,hw1,rfl⟩:=List.mem_map.1 hz
   refine⟨Int.ediv_nonneg (Int.mul_nonneg ht (hw w hw1)) hs,Int.ediv_le_of_le_mul hp (Int.mul_le_mul_of_nonneg_left (mem_le_sum hw w hw1) ht)⟩
  have hz0:0≤sumL (ws.map fun w=>total*w / sumL ws):=(sumL_bound _ total hf).1
  unfold toppedS at hx
  have h2:=bump_range2 _ _ total ht hf x hx
  have h3:(((stableS (ltR (ws.map fun w=>total*w % sumL ws)) (iota (ws.map fun w=>total*w / sumL ws).length)).take (total - sumL (ws.map fun w=>total*w / sumL ws)).toNat).length:Int)≤total:=by
   have:=List.length_take_le (total - sumL (ws.map fun w=>total*w / sumL ws)).toNat (stableS (ltR (ws.map fun w=>total*w % sumL ws)) (iota (ws.map fun w=>total*w / sumL ws).length))
   omega
  omega
theorem setMax_len (l:List Itm):∀ (o sz:List Int),(setMax l o sz).length=sz.length
 | [],_=>rfl
 |i :: o,sz=>by simp only [setMax];rw [setMax_len l o];simp
theorem roundS_len (l:List Itm) (rest weight a b:Int):∀ (o:List Int) (s:RS),(roundS l rest weight a b o s).sz.length=s.sz.length
 | [],_=>rfl
 |i :: o,s=>by
  simp only [roundS]
  rw [roundS_len l rest weight a b o]
  unfold round1
  split
  ·simp
  ·split
   ·simp
   ·rfl
theorem rounds_len (l:List Itm):∀ (f:Nat) (s:GS),(rounds l f s).sz.length=s.sz.length
 | 0,_=>rfl
 |f+1,s=>by
  unfold rounds
  split
  ·rfl
  ·split
   ·rfl
   ·simp only
    rw [rounds_len l f]
    exact roundS_len ..
theorem assign_len:∀ (o r sz:List Int),(assign o r sz).length=sz.length
 |i :: o,x :: r,sz=>by simp only [assign];rw [assign_len o r];simp
 | [],_,_=>by simp [assign]
 |_ :: _,[],_=>by simp [assign]
theorem fillS_len (l:List Itm) (sz:List Int) (room:Int):(fillS l sz room).length=sz.length:=by
 unfold fillS fillE
 split
 ·exact setMax_len ..
 ·unfold tailS
  rw [assign_len,rounds_len]
theorem three_made (w:World) (n:Nat):∀ w',w'=((w.alloc (.cells (madeCells #[.int .i64 0] n) 3)).alloc (.cells (madeCells #[.int .i64 0] n) 3)).alloc (.cells (madeCells #[.int .i64 0] n) 3)→
  ArrI w' w.heap.size (List.replicate n 0)∧ArrI w' (w.heap.size+1) (List.replicate n 0)∧ArrI w' (w.heap.size+1+1) (List.replicate n 0)∧Below w.heap.size w w':=by
 rintro _ rfl
 have a0:=ArrI.made w n
 have a1:=ArrI.made (w.alloc (.cells (madeCells #[.int .i64 0] n) 3)) n
 have a2:=ArrI.made ((w.alloc (.cells (madeCells #[.int .i64 0] n) 3)).alloc (.cells (madeCells #[.int .i64 0] n) 3)) n
 rw [World.size_alloc] at a1
 rw [World.size_alloc,World.size_alloc] at a2
 refine⟨?_,?_,a2,(((Below.refl _ w).alloc (Nat.le_refl _) _).alloc (by simp) _).alloc (by simp;omega) _⟩
 ·exact Arr.below (Arr.below a0 ((Below.refl _ _).alloc (Nat.le_refl _) _)) ((Below.refl _ _).alloc (Nat.le_refl _) _)
 ·exact Arr.below a1 ((Below.refl _ _).alloc (Nat.le_refl _) _)
set_option maxRecDepth 100000 in
set_option maxHeartbeats 8000000 in
theorem sizes_any {W:World} {ib ic n:Nat} {its:List Itm} (hit:∀ (i:Nat) x,its[i]?=some x→ItmAt W ib (i*5) x) (hib:ib<W.heap.size) (hn:its.length=n) (h1:1≤n) (h2:n≤4096) (ext gap:Int) :
  Calls Tryz.prog 96 #[.slice (some ⟨ib,0,none⟩) n ic,.int .i64 ext,.int .i64 gap] W (NewI (sizesS its ext gap) W):=by
 have HIT:=zH hit
 have HN:=zH hn
 have hs1:=sideS_range ext
 have hs2:=sideS_range gap
 obtain⟨a,ha⟩:∃ a,sideS ext=a:=⟨_,rfl⟩
 obtain⟨g,hg⟩:∃ g,sideS gap=g:=⟨_,rfl⟩
 obtain⟨room,hroom⟩:∃ room:Int,max 0 (a - g*((n:Int) - 1))=room:=⟨_,rfl⟩
 have HS1:Hid (∀ W,Calls Tryz.prog 126 #[.int .i64 ext] W (VRet (.int .i64 a) W)):=zH (by rw [← ha];exact fun W=>sside_any ext W)
 have HS2:Hid (∀ W,Calls Tryz.prog 126 #[.int .i64 gap] W (VRet (.int .i64 g) W)):=zH (by rw [← hg];exact fun W=>sside_any gap W)
 have HA:=zH ha
 have HG:=zH hg
 rw [ha] at hs1
 rw [hg] at hs2
 have hgn:0≤g*((n:Int) - 1)∧g*((n:Int) - 1)≤4096*4096:=⟨Int.mul_nonneg hs2.1 (by omega),Int.mul_le_mul hs2.2 (by omega) (by omega) (by omega)⟩
 have hrr:0≤room∧room≤4096:=by omega
 have HSZ:Hid (sizesS its ext gap=if room<sumL (minsN its) then shareS room (minsN its) else if 0<sumL (wantsN room its) - room then List.zipWith (· - ·) (wantsN room its) (shareS (sumL (wantsN room its) - room) (overN room its)) else fillS (its.map normI) (wantsN room its) room):=zH (by
  unfold sizesS
  rw [if_neg (by omega)]
  simp only [HA.out,HG.out,HN.out,hroom]
  have e1:(its.map normI).map Itm.mn=minsN its:=by simp [minsN]
  have e2:(its.map normI).map (wantS room)=wantsN room its:=by simp [wantsN]
  have e3:List.zipWith (· - ·) (wantsN room its) (minsN its)=overN room its:=by simp [wantsN,minsN,overN,List.zipWith_map_left,List.zipWith_map_right,List.zipWith_self]
  rw [e1,e2,e3])
 have hz0:((n:Int) == 0)=false:=by simp;omega
 have hz1:decide (4096<(n:Int))=false:=by simp;omega
 have hmk:=mk_ints n (by omega)
 have hmi:=mk_itemsU n (by omega)
 clear hit hn ha hg
 obtain⟨T,hT⟩:∃ T,sizesS its ext gap=T:=⟨_,rfl⟩
 rw [hT] at HSZ ⊢
 clear hT
 go_enter Tryz.func96,Tryz.ntmps96
 go_upto_region 5 with (first|(go_at_call 126;((with_reducible refine(HS1.out _).mono ?_);rintro e1 wq ⟨rfl,hwq⟩;obtain rfl:=hwq.symm))|(go_at_call 126;((with_reducible refine(HS2.out _).mono ?_);rintro e1 wq ⟨rfl,hwq⟩;obtain rfl:=hwq.symm)))
 obtain⟨r0,hr0,hmi0⟩:=hmi W
 go_upto_region 6 with (fail)
 obtain⟨w1,hw1⟩:∃ w1,W.alloc (.cells r0.toArray 40)=w1:=⟨_,rfl⟩
 obtain⟨lb,hlb⟩:∃ lb,W.heap.size=lb:=⟨_,rfl⟩
 have hb1:Below W.heap.size W w1:=by rw [← hw1];exact(Below.refl _ W).alloc (Nat.le_refl _) _
 have hl1:Arr w1 lb r0 40:=by rw [← hw1,← hlb];exact heap_alloc_new W _
 have hsz1:w1.heap.size=lb+1:=by rw [← hw1,← hlb];simp
 rw [hw1,hlb]
 clear hw1 hmi hmi0
 go_cut [10,11,12] (fun a b c w'=>∃ mb wb ob,a=.slice (some ⟨mb,0,none⟩) n n∧b=.slice (some ⟨wb,0,none⟩) n n∧c=.slice (some ⟨ob,0,none⟩) n n∧SS W lb mb wb ob n its room 0 w')
 case first=>
  have q:=three_made w1 n
  rw [hsz1] at q
  go_region
  all_goals go_wp2
  all_goals go_meet
  all_goals obtain⟨q0,q1,q2,q3⟩:=q _ rfl
  all_goals rw [← hsz1] at q3
  all_goals first|exact⟨lb+1,lb+1+1,lb+1+1+1,rfl,rfl,rfl,SS.start HN.out hr0 hl1 (Below.drew q3) (Below.drew (hb1.trans (q3.mono hb1.size))) (by omega) (by omega) q0 q1 q2 (by omega) (by omega) (by omega) (by omega) (by omega) (by omega) (by omega)⟩|exact⟨lb+1,lb+1+1+1,lb+1+1,rfl,rfl,rfl,SS.start HN.out hr0 hl1 (Below.drew q3) (Below.drew (hb1.trans (q3.mono hb1.size))) (by omega) (by omega) q0 q2 q1 (by omega) (by omega) (by omega) (by omega) (by omega) (by omega) (by omega)⟩|exact⟨lb+1+1,lb+1,lb+1+1+1,rfl,rfl,rfl,SS.start HN.out hr0 hl1 (Below.drew q3) (Below.drew (hb1.trans (q3.mono hb1.size))) (by omega) (by omega) q1 q0 q2 (by omega) (by omega) (by omega) (by omega) (by omega) (by omega) (by omega)⟩|exact⟨lb+1+1,lb+1+1+1,lb+1,rfl,rfl,rfl,SS.start HN.out hr0 hl1 (Below.drew q3) (Below.drew (hb1.trans (q3.mono hb1.size))) (by omega) (by omega) q1 q2 q0 (by omega) (by omega) (by omega) (by omega) (by omega) (by omega) (by omega)⟩|exact⟨lb+1+1+1,lb+1,lb+1+1,rfl,rfl,rfl,SS.start HN.out hr0 hl1 (Below.drew q3) (Below.drew (hb1.trans (q3.mono hb1.size))) (by omega) (by omega) q2 q0 q1 (by omega) (by omega) (by omega) (by omega) (by omega) (by omega) (by omega)⟩|exact⟨lb+1+1+1,lb+1+1,lb+1,rfl,rfl,rfl,SS.start HN.out hr0 hl1 (Below.drew q3) (Below.drew (hb1.trans (q3.mono hb1.size))) (by omega) (by omega) q2 q1 q0 (by omega) (by omega) (by omega) (by omega) (by omega) (by omega) (by omega)⟩
 case rest=>
 obtain⟨mb,wb,ob,rfl,rfl,rfl,hSS⟩:=hcut
 go_wp2
 go_loopw [45] (fun i wr=>∃ k:Nat,i=.int .i64 k∧k≤n∧SS W lb mb wb ob n its room k wr) (fun i _=>n - (intOf i).toNat)
 case atStart=>exact⟨0,rfl,by omega,hSS⟩
 case round=>
  obtain⟨k,rfl,hk,hS⟩:=hrel
  rcases Nat.lt_or_ge k n with hlt|hge
  ·obtain⟨x,hx⟩:∃ x,its[k]?=some x:=⟨_,List.getElem?_eq_getElem (by rw [HN.out];exact hlt)⟩
   have c0:wr.cell? ⟨ib,k*5,none⟩=some (.int .i8 x.k):=(hS.g.cell (p:=⟨ib,k*5,none⟩) hib).trans (HIT.out k x hx).k
   have c1:wr.cell? ⟨ib,k*5+1,none⟩=some (.int .i64 x.n):=(hS.g.cell (p:=⟨ib,k*5+1,none⟩) hib).trans (HIT.out k x hx).n
   have c2:wr.cell? ⟨ib,k*5+2,none⟩=some (.int .i64 x.d):=(hS.g.cell (p:=⟨ib,k*5+2,none⟩) hib).trans (HIT.out k x hx).d
   have c3:wr.cell? ⟨ib,k*5+3,none⟩=some (.int .i64 x.mn):=(hS.g.cell (p:=⟨ib,k*5+3,none⟩) hib).trans (HIT.out k x hx).mn
   have c4:wr.cell? ⟨ib,k*5+4,none⟩=some (.int .i64 x.mx):=(hS.g.cell (p:=⟨ib,k*5+4,none⟩) hib).trans (HIT.out k x hx).mx
   have hibr:ib<wr.heap.size:=Nat.lt_of_lt_of_le hib hS.g.size
   obtain⟨b,hb⟩:∃ b:Bool,decide (RightP x.k x.n x.d x.mn x.mx)=b:=⟨_,rfl⟩
   have HRI:Hid (∀ W,Calls Tryz.prog 91 #[.agg #[.int .i8 x.k,.int .i64 x.n,.int .i64 x.d,.int .i64 x.mn,.int .i64 x.mx]] W (VBel (.bool b) W)):=zH fun W=>by
    have:=right_any x.k x.n x.d x.mn x.mx W
    rw [hb] at this
    exact this
   have HX:=zH hx
   have HB:=zH hb
   have HS:=zH hS
   clear hx hb hS hSS
   go_upto_if 52 with (first|(go_at_call 91;((with_reducible refine(HRI.out _).mono ?_);rintro e5 w5 ⟨rfl,hb5⟩)))
   go_cut [14] (fun v w'=>∃ tb,v=.pointer (some ⟨tb,0,none⟩)∧Arr w' tb (it5 (normI x)) 40∧Below wr.heap.size wr w'∧wr.heap.size≤tb)
   case first=>
    have hT:Arr (wr.alloc (.cells (it5 x).toArray 40)) wr.heap.size (it5 x) 40:=heap_alloc_new wr _
    have hT5:Arr w5 wr.heap.size (it5 x) 40:=Arr.below hT hb5
    have hb6:Below wr.heap.size wr w5:=((Below.refl _ wr).alloc (Nat.le_refl _) _).trans (hb5.mono (by simp))
    have HB6:=zH hb6
    have HT5:=zH hT5
    have t0:=hT5.cell (j:=0) rfl
    have t1:=hT5.cell (j:=1) rfl
    have t2:=hT5.cell (j:=2) rfl
    have t3:=hT5.cell (j:=3) rfl
    have t4:=hT5.cell (j:=4) rfl
    have z0:=hT5.froz 0
    have z1:=hT5.froz 1
    have z2:=hT5.froz 2
    have z3:=hT5.froz 3
    have z4:=hT5.froz 4
    have lt5:=hT5.lt
    clear hT hT5 hb5 hb6 c0 c1 c2 c3 c4
    cases b
    ·have hnot:normI x=⟨1,0,0,0,0⟩:=by unfold normI;exact if_neg (of_decide_eq_false HB.out)
     have HNO:=zH hnot
     clear hnot
     go_wp2
     go_meet
     refine⟨wr.heap.size,rfl,?_,HB6.out.setCell (p:=⟨wr.heap.size,0,none⟩) (Nat.le_refl _) _ |>.setCell (p:=⟨wr.heap.size,1,none⟩) (Nat.le_refl _) _ |>.setCell (p:=⟨wr.heap.size,2,none⟩) (Nat.le_refl _) _ |>.setCell (p:=⟨wr.heap.size,3,none⟩) (Nat.le_refl _) _ |>.setCell (p:=⟨wr.heap.size,4,none⟩) (Nat.le_refl _) _,Nat.le_refl _⟩
     rw [HNO.out]
     exact((((HT5.out.set 0 (.int .i8 1)).set 1 (.int .i64 0)).set 2 (.int .i64 0)).set 3 (.int .i64 0)).set 4 (.int .i64 0)
    ·have hyes:normI x=x:=by unfold normI;exact if_pos (of_decide_eq_true HB.out)
     have HYE:=zH hyes
     clear hyes
     go_wp2
     go_meet
     exact⟨wr.heap.size,rfl,by rw [HYE.out];exact HT5.out,HB6.out,Nat.le_refl _⟩
   case rest=>
   obtain⟨tb,rfl,hTb,hbc,htb⟩:=hcut
   have hwr:=want_range (x:=x) hrr
   obtain⟨y,hy⟩:∃ y,normI x=y:=⟨_,rfl⟩
   have hfy:FItm y:=hy ▸ normI_fitm x
   rw [hy] at hTb hwr
   have HY:=zH hy
   obtain⟨r,hr,hS4⟩:=HS.out.four
   have hS4c:=hS4.below hbc
   have hk5:=part_get (l:=minsN its) (k:=k) (by simp [minsN,HN.out];exact hlt)
   have hk6:=part_get (l:=wantsN room its) (k:=k) (by simp [wantsN,HN.out];exact hlt)
   have hk7:=part_get (l:=overN room its) (k:=k) (by simp [overN,HN.out];exact hlt)
   have hxk:=HX.out
   have hmy:(minsN its)[k]?=some y.mn:=by simp [minsN,hxk,hy]
   have hwy:(wantsN room its)[k]?=some (wantS room y):=by simp [wantsN,hxk,hy]
   have hoy:(overN room its)[k]?=some (wantS room y - y.mn):=by simp [overN,hxk,hy]
   have hty:((its.map normI).take (k+1))=(its.map normI).take k ++ [y]:=by
    have hq:(its.map normI)[k]?=some y:=by simp [hxk,hy]
    obtain⟨q1,q2⟩:=List.getElem?_eq_some_iff.1 hq
    rw [List.take_succ_eq_append_getElem q1,q2]
   obtain⟨r2,hr2,hL,hcells⟩:=itL_put (n:=n) (k:=k) (ts:=(its.map normI).take k) (l:=r) y (by simp [HN.out];omega) hr hlt
   have HL:=zH hL
   have HTY:=zH hty
   have HMY:=zH hmy
   have HWY:=zH hwy
   have HOY:=zH hoy
   obtain⟨v0,hv0⟩:=hcells 0 (by omega)
   obtain⟨v1,hv1⟩:=hcells 1 (by omega)
   obtain⟨v2,hv2⟩:=hcells 2 (by omega)
   obtain⟨v3,hv3⟩:=hcells 3 (by omega)
   obtain⟨v4,hv4⟩:=hcells 4 (by omega)
   have l0:wc.cell? ⟨lb,k*5,none⟩=some v0:=hS4c.li.cell (j:=k*5) hv0
   have l1:=hS4c.li.cell hv1
   have l2:=hS4c.li.cell hv2
   have l3:=hS4c.li.cell hv3
   have l4:=hS4c.li.cell hv4
   have f0:=hS4c.li.froz (k*5)
   have f1:=hS4c.li.froz (k*5+1)
   have f2:=hS4c.li.froz (k*5+2)
   have f3:=hS4c.li.froz (k*5+3)
   have f4:=hS4c.li.froz (k*5+4)
   have m0:=hS4c.mi.at hk5
   have a0:=hS4c.wa.at hk6
   have o0:=hS4c.ov.at hk7
   have mf:=Arr.froz hS4c.mi k
   have af:=Arr.froz hS4c.wa k
   have oof:=Arr.froz hS4c.ov k
   have g0:=hTb.cell (j:=0) rfl
   have g1:=hTb.cell (j:=1) rfl
   have g2:=hTb.cell (j:=2) rfl
   have g3:=hTb.cell (j:=3) rfl
   have g4:=hTb.cell (j:=4) rfl
   have blb:lb<wr.heap.size:=HS.out.four.choose_spec.2.li.lt
   have bmb:mb<wr.heap.size:=Arr.lt HS.out.mi
   have bwb:wb<wr.heap.size:=Arr.lt HS.out.wa
   have bob:ob<wr.heap.size:=Arr.lt HS.out.ov
   have ne1:lb ≠ tb:=by omega
   have ne2:mb ≠ tb:=by omega
   have ne3:wb ≠ tb:=by omega
   have ne4:ob ≠ tb:=by omega
   have n1:=hS4c.e1
   have n2:=hS4c.e2
   have n3:=hS4c.e3
   have n4:=hS4c.e4
   have n5:=hS4c.e5
   have n6:=hS4c.e6
   have btc:=hTb.lt
   have bc1:lb<wc.heap.size:=by have:=hbc.size;omega
   have bc2:mb<wc.heap.size:=by have:=hbc.size;omega
   have bc3:wb<wc.heap.size:=by have:=hbc.size;omega
   have bc4:ob<wc.heap.size:=by have:=hbc.size;omega
   have HTB:=zH hTb
   have HS4:=zH hS4c
   clear hy hxk hmy hwy hoy hty hL hcells hv0 hv1 hv2 hv3 hv4 hS4 hS4c hTb hk5 hk6 hk7
   go_upto_region 14 with (fail)
   obtain⟨wm,hwm⟩:∃ wm,(((((wc.setCell ⟨lb,k*5,none⟩ (.int .i8 y.k)).setCell ⟨lb,k*5+1,none⟩ (.int .i64 y.n)).setCell ⟨lb,k*5+2,none⟩ (.int .i64 y.d)).setCell ⟨lb,k*5+3,none⟩ (.int .i64 y.mn)).setCell ⟨lb,k*5+4,none⟩ (.int .i64 y.mx)).setCell ⟨mb,k,none⟩ (.int .i64 y.mn)=wm:=⟨_,rfl⟩
   have hS5:S4 W lb mb wb ob (itL ((its.map normI).take (k+1)) ++ r2) (part (minsN its) (k+1)) (part (wantsN room its) k) (part (overN room its) k) wm:=by
    have q:=(((((HS4.out.putL (k*5) (.int .i8 y.k)).putL (k*5+1) (.int .i64 y.n)).putL (k*5+2) (.int .i64 y.d)).putL (k*5+3) (.int .i64 y.mn)).putL (k*5+4) (.int .i64 y.mx)).putM k y.mn
    rw [HL.out,part_set HMY.out,← HTY.out] at q
    rw [← hwm];exact q
   have hTm:Arr wm tb (it5 y) 40:=by
    rw [← hwm]
    exact(((((HTB.out.oth (Ne.symm ne1)).oth (Ne.symm ne1)).oth (Ne.symm ne1)).oth (Ne.symm ne1)).oth (Ne.symm ne1)).oth (Ne.symm ne2)
   rw [hwm]
   clear hwm l0 l1 l2 l3 l4 f0 f1 f2 f3 f4 m0 a0 o0 mf af oof g0 g1 g2 g3 g4
   have m0:=hS5.mi.at (part_got HMY.out)
   have a0:=hS5.wa.at (part_get (l:=wantsN room its) (k:=k) (by simp [wantsN,HN.out];exact hlt))
   have o0:=hS5.ov.at (part_get (l:=overN room its) (k:=k) (by simp [overN,HN.out];exact hlt))
   have af:=Arr.froz hS5.wa k
   have oof:=Arr.froz hS5.ov k
   have g0:=hTm.cell (j:=0) rfl
   have g1:=hTm.cell (j:=1) rfl
   have g2:=hTm.cell (j:=2) rfl
   have g3:=hTm.cell (j:=3) rfl
   have g4:=hTm.cell (j:=4) rfl
   have b2:=Arr.lt hS5.mi
   have b3:=Arr.lt hS5.wa
   have b4:=Arr.lt hS5.ov
   have b5:=hTm.lt
   have HS5:=zH hS5
   have HTM:=zH hTm
   obtain⟨wv,hwv⟩:∃ wv,wantS room y=wv:=⟨_,rfl⟩
   have HWV:=zH hwv
   rw [hwv] at hwr HWY HOY
   clear hS5 hTm hwv
   by_cases h2:y.k=2
   ·as_aux_lemma=>
     have hpo:=part_ok HY.out h2
     have e2:(y.k == 2)=true:=by simp [h2]
     have hm:0≤y.n*room∧y.n*room≤4096000:=⟨Int.mul_nonneg hpo.1 hrr.1,by
      have:=Int.mul_le_mul hpo.2.1 hrr.2 hrr.1 (by omega)
      omega⟩
     have hd:(y.n*room).tdiv y.d=y.n*room / y.d:=Int.tdiv_eq_ediv_of_nonneg hm.1
     have hd0:(y.d == 0)=false:=by simp;omega
     have hq:0≤y.n*room / y.d∧y.n*room / y.d≤4096000:=⟨Int.ediv_nonneg hm.1 (by omega),Int.le_trans (Int.ediv_le_self _ hm.1) hm.2⟩
     have HIN:Hid (∀ W,Calls Tryz.prog 127 #[.int .i64 (y.n*room / y.d),.agg #[.int .i8 y.k,.int .i64 y.n,.int .i64 y.d,.int .i64 y.mn,.int .i64 y.mx]] W (VBel (.int .i64 wv) W)):=zH fun W=>by
      have q:=sinto_any (y.n*room / y.d) y W
      have e:intoS (y.n*room / y.d) y=wv:=by rw [← HWV.out];unfold wantS;rw [if_pos h2]
      rw [e] at q
      exact q
     clear h2
     have hd1:¬ y.d=0:=by omega
     have EW:Hid (IntKind.i64.wrap ((IntKind.i64.wrap (y.n*room)).tdiv y.d)=y.n*room / y.d):=zH (by
      have e:∀ t:Int,0≤t→t≤4096000→IntKind.i64.wrap t=t:=fun t h1 h2=>by rw [IntKind.wrap_i64];omega
      rw [e _ hm.1 hm.2,hd,e _ hq.1 hq.2])
     have HG:Hid (∀ w7,Below wm.drew.heap.size wm.drew w7→w7.cell? ⟨tb,0,none⟩=some (.int .i8 y.k)∧w7.cell? ⟨tb,1,none⟩=some (.int .i64 y.n)∧w7.cell? ⟨tb,2,none⟩=some (.int .i64 y.d)∧w7.cell? ⟨tb,3,none⟩=some (.int .i64 y.mn)∧w7.cell? ⟨tb,4,none⟩=some (.int .i64 y.mx)):=zH fun w7 hb7=>by
      have q:=Arr.below (W:=wm.drew) HTM.out hb7
      exact⟨q.cell (j:=0) rfl,q.cell (j:=1) rfl,q.cell (j:=2) rfl,q.cell (j:=3) rfl,q.cell (j:=4) rfl⟩
     have HG2:Hid (∀ w7,Below wm.drew.heap.size wm.drew w7→(w7.setCell ⟨wb,k,none⟩ (.int .i64 wv)).cell? ⟨tb,0,none⟩=some (.int .i8 y.k)∧(w7.setCell ⟨wb,k,none⟩ (.int .i64 wv)).cell? ⟨tb,1,none⟩=some (.int .i64 y.n)∧(w7.setCell ⟨wb,k,none⟩ (.int .i64 wv)).cell? ⟨tb,2,none⟩=some (.int .i64 y.d)∧(w7.setCell ⟨wb,k,none⟩ (.int .i64 wv)).cell? ⟨tb,3,none⟩=some (.int .i64 y.mn)∧(w7.setCell ⟨wb,k,none⟩ (.int .i64 wv)).cell? ⟨tb,4,none⟩=some (.int .i64 y.mx)):=zH fun w7 hb7=>by
      have q:=Arr.oth (v:=.int .i64 wv) (j:=k) (Arr.below (W:=wm.drew) HTM.out hb7) (Ne.symm ne3)
      exact⟨q.cell (j:=0) rfl,q.cell (j:=1) rfl,q.cell (j:=2) rfl,q.cell (j:=3) rfl,q.cell (j:=4) rfl⟩
     go_upto_region 17 with (fail)
     go_region_held3 (fun W=>W.cell? ⟨tb,0,none⟩=some (.int .i8 y.k)∧W.cell? ⟨tb,1,none⟩=some (.int .i64 y.n)∧W.cell? ⟨tb,2,none⟩=some (.int .i64 y.d)∧W.cell? ⟨tb,3,none⟩=some (.int .i64 y.mn)∧W.cell? ⟨tb,4,none⟩=some (.int .i64 y.mx))
      (first|exact⟨g0,g1,g2,g3,g4⟩|exact HG.out _ hb7|exact HG2.out _ hb7)
      (first|(go_at_call 127;rw [EW.out];((with_reducible refine(HIN.out _).mono ?_);rintro e7 w7 ⟨rfl,hb7⟩;have a7:w7.cell? ⟨wb,k,none⟩=some (.int .i64 0):=(hb7.cell (p:=⟨wb,k,none⟩) b3).trans a0;have af7:w7.frozen? ⟨wb,k,none⟩=false:=(World.frozen?_of_block (a:=⟨wb,k,none⟩) (hb7.block wb b3)).trans af;have b37:=Nat.lt_of_lt_of_le b3 hb7.size))|(go_at_call 127;((with_reducible refine(HIN.out _).mono ?_);rintro e7 w7 ⟨rfl,hb7⟩;have a7:w7.cell? ⟨wb,k,none⟩=some (.int .i64 0):=(hb7.cell (p:=⟨wb,k,none⟩) b3).trans a0;have af7:w7.frozen? ⟨wb,k,none⟩=false:=(World.frozen?_of_block (a:=⟨wb,k,none⟩) (hb7.block wb b3)).trans af;have b37:=Nat.lt_of_lt_of_le b3 hb7.size)))
     go_upto_region 20 with (fail)
     obtain⟨wn,hwn⟩:∃ wn,w7.setCell ⟨wb,k,none⟩ (.int .i64 wv)=wn:=⟨_,rfl⟩
     have hS6:S4 W lb mb wb ob (itL ((its.map normI).take (k+1)) ++ r2) (part (minsN its) (k+1)) (part (wantsN room its) (k+1)) (part (overN room its) k) wn:=by
      have q:=((HS5.out.below (Below.drew (Below.refl _ wm))).below hb7).putA k wv
      rw [part_set HWY.out] at q
      rw [← hwn];exact q
     clear hb7 a7 af7 b37
     rw [hwn]
     clear hwn m0 a0 o0 af oof b2 b3 b4 b5 g0 g1 g2 g3 g4 bc1 bc2 bc3 bc4 btc
     have m1:=hS6.mi.at (part_got HMY.out)
     have a1:=hS6.wa.at (part_got HWY.out)
     have o1:=hS6.ov.at (part_get (l:=overN room its) (k:=k) (by simp [overN,HN.out];exact hlt))
     have of1:=Arr.froz hS6.ov k
     have c2:=Arr.lt hS6.mi
     have c3:=Arr.lt hS6.wa
     have c4:=Arr.lt hS6.ov
     have HS6:=zH hS6
     clear hS6
     go_region
     all_goals go_wp2
     go_roundw
     case rel=>
      refine⟨k+1,by first|rfl|go_num,by omega,S4.back hr2 ?_⟩
      have q:=(HS6.out.below (Below.drew (Below.refl _ wn))).putO k (wv - y.mn)
      rw [part_set HOY.out] at q
      exact q
     case measure=>simp [intOf];omega
   ·by_cases h3:y.k=3
    ·as_aux_lemma=>
      have e2:(y.k == 2)=false:=by simp [h2]
      have e3:(y.k == 3)=true:=by simp [h3]
      have hmn:y.mn=wv:=by rw [← HWV.out];unfold wantS;rw [if_neg h2,if_pos h3]
      have HMN:=zH hmn
      clear h2 h3 hmn
      go_upto_region 20 with (fail)
      obtain⟨wn,hwn⟩:∃ wn,wm.setCell ⟨wb,k,none⟩ (.int .i64 y.mn)=wn:=⟨_,rfl⟩
      have hS6:S4 W lb mb wb ob (itL ((its.map normI).take (k+1)) ++ r2) (part (minsN its) (k+1)) (part (wantsN room its) (k+1)) (part (overN room its) k) wn:=by
       have q:=HS5.out.putA k y.mn
       have e:(part (wantsN room its) k).set k y.mn=part (wantsN room its) (k+1):=by rw [HMN.out];exact part_set HWY.out
       rw [e] at q
       rw [← hwn];exact q
      rw [hwn]
      clear hwn m0 a0 o0 af oof b2 b3 b4 b5 g0 g1 g2 g3 g4 bc1 bc2 bc3 bc4 btc
      have m1:=hS6.mi.at (part_got HMY.out)
      have a1:=hS6.wa.at (part_got HWY.out)
      have o1:=hS6.ov.at (part_get (l:=overN room its) (k:=k) (by simp [overN,HN.out];exact hlt))
      have of1:=Arr.froz hS6.ov k
      have c2:=Arr.lt hS6.mi
      have c3:=Arr.lt hS6.wa
      have c4:=Arr.lt hS6.ov
      have HS6:=zH hS6
      clear hS6
      go_region
      all_goals go_wp2
      go_roundw
      case rel=>
       refine⟨k+1,by first|rfl|go_num,by omega,S4.back hr2 ?_⟩
       have q:=(HS6.out.below (Below.drew (Below.refl _ wn))).putO k (wv - y.mn)
       rw [part_set HOY.out] at q
       exact q
      case measure=>simp [intOf];omega
    ·as_aux_lemma=>
      have e2:(y.k == 2)=false:=by simp [h2]
      have e3:(y.k == 3)=false:=by simp [h3]
      have HIN:Hid (∀ W,Calls Tryz.prog 127 #[.int .i64 y.n,.agg #[.int .i8 y.k,.int .i64 y.n,.int .i64 y.d,.int .i64 y.mn,.int .i64 y.mx]] W (VBel (.int .i64 wv) W)):=zH fun W=>by
       have q:=sinto_any y.n y W
       have e:intoS y.n y=wv:=by rw [← HWV.out];unfold wantS;rw [if_neg h2,if_neg h3]
       rw [e] at q
       exact q
      clear h2 h3
      go_upto_region 20 with (first|(go_at_call 127;((with_reducible refine(HIN.out _).mono ?_);rintro e7 w7 ⟨rfl,hb7⟩;have a7:=(hb7.cell (p:=⟨wb,k,none⟩) b3).trans a0;have af7:=(World.frozen?_of_block (a:=⟨wb,k,none⟩) (hb7.block wb b3)).trans af;have b37:=Nat.lt_of_lt_of_le b3 hb7.size)))
      obtain⟨wn,hwn⟩:∃ wn,w7.setCell ⟨wb,k,none⟩ (.int .i64 wv)=wn:=⟨_,rfl⟩
      have hS6:S4 W lb mb wb ob (itL ((its.map normI).take (k+1)) ++ r2) (part (minsN its) (k+1)) (part (wantsN room its) (k+1)) (part (overN room its) k) wn:=by
       have q:=(HS5.out.below hb7).putA k wv
       rw [part_set HWY.out] at q
       rw [← hwn];exact q
      clear hb7 a7 af7 b37
      rw [hwn]
      clear hwn m0 a0 o0 af oof b2 b3 b4 b5 g0 g1 g2 g3 g4 bc1 bc2 bc3 bc4 btc
      have m1:=hS6.mi.at (part_got HMY.out)
      have a1:=hS6.wa.at (part_got HWY.out)
      have o1:=hS6.ov.at (part_get (l:=overN room its) (k:=k) (by simp [overN,HN.out];exact hlt))
      have of1:=Arr.froz hS6.ov k
      have c2:=Arr.lt hS6.mi
      have c3:=Arr.lt hS6.wa
      have c4:=Arr.lt hS6.ov
      have HS6:=zH hS6
      clear hS6
      go_region
      all_goals go_wp2
      go_roundw
      case rel=>
       refine⟨k+1,by first|rfl|go_num,by omega,S4.back hr2 ?_⟩
       have q:=(HS6.out.below (Below.drew (Below.refl _ wn))).putO k (wv - y.mn)
       rw [part_set HOY.out] at q
       exact q
      case measure=>simp [intOf];omega
  ·obtain rfl:k=n:=by omega
   have hlm:(minsN its).length=k:=by simp [minsN,HN.out]
   have hlw:(wantsN room its).length=k:=by simp [wantsN,HN.out]
   have hlo:(overN room its).length=k:=by simp [overN,HN.out]
   obtain⟨r,hr,hS4⟩:=hS.four
   obtain rfl:r=[]:=List.eq_nil_of_length_eq_zero (by omega)
   rw [full_len hlm,full_len hlw,full_len hlo,List.append_nil,List.take_of_length_le (by simp [HN.out])] at hS4
   have hbm:∀ x ∈ minsN its,0≤x∧x≤4096:=fun x hx=>by
    obtain⟨z,_,rfl⟩:=List.mem_map.1 hx
    have:=want_range (x:=z) hrr
    omega
   have hbw:∀ x ∈ wantsN room its,0≤x∧x≤4096000:=fun x hx=>by
    obtain⟨z,_,rfl⟩:=List.mem_map.1 hx
    have:=want_range (x:=z) hrr
    omega
   have hbo:∀ x ∈ overN room its,0≤x∧x≤4096000:=fun x hx=>by
    obtain⟨z,_,rfl⟩:=List.mem_map.1 hx
    have:=want_range (x:=z) hrr
    omega
   have sm:SlI wr (.slice (some ⟨mb,0,none⟩) k k) (minsN its):=by have:=ArrI.sl hS4.mi (by omega) k;rwa [hlm] at this
   have sw:SlI wr (.slice (some ⟨wb,0,none⟩) k k) (wantsN room its):=by have:=ArrI.sl hS4.wa (by omega) k;rwa [hlw] at this
   have so:SlI wr (.slice (some ⟨ob,0,none⟩) k k) (overN room its):=by have:=ArrI.sl hS4.ov (by omega) k;rwa [hlo] at this
   have HSM:=zH (ssum_any _ (minsN its) wr sm (by omega) (fun x hx=>by have:=hbm x hx;omega))
   have HSW:=zH (ssum_any _ (wantsN room its) wr sw (by omega) (fun x hx=>by have:=hbw x hx;omega))
   have hsb1:=sumL_bound (minsN its) 4096 hbm
   have hsb2:=sumL_bound (wantsN room its) 4096000 hbw
   obtain⟨q1,hq1⟩:∃ q,sumL (minsN its)=q:=⟨_,rfl⟩
   obtain⟨q2,hq2⟩:∃ q,sumL (wantsN room its)=q:=⟨_,rfl⟩
   have HQ1:=zH hq1
   have HQ2:=zH hq2
   have HSH1:=zH (share_any sm room (by omega) (fun x hx=>by have:=hbm x hx;omega) (by omega))
   rw [hlm,hq1] at hsb1
   rw [hlw,hq2] at hsb2
   rw [hq1] at HSM
   rw [hq2] at HSW
   have hk4:4096*(k:Int)≤4096*4096:=by omega
   have hk5:4096000*(k:Int)≤4096000*4096:=by omega
   have HS4:=zH hS4
   clear hq1 sm sw hS
   by_cases hA:room<q1
   ·as_aux_lemma=>
     go_wp2_with (first|(go_at_call 128;((with_reducible refine HSM.out.mono ?_);rintro e5 wq ⟨rfl,hwq⟩;obtain rfl:=hwq.symm))|(go_at_call 129;((with_reducible refine HSH1.out.mono ?_);rintro e6 w6 ⟨sb,rfl,hsb,hsa,hsbl⟩)))
     go_ret
     rw [HSZ.out,HQ1.out,if_pos hA]
     exact NewI.from ⟨sb,rfl,hsb,hsa,hsbl⟩ HS4.out.g
   ·have hA2:¬ q1 > room:=by omega
    by_cases hB:0<q2 - room
    ·as_aux_lemma=>
      have HSH2:=zH (share_any so (q2 - room) (by omega) (fun x hx=>by have:=hbo x hx;omega) (by omega))
      obtain⟨sh,hsh⟩:∃ sh,shareS (q2 - room) (overN room its)=sh:=⟨_,rfl⟩
      have HSH:=zH hsh
      rw [hsh] at HSH2
      go_wp2_with (first|(go_at_call 128;((with_reducible refine HSM.out.mono ?_);rintro e5 wq ⟨rfl,hwq⟩;obtain rfl:=hwq.symm))|(go_at_call 128;((with_reducible refine HSW.out.mono ?_);rintro e5 wq ⟨rfl,hwq⟩;obtain rfl:=hwq.symm))|(go_at_call 129;((with_reducible refine HSH2.out.mono ?_);rintro e6 w6 ⟨sb,rfl,hsb,hsa,hsbl⟩)))
      have hshl:sh.length=k:=by rw [← HSH.out,shareS_len,hlo]
      have hshr:∀ x ∈ sh,0≤x∧x≤40000000000:=fun x hx=>by
       have:=shareS_range (total:=q2 - room) (by omega) (fun y hy=>(hbo y hy).1) x (by rw [HSH.out];exact hx)
       omega
      have hwb6:ArrI w6 wb (wantsN room its):=Arr.below HS4.out.wa hsbl
      have hsw:sb ≠ wb:=by have:=Arr.lt HS4.out.wa;omega
      have hb6:Below W.heap.size W w6:=HS4.out.g.trans (hsbl.mono HS4.out.g.size)
      have hnw:=HS4.out.nw
      have HSL:=zH hshl
      have HSR:=zH hshr
      have HBW:=zH hbw
      have HLW:=zH hlw
      have HRD:Hid (∀ w,ArrI w sb sh→∀ (j:Nat) (y:Int),sh[j]?=some y→w.cell? ⟨sb,j,none⟩=some (.int .i64 y)):=zH fun w h j y hj=>h.at hj
      rw [hshl]
      go_loopw [123] (fun i wl=>∃ j:Nat,i=.int .i64 j∧j≤k∧ArrI wl wb (offs (wantsN room its) sh j)∧ArrI wl sb sh∧Below W.heap.size W wl) (fun i _=>k - (intOf i).toNat)
      case atStart=>exact⟨0,rfl,by omega,by simpa [offs] using hwb6,hsa,hb6⟩
      case round=>
       obtain⟨j,rfl,hj,hw1,hw2,hw3⟩:=hrel
       rcases Nat.lt_or_ge j k with hjl|hjg
       ·obtain⟨y,hy⟩:∃ y,sh[j]?=some y:=⟨_,List.getElem?_eq_getElem (by rw [HSL.out];exact hjl)⟩
        obtain⟨x,hx⟩:∃ x,(wantsN room its)[j]?=some x:=⟨_,List.getElem?_eq_getElem (by rw [HLW.out];exact hjl)⟩
        have k1:=hw2.at hy
        have k2:=hw1.at ((offs_get (by rw [HSL.out,HLW.out]) (by rw [HLW.out];exact hjl)).trans hx)
        have kf:=Arr.froz hw1 j
        have d1:=Arr.lt hw1
        have d2:=Arr.lt hw2
        have ry:=HSR.out y (List.mem_of_getElem? hy)
        have rx:=HBW.out x (List.mem_of_getElem? hx)
        have hnew:∀ v,v=x - y→ArrI (wr.setCell ⟨wb,j,none⟩ (.int .i64 v)) wb (offs (wantsN room its) sh (j+1)):=fun v hv=>by
         have q:=hw1.put j v
         rw [hv,offs_set (by rw [HSL.out,HLW.out]) hx hy] at q
         rw [hv];exact q
        have HNEW:=zH hnew
        have HW2:=zH (Arr.oth (j:=j) (v:=.int .i64 (x - y)) hw2 hsw)
        have HW3:=zH (hw3.setCell (p:=⟨wb,j,none⟩) hnw (.int .i64 (x - y)))
        clear hw1 hw2 hw3 hx hy hnew
        go_wp2
        go_roundw
        case rel=>exact⟨j+1,by first|rfl|go_num,by omega,HNEW.out _ rfl,HW2.out,HW3.out⟩
        case measure=>simp [intOf];omega
       ·obtain rfl:j=k:=by omega
        have HW1:=zH hw1
        go_wp2
        go_ret
        rw [HSZ.out,HQ1.out,HQ2.out,if_neg (by omega),if_pos hB,HSH.out]
        refine⟨wb,?_,hnw,by rw [← offs_full HLW.out HSL.out];exact HW1.out,hw3⟩
        rw [List.length_zipWith,HLW.out,HSL.out,Nat.min_self]
        rfl
    ·as_aux_lemma=>
      have hB2:¬ q2 - room > 0:=by omega
      have hww:sumL (wantsN room its)≤room:=by rw [HQ2.out];omega
      have hfz:SzOk k (wantsN room its):=⟨hlw,fun x hx=>⟨(hbw x hx).1,by have:=mem_le_sum (fun y hy=>(hbw y hy).1) x hx;omega⟩⟩
      have hln:(its.map normI).length=k:=by simp [HN.out]
      have HFI:=zH (fill_any (lc:=k) (sc:=k) (fun i z hz=>itAt_arr (r:=[]) (by rw [List.append_nil];exact HS4.out.li) hz) HS4.out.wa HS4.out.li.lt HS4.out.e2 (fun z hz=>by obtain⟨q,_,rfl⟩:=List.mem_map.1 hz;exact normI_fitm q) (by rw [hln];exact hfz) k hln h2 room hrr (fill0_min (room0:=room) (by simp [wantsN]) hww))
      go_wp2_with (first|(go_at_call 128;((with_reducible refine HSM.out.mono ?_);rintro e5 wq ⟨rfl,hwq⟩;obtain rfl:=hwq.symm))|(go_at_call 128;((with_reducible refine HSW.out.mono ?_);rintro e5 wq ⟨rfl,hwq⟩;obtain rfl:=hwq.symm))|(go_at_call 130;((with_reducible refine HFI.out.mono ?_);rintro e6 w6 ⟨rfl,hfa,hfg⟩)))
      go_ret
      rw [HSZ.out,HQ1.out,HQ2.out,if_neg (by omega),if_neg (by omega)]
      refine⟨wb,?_,HS4.out.nw,hfa,⟨hfg.os.trans HS4.out.g.os,hfg.tape.trans HS4.out.g.tape,hfg.output.trans HS4.out.g.output,Nat.le_trans HS4.out.g.size hfg.size,fun i hi=>(hfg.block i (Nat.lt_of_lt_of_le hi HS4.out.g.size) (by have:=HS4.out.nw;simp;omega)).trans (HS4.out.g.block i hi)⟩⟩
      rw [fillS_len,hlw]
      rfl
end Go.Proofs.YtlenbcmgjancmaaGreatDoor
namespace Go.Proofs.YtlenbcmgjancmaaGreatDoor
open Go.RowKit
def Spn.val (s:Spn):Value:=.agg #[.int .i64 s.c,.int .i64 s.r,.int .i64 s.cs,.int .i64 s.rs]
def Spn.cells (s:Spn):List Value:=[.int .i64 s.c,.int .i64 s.r,.int .i64 s.cs,.int .i64 s.rs]
theorem Spn.cells_len (s:Spn):s.cells.length=4:=rfl
structure SpnAt (w:World) (g o:Nat) (s:Spn):Prop where
 c:w.cell? ⟨g,o,none⟩=some (.int .i64 s.c)
 r:w.cell? ⟨g,o+1,none⟩=some (.int .i64 s.r)
 cs:w.cell? ⟨g,o+2,none⟩=some (.int .i64 s.cs)
 rs:w.cell? ⟨g,o+3,none⟩=some (.int .i64 s.rs)
theorem SpnAt.of_eq {w w':World} {g o:Nat} {s:Spn} (h:SpnAt w g o s) (e:∀ (q:Nat),w'.cell? ⟨g,q,none⟩=w.cell? ⟨g,q,none⟩):SpnAt w' g o s:=by
 obtain⟨a1,a2,a3,a4⟩:=h
 constructor<;>(rw [e];assumption)
theorem SpnAt.below {w w':World} {g o B:Nat} {s:Spn} (h:SpnAt w g o s) (hb:Below B w w') (hg:g<B):SpnAt w' g o s:=h.of_eq fun q=>hb.cell (p:=⟨g,q,none⟩) hg
theorem SpnAt.other {w:World} {g o:Nat} {s:Spn} (h:SpnAt w g o s) {b:Nat} (hne:b ≠ g) (j:Nat) (v:Value):SpnAt (w.setCell ⟨b,j,none⟩ v) g o s :=
 h.of_eq fun q=>World.cell?_of_block (heap_setCell_other w ⟨b,j,none⟩ g _ (Ne.symm hne))
abbrev OneS (W:World) (b:Nat) (s:Spn):Prop:=Arr W b s.cells 135
theorem OneS.made (W:World) (a b c d:Int):OneS (W.alloc (.cells #[.int .i64 a,.int .i64 b,.int .i64 c,.int .i64 d] 135)) W.heap.size ⟨a,b,c,d⟩:=by
 unfold OneS Arr
 rw [heap_alloc_new]
 rfl
theorem OneS.at {W:World} {b:Nat} {s:Spn} (h:OneS W b s):SpnAt W b 0 s:=⟨h.cell (j:=0) rfl,h.cell (j:=1) rfl,h.cell (j:=2) rfl,h.cell (j:=3) rfl⟩
theorem OneS.put (W:World) {b:Nat} {s:Spn} (h:OneS W b s) (x:Spn):OneS ((((W.setCell ⟨b,0,none⟩ (.int .i64 x.c)).setCell ⟨b,1,none⟩ (.int .i64 x.r)).setCell ⟨b,2,none⟩ (.int .i64 x.cs)).setCell ⟨b,3,none⟩ (.int .i64 x.rs)) b x :=
 (((h.set 0 (.int .i64 x.c)).set 1 (.int .i64 x.r)).set 2 (.int .i64 x.cs)).set 3 (.int .i64 x.rs)
theorem res_one {fn:Func} {p:Tmp} (h:fn.results = #[.cell p 135]) {tmps:Array Value} {W:World} {b:Nat} {s:Spn} (hp:tmps.getD p undef=.pointer (some ⟨b,0,none⟩)) (ho:OneS W b s) :
  (results fn tmps).run Tryz.prog W=.ok s.val W :=
 results_cell_row h tmps W b _ _ _ _ hp ho Tryz.underlying135 rfl (show (Tryz.prog.info? 135).map (·.size)=some 4 by kernel_rfl)
theorem res_two {fn:Func} {p u:Tmp} (h:fn.results = #[.cell p 135,.tmp u]) {tmps:Array Value} {W:World} {b:Nat} {s:Spn} (hp:tmps.getD p undef=.pointer (some ⟨b,0,none⟩)) (ho:OneS W b s) :
  (results fn tmps).run Tryz.prog W=.ok (.tuple #[s.val,tmps.getD u undef]) W:=by
 rw [results_cell_tmp h,hp]
 have:=run_loadVar_row (P:=Tryz.prog) W b 135 135 s.cells.toArray (0,0) _ ho Tryz.underlying135 rfl (show (Tryz.prog.info? 135).map (·.size)=some 4 by kernel_rfl)
 simp [asAddr,this,Result.andThen]
 rfl
def SlS (w:World) (v:Value) (l:List Spn):Prop :=
 ∃ p c,v=.slice p l.length c∧l.length≤4398046511104∧∀ i x,l[i]?=some x→∃ g o,p=some ⟨g,o,none⟩∧g<w.heap.size∧SpnAt w g (o+i*4) x
theorem SlS.below {w w':World} {v:Value} {l:List Spn} (h:SlS w v l) (hb:Below w.heap.size w w'):SlS w' v l:=by
 obtain⟨p,c,rfl,hl,hx⟩:=h
 refine⟨p,c,rfl,hl,fun i x hi=>?_⟩
 obtain⟨g,o,e,hg,hc⟩:=hx i x hi
 exact⟨g,o,e,Nat.lt_of_lt_of_le hg hb.size,hc.below hb hg⟩
structure Brd (w:World) (bb:Nat) (cols M:Int) (tk:List Spn):Prop where
 cl:w.cell? ⟨bb,0,none⟩=some (.int .i64 cols)
 tv:∃ v,w.cell? ⟨bb,1,none⟩=some v∧SlS w v tk
 ok:∀ t ∈ tk,SOk cols M t
 hM:0≤M∧M≤60000000
 hc:1≤cols∧cols≤64
 n:tk.length≤8192
theorem Brd.lt {w:World} {bb:Nat} {cols M:Int} {tk:List Spn} (h:Brd w bb cols M tk):bb<w.heap.size:=World.block_lt_of_cell? w ⟨bb,0,none⟩ h.cl
theorem Brd.below {w w':World} {bb:Nat} {cols M:Int} {tk:List Spn} (h:Brd w bb cols M tk) (hb:Below w.heap.size w w'):Brd w' bb cols M tk:=by
 obtain⟨v,h1,h2⟩:=h.tv
 exact⟨by rw [hb.cell (p:=⟨bb,0,none⟩) h.lt];exact h.cl,⟨v,by rw [hb.cell (p:=⟨bb,1,none⟩) h.lt];exact h1,h2.below hb⟩,h.ok,h.hM,h.hc,h.n⟩
structure SSm (cols:Int) (s:Spn):Prop where
 c0:0≤s.c
 c1:s.c≤128
 r0:0≤s.r
 r1:s.r≤70000000
 cs:1≤s.cs
 cs1:s.cs≤cols
 rs:1≤s.rs
 rs1:s.rs≤4096
theorem hit_drop {tk:List Spn} {k:Nat} {s t:Spn} (h:tk[k]?=some t):hitS (tk.drop k) s=if ovl s t=true then some t else hitS (tk.drop (k+1)) s:=by
 obtain⟨h1,rfl⟩:=List.getElem?_eq_some_iff.1 h
 unfold hitS
 rw [List.drop_eq_getElem_cons h1,List.find?_cons]
 cases ovl s tk[k]<;>simp
set_option maxRecDepth 100000 in
set_option maxHeartbeats 8000000 in
theorem hit_any (w:World) (bb:Nat) (cols M:Int) (tk:List Spn) (h:Brd w bb cols M tk) (s:Spn) (hs:SSm cols s) :
  Calls Tryz.prog 176 #[.pointer (some ⟨bb,0,none⟩),s.val] w (VBel (.tuple #[((hitS tk s).getD default).val,.bool (hitS tk s).isSome]) w):=by
 obtain⟨v,hv1,p,c,rfl,hl,hx⟩:=h.tv
 have HX:=zH hx
 have HB:=zH h
 have hbl:=h.lt
 have hM:=h.hM
 have hn:=h.n
 have hc:=h.hc
 clear hx h
 obtain⟨R,hR⟩:∃ R,hitS tk s=R:=⟨_,rfl⟩
 rw [hR]
 have HR:=zH hR
 clear hR
 obtain⟨sc,sr,scs,srs⟩:=s
 obtain⟨s1,s2,s3,s4,s5,s6,s7,s8⟩:=hs
 dsimp only at s1 s2 s3 s4 s5 s6 s7 s8
 unfold Spn.val
 go_enter Tryz.func176,Tryz.ntmps176
 go_wp2
 go_loopw [13] (fun i wr=>∃ k:Nat,i=.int .i64 k∧k≤tk.length∧Below w.heap.size w wr∧OneS wr w.heap.size ⟨sc,sr,scs,srs⟩∧OneS wr (w.heap.size+1) ⟨0,0,0,0⟩∧hitS (tk.drop k) ⟨sc,sr,scs,srs⟩=R) (fun i _=>tk.length - (intOf i).toNat)
 case atStart=>
  refine⟨0,rfl,by omega,by(repeat (first|exact Below.refl _ _|assumption|refine below_drewN ?_ _|refine Below.drew ?_|(refine Below.alloc ?_ ?bs _;(case bs=>first|omega|(simp;done)|(simp;omega)))|(refine Below.setCell ?_ ?bs _;(case bs=>first|omega|(simp;done)|(simp;omega))))),(OneS.made w sc sr scs srs).alloc _,?_,HR.out⟩
  have:=OneS.made (w.alloc (.cells #[.int .i64 sc,.int .i64 sr,.int .i64 scs,.int .i64 srs] 135)) 0 0 0 0
  simpa using this
 case round=>
  obtain⟨k,rfl,hk,hb,ho,hz,hh⟩:=hrel
  have HO:=zH ho
  have HZ:=zH hz
  have HG:=zH hb
  have HH:=zH hh
  have l1:=ho.lt
  have l2:=hz.lt
  obtain⟨a1,a2,a3,a4⟩:=ho.at
  dsimp only at a1 a2 a3 a4
  clear ho hz hb hh HR
  by_cases hlt:k<tk.length
  ·have hltI:(k:Int)<(tk.length:Int):=by omega
   obtain⟨t,ht⟩:∃ t,tk[k]?=some t:=⟨_,List.getElem?_eq_getElem hlt⟩
   obtain⟨g,o,rfl,hg,⟨b1,b2,b3,b4⟩⟩:=HX.out k t ht
   obtain⟨t1,t2,t3,t4,t5,t6,t7⟩:=HB.out.ok t (List.mem_of_getElem? ht)
   have d1:wr.cell? ⟨g,o+k*4,none⟩=some (.int .i64 t.c):=by rw [HG.out.cell (p:=⟨g,o+k*4,none⟩) hg];exact b1
   have d2:wr.cell? ⟨g,o+k*4+1,none⟩=some (.int .i64 t.r):=by rw [HG.out.cell (p:=⟨g,o+k*4+1,none⟩) hg];exact b2
   have d3:wr.cell? ⟨g,o+k*4+2,none⟩=some (.int .i64 t.cs):=by rw [HG.out.cell (p:=⟨g,o+k*4+2,none⟩) hg];exact b3
   have d4:wr.cell? ⟨g,o+k*4+3,none⟩=some (.int .i64 t.rs):=by rw [HG.out.cell (p:=⟨g,o+k*4+3,none⟩) hg];exact b4
   have hgw:g<wr.heap.size:=Nat.lt_of_lt_of_le hg HG.out.size
   have hd:=hit_drop (s:=⟨sc,sr,scs,srs⟩) ht
   rw [HH.out] at hd
   have HD:=zH hd
   clear hd ht b1 b2 b3 b4 hv1
   obtain⟨tc,tr,tcs,trs⟩:=t
   dsimp only at d1 d2 d3 d4 t1 t2 t3 t4 t5 t6 t7
   obtain⟨b0,hb0⟩:∃ b0,ovl ⟨sc,sr,scs,srs⟩ ⟨tc,tr,tcs,trs⟩=b0:=⟨_,rfl⟩
   have HB0:=zH hb0
   rw [hb0] at HD
   clear hb0
   have HA1:Hid (∀ v,OneS (wr.alloc v) w.heap.size ⟨sc,sr,scs,srs⟩∧OneS (wr.alloc v) (w.heap.size+1) ⟨0,0,0,0⟩):=zH fun v=>⟨HO.out.alloc v,HZ.out.alloc v⟩
   go_upto_region 4 with (fail)
   go_cut [54] (fun v W'=>v=.bool b0∧W'=wr.alloc (.cells #[.int .i64 tc,.int .i64 tr,.int .i64 tcs,.int .i64 trs] 135))
   case first=>as_aux_lemma=>
    have hb1:=HB0.out
    by_cases u1:tc<sc+scs
    ·by_cases u2:sc<tc+tcs
     ·by_cases u3:tr<sr+srs
      ·by_cases u4:sr<tr+trs
       ·go_wp2_with fail
        go_meet
        exact⟨by rw [← hb1];simp [ovl,u1,u2,u3,u4]<;>(intros;omega),rfl⟩
       ·have u4':decide (sr<tr+trs)=false:=decide_eq_false u4
        go_wp2_with fail
        go_meet
        exact⟨by rw [← hb1];simp [ovl,u1,u2,u3,u4]<;>(intros;omega),rfl⟩
      ·have u3':decide (tr<sr+srs)=false:=decide_eq_false u3
       go_wp2_with fail
       go_meet
       exact⟨by rw [← hb1];simp [ovl,u1,u2,u3]<;>(intros;omega),rfl⟩
     ·have u2':decide (sc<tc+tcs)=false:=decide_eq_false u2
      go_wp2_with fail
      go_meet
      exact⟨by rw [← hb1];simp [ovl,u1,u2]<;>(intros;omega),rfl⟩
    ·have u1':decide (tc<sc+scs)=false:=decide_eq_false u1
     go_wp2_with fail
     go_meet
     exact⟨by rw [← hb1];simp [ovl,u1]<;>(intros;omega),rfl⟩
   case rest=>
   obtain⟨rfl,rfl⟩:=hcut
   obtain⟨z1,z2,z3,z4⟩:=HZ.out.at
   dsimp only at z1 z2 z3 z4
   have y1:=HZ.out.froz 0
   have y2:=HZ.out.froz 1
   have y3:=HZ.out.froz 2
   have y4:=HZ.out.froz 3
   cases b0 with
   |true=>
    have hr:R=some ⟨tc,tr,tcs,trs⟩:=by rw [HD.out];rfl
    subst hr
    clear HD HH
    have HE:=zH ((OneS.put _ HZ.out ⟨tc,tr,tcs,trs⟩).alloc (.cells #[.int .i64 tc,.int .i64 tr,.int .i64 tcs,.int .i64 trs] 135))
    go_wp2
    (try simp only [Exit.inBlock,Exit.then])
    refine bodyPost_ret (res_two rfl rfl HE.out) rfl ?_
    exact⟨rfl,by(repeat (first|exact Below.refl _ _|assumption|refine below_drewN ?_ _|refine Below.drew ?_|(refine Below.alloc ?_ ?bs _;(case bs=>first|omega|(simp;done)|(simp;omega)))|(refine Below.setCell ?_ ?bs _;(case bs=>first|omega|(simp;done)|(simp;omega)))))⟩
   |false=>
    have HD1:Hid (hitS (tk.drop (k+1)) ⟨sc,sr,scs,srs⟩=R):=zH (by rw [HD.out];rfl)
    clear HD HH
    go_wp2
    go_roundw
    case rel=>exact⟨k+1,by first|rfl|go_num,by omega,by(repeat (first|exact Below.refl _ _|assumption|refine below_drewN ?_ _|refine Below.drew ?_|(refine Below.alloc ?_ ?bs _;(case bs=>first|omega|(simp;done)|(simp;omega)))|(refine Below.setCell ?_ ?bs _;(case bs=>first|omega|(simp;done)|(simp;omega))))),(HA1.out _).1,(HA1.out _).2,HD1.out⟩
    case measure=>simp [intOf]<;>omega
  ·have hltI:decide ((k:Int)<(tk.length:Int))=false:=decide_eq_false (by omega)
   obtain rfl:k=tk.length:=by omega
   have hr:R=none:=by rw [← HH.out,List.drop_length];rfl
   subst hr
   obtain⟨z1,z2,z3,z4⟩:=HZ.out.at
   dsimp only at z1 z2 z3 z4
   have y1:=HZ.out.froz 0
   have y2:=HZ.out.froz 1
   have y3:=HZ.out.froz 2
   have y4:=HZ.out.froz 3
   clear HH
   have HE:=zH (OneS.put _ HZ.out ⟨0,0,0,0⟩)
   go_wp2
   (try simp only [Exit.inBlock,Exit.then])
   refine bodyPost_ret (res_two rfl rfl HE.out) rfl ?_
   exact⟨rfl,by(repeat (first|exact Below.refl _ _|assumption|refine below_drewN ?_ _|refine Below.drew ?_|(refine Below.alloc ?_ ?bs _;(case bs=>first|omega|(simp;done)|(simp;omega)))|(refine Below.setCell ?_ ?bs _;(case bs=>first|omega|(simp;done)|(simp;omega)))))⟩
end Go.Proofs.YtlenbcmgjancmaaGreatDoor
namespace Go.Proofs.YtlenbcmgjancmaaGreatDoor
open Go.RowKit
def cellI (w:World) (b o:Nat):Int:=match w.cell? ⟨b,o,none⟩ with
 |some (.int _ x)=>x
 |_=>0
theorem cellI_eq {w:World} {b o:Nat} {x:Int} (h:w.cell? ⟨b,o,none⟩=some (.int .i64 x)):cellI w b o=x:=by unfold cellI;rw [h]
theorem OneS.to {W:World} {b:Nat} {s s':Spn} (h:OneS W b s) (e:s=s'):OneS W b s':=e ▸ h
theorem OneS.two (W:World) (a b c d:Int):OneS ((W.alloc (.cells #[.int .i64 a,.int .i64 b,.int .i64 c,.int .i64 d] 135)).alloc (.cells #[.int .i64 0,.int .i64 0,.int .i64 0,.int .i64 0] 135)) (W.heap.size+1) ⟨0,0,0,0⟩:=by
 have:=OneS.made (W.alloc (.cells #[.int .i64 a,.int .i64 b,.int .i64 c,.int .i64 d] 135)) 0 0 0 0
 simpa using this
set_option maxRecDepth 100000 in
set_option maxHeartbeats 8000000 in
theorem across_any (w:World) (bb:Nat) (cols M:Int) (tk:List Spn) (h:Brd w bb cols M tk) (s:Spn) (h1:1≤s.cs∧s.cs≤cols) (h2:0≤s.r∧s.r≤70000000) (h3:1≤s.rs∧s.rs≤4096) :
  Calls Tryz.prog 159 #[.pointer (some ⟨bb,0,none⟩),s.val] w (VBel ((acrossF cols tk fuelG { s with c:=0 }).val) w):=by
 have HB:=zH h
 have hbl:=h.lt
 have hM:=h.hM
 have hn:=h.n
 have hc:=h.hc
 clear h
 obtain⟨sc,sr,scs,srs⟩:=s
 dsimp only at h1 h2 h3
 obtain⟨R,hR⟩:∃ R,acrossF cols tk fuelG { (⟨sc,sr,scs,srs⟩:Spn) with c:=0 }=R:=⟨_,rfl⟩
 rw [hR]
 have HR:=zH hR
 have HF:Hid ((fuelG:Int)=200000000):=zH rfl
 clear hR
 unfold Spn.val
 go_enter Tryz.func159,Tryz.ntmps159
 go_wp2
 go_loopw [] (fun wr=>∃ (x:Int) (f:Nat),0≤x∧x≤64∧cols<x+f∧Below w.heap.size w wr∧OneS wr w.heap.size ⟨x,sr,scs,srs⟩∧OneS wr (w.heap.size+1) ⟨0,0,0,0⟩∧acrossF cols tk f ⟨x,sr,scs,srs⟩=R) (fun wr=>(65 - cellI wr w.heap.size 0).toNat)
 case atStart=>
  refine⟨0,fuelG,by omega,by omega,by rw [HF.out];omega,by(repeat (first|exact Below.refl _ _|assumption|refine below_drewN ?_ _|refine Below.drew ?_|(refine Below.alloc ?_ ?bs _;(case bs=>first|omega|(simp;done)|(simp;omega)))|(refine Below.setCell ?_ ?bs _;(case bs=>first|omega|(simp;done)|(simp;omega))))),?_,?_,HR.out⟩
  ·exact((OneS.made w 0 sr scs srs).alloc _)
  ·have:=OneS.two w 0 sr scs srs
   exact this
 case round=>
  obtain⟨x,f,hx0,hx1,hf,hb,ho,hz,hh⟩:=hrel
  have HO:=zH ho
  have HZ:=zH hz
  have HG:=zH hb
  have HH:=zH hh
  have l1:=ho.lt
  have l2:=hz.lt
  obtain⟨a1,a2,a3,a4⟩:=ho.at
  dsimp only at a1 a2 a3 a4
  have a0:wr.cell? ⟨bb,0,none⟩=some (.int .i64 cols):=by rw [hb.cell (p:=⟨bb,0,none⟩) hbl];exact HB.out.cl
  have l3:bb<wr.heap.size:=Nat.lt_of_lt_of_le hbl hb.size
  have hcell:=cellI_eq a1
  have y1:=HZ.out.froz 0
  have y2:=HZ.out.froz 1
  have y3:=HZ.out.froz 2
  have y4:=HZ.out.froz 3
  have y5:=HO.out.froz 0
  obtain⟨z1,z2,z3,z4⟩:=HZ.out.at
  dsimp only at z1 z2 z3 z4
  clear ho hz hb hh HR HF
  by_cases hin:x+scs≤cols
  ·have hinD:decide (x+scs≤cols)=true:=decide_eq_true hin
   have hit:=fun n=>hit_any _ bb cols M tk (HB.out.below (below_drewN HG.out n)) ⟨x,sr,scs,srs⟩ ⟨hx0,by dsimp only;omega,h2.1,h2.2,h1.1,h1.2,h3.1,h3.2⟩
   cases hH:hitS tk ⟨x,sr,scs,srs⟩ with
   |none=>
    rw [hH] at hit
    have HIT:Hid (∀ n,Calls Tryz.prog 176 #[.pointer (some ⟨bb,0,none⟩),.agg #[.int .i64 x,.int .i64 sr,.int .i64 scs,.int .i64 srs]] (wr.drewN n) (VBel (.tuple #[.agg #[.int .i64 0,.int .i64 0,.int .i64 0,.int .i64 0],.bool false]) (wr.drewN n))):=zH hit
    have hr:R=⟨x,sr,scs,srs⟩:=by rw [← HH.out];exact across_free hin hH (by intro e;subst e;simp at hf;omega)
    subst hr
    clear HH hH hit
    go_wp2
    go_quiet (fail)
    go_wp2_with (go_at_call 176;((with_reducible refine(HIT.out _).mono ?_);rintro e1' w2 ⟨rfl,hb2⟩;have HG2:Hid (Below w.heap.size w w2):=zH (Below.trans (below_drewN HG.out _) (hb2.mono HG.out.size));have HO2:=zH (Arr.below (W:=wr.drewN _) HO.out hb2);have HZ2:=zH (Arr.below (W:=wr.drewN _) HZ.out hb2);have i5:=HO2.out.froz 0;have j5:=HZ2.out.froz 0;have j6:=HZ2.out.froz 1;have j7:=HZ2.out.froz 2;have j8:=HZ2.out.froz 3;have i9:=HO2.out.lt;have j9:=HZ2.out.lt;obtain⟨i1,i2,i3,i4⟩:=OneS.at HO2.out;obtain⟨j1,j2,j3,j4⟩:=OneS.at HZ2.out;dsimp only at i1 i2 i3 i4 j1 j2 j3 j4;clear hb2))
    (try simp only [Exit.inBlock,Exit.then])
    refine bodyPost_ret (res_one rfl rfl ((OneS.put _ HZ2.out ⟨x,sr,scs,srs⟩).alloc _)) rfl ?_
    exact⟨rfl,by have hb2:=HG2.out;(repeat (first|exact Below.refl _ _|assumption|refine below_drewN ?_ _|refine Below.drew ?_|(refine Below.alloc ?_ ?bs _;(case bs=>first|omega|(simp;done)|(simp;omega)))|(refine Below.setCell ?_ ?bs _;(case bs=>first|omega|(simp;done)|(simp;omega)))))⟩
   |some t=>
    obtain⟨tc,tr,tcs,trs⟩:=t
    rw [hH] at hit
    have HIT:Hid (∀ n,Calls Tryz.prog 176 #[.pointer (some ⟨bb,0,none⟩),.agg #[.int .i64 x,.int .i64 sr,.int .i64 scs,.int .i64 srs]] (wr.drewN n) (VBel (.tuple #[.agg #[.int .i64 tc,.int .i64 tr,.int .i64 tcs,.int .i64 trs],.bool true]) (wr.drewN n))):=zH hit
    obtain⟨htk,hov⟩:=hit_some hH
    have hov:=ovl_true.1 hov
    have hto:=HB.out.ok _ htk
    obtain⟨t1,t2,t3,t4,t5,t6,t7⟩:=hto
    dsimp only at hov t1 t2 t3 t4 t5 t6 t7
    obtain⟨f,rfl⟩:∃ f',f=f'+1:=⟨f - 1,by omega⟩
    have HH3:Hid (acrossF cols tk f ⟨tc+tcs,sr,scs,srs⟩=R):=zH (by rw [← HH.out,across_hit hin hH])
    have hxx:x<tc+tcs:=hov.2.1
    clear HH hH hit htk hov
    go_wp2
    go_quiet (fail)
    go_wp2_with (go_at_call 176;((with_reducible refine(HIT.out _).mono ?_);rintro e1' w2 ⟨rfl,hb2⟩;have HG2:Hid (Below w.heap.size w w2):=zH (Below.trans (below_drewN HG.out _) (hb2.mono HG.out.size));have HO2:=zH (Arr.below (W:=wr.drewN _) HO.out hb2);have HZ2:=zH (Arr.below (W:=wr.drewN _) HZ.out hb2);have i5:=HO2.out.froz 0;have j5:=HZ2.out.froz 0;have j6:=HZ2.out.froz 1;have j7:=HZ2.out.froz 2;have j8:=HZ2.out.froz 3;have i9:=HO2.out.lt;have j9:=HZ2.out.lt;obtain⟨i1,i2,i3,i4⟩:=OneS.at HO2.out;obtain⟨j1,j2,j3,j4⟩:=OneS.at HZ2.out;dsimp only at i1 i2 i3 i4 j1 j2 j3 j4;clear hb2))
    have HO3:Hid (OneS _ w.heap.size ⟨tc+tcs,sr,scs,srs⟩):=zH (Arr.set HO2.out 0 (.int .i64 (tc+tcs)))
    have HZ3:=zH (Arr.other HZ2.out (b':=w.heap.size) (by omega) 0 (.int .i64 (tc+tcs)))
    go_roundw
    case rel=>exact⟨tc+tcs,f,by omega,by omega,by push_cast at hf;omega,by have hb2:=HG2.out;(repeat (first|exact Below.refl _ _|assumption|refine below_drewN ?_ _|refine Below.drew ?_|(refine Below.alloc ?_ ?bs _;(case bs=>first|omega|(simp;done)|(simp;omega)))|(refine Below.setCell ?_ ?bs _;(case bs=>first|omega|(simp;done)|(simp;omega))))),HO3.out.alloc _,HZ3.out.alloc _,HH3.out⟩
    case measure=>
     have e:=(Arr.alloc HO3.out (.cells #[.int .i64 tc,.int .i64 tr,.int .i64 tcs,.int .i64 trs] 135)).cell (j:=0) (v:=.int .i64 (tc+tcs)) rfl
     rw [hcell,cellI_eq e]
     omega
  ·have hinD:decide (x+scs≤cols)=false:=decide_eq_false hin
   have hr:R=⟨0,sr,scs,srs⟩:=by rw [← HH.out];exact across_out (by dsimp only;omega)
   subst hr
   clear HH
   go_wp2
   go_quiet (fail)
   go_wp2
   (try simp only [Exit.inBlock,Exit.then])
   refine bodyPost_ret (res_one rfl rfl (OneS.put _ (Arr.other (W:=wr.drewN nq) HZ.out (b':=w.heap.size) (by omega) 0 (.int .i64 0)) ⟨0,sr,scs,srs⟩)) rfl ?_
   exact⟨rfl,by(repeat (first|exact Below.refl _ _|assumption|refine below_drewN ?_ _|refine Below.drew ?_|(refine Below.alloc ?_ ?bs _;(case bs=>first|omega|(simp;done)|(simp;omega)))|(refine Below.setCell ?_ ?bs _;(case bs=>first|omega|(simp;done)|(simp;omega)))))⟩
end Go.Proofs.YtlenbcmgjancmaaGreatDoor
