import Derived.KernelRfl
set_option linter.unusedVariables false
set_option linter.unusedSimpArgs false
namespace Go.Proofs.YtlenbcmgjancmaaGreatDoor
/-! ## bytes and characters -/
def leadS (b:Nat):Nat × Nat × Nat :=
 if b<128 then (1,0,0) else if 194≤b∧b≤223 then (2,128,191) else if b=224 then (3,160,191) else if b=237 then (3,128,159)
 else if 225≤b∧b≤239 then (3,128,191) else if b=240 then (4,144,191) else if 241≤b∧b≤243 then (4,128,191) else if b=244 then (4,128,143) else (0,0,0)
def maskS (n:Nat):Nat:=if n=2 then 32 else if n=3 then 16 else 8
def contS:Nat→Nat→Nat→Nat→Nat→List UInt8→Nat × Nat × Bool
 | 0,i,_,_,r,_=>(r,i,false)
 |_+1,i,_,_,_,[]=>(65533,i,true)
 |k+1,i,lo,hi,r,c :: cs=>if c.toNat<lo∨hi<c.toNat then (65533,i,false) else contS k (i+1) 128 191 (r*64+c.toNat % 64) cs
def firstS:List UInt8→Nat × Nat × Bool
 | []=>(0,0,false)
 |b :: cs=>
  let l:=leadS b.toNat
  if l.1=0 then (65533,1,false) else if l.1=1 then (b.toNat,1,false) else contS (l.1 - 1) 1 l.2.1 l.2.2 (b.toNat % maskS l.1) cs
theorem contS_size (k i lo hi r:Nat) (l:List UInt8):i≤(contS k i lo hi r l).2.1∧(contS k i lo hi r l).2.1≤i+l.length∧(contS k i lo hi r l).2.1≤i+k:=by
 induction k generalizing i lo hi r l with
 |zero=>simp [contS]
 |succ k ih=>
  cases l with
  |nil=>simp [contS]
  |cons c cs=>
   simp only [contS]
   split
   ·simp
   ·have:=ih (i+1) 128 191 (r*64+c.toNat % 64) cs
    simp only [List.length_cons]
    omega
theorem firstS_size (b:UInt8) (l:List UInt8):1≤(firstS (b :: l)).2.1∧(firstS (b :: l)).2.1≤(b :: l).length∧(firstS (b :: l)).2.1≤4:=by
 have h4:(leadS b.toNat).1≤4:=by
  unfold leadS
  repeat' split
  all_goals simp
 simp only [firstS]
 split
 ·simp
 ·split
  ·simp
  ·have:=contS_size ((leadS b.toNat).1 - 1) 1 (leadS b.toNat).2.1 (leadS b.toNat).2.2 (b.toNat % maskS (leadS b.toNat).1) l
   simp only [List.length_cons]
   omega
def runesS (l:List UInt8):List Nat:=match l with
 | []=>[]
 |b :: cs=>(firstS (b :: cs)).1 :: runesS ((b :: cs).drop (firstS (b :: cs)).2.1)
termination_by l.length
decreasing_by have:=firstS_size b cs;simp only [List.length_drop,List.length_cons] at *;omega
def putS (r0:Int):List Nat :=
 let r:=if r0<0∨(55296≤r0∧r0≤57343)∨1114111<r0 then 65533 else r0.toNat
 if r<128 then [r] else if r<2048 then [192+r / 64,128+r % 64] else if r<65536 then [224+r / 4096,128+r / 64 % 64,128+r % 64]
 else [240+r / 262144,128+r / 4096 % 64,128+r / 64 % 64,128+r % 64]
/-! ## classes -/
def tabC:Nat→List (Nat × Nat)
 | 0=>[(0xd800,0xdfff)]
 | 1=>[(0,0x1f),(0x7f,0x9f)]
 | 2=>[(0x300,0x36f),(0x483,0x489),(0x591,0x5bd),(0x610,0x61a),(0x64b,0x65f),(0x6d6,0x6dc),(0x900,0x902),(0x93c,0x93c),(0x941,0x948),(0xe34,0xe3a),(0xe47,0xe4e),(0x1ab0,0x1ace),(0x1dc0,0x1dff),(0x200b,0x200c),(0x200e,0x200f),(0x202a,0x202e),(0x2060,0x2064),(0x20d0,0x20f0),(0xfe20,0xfe2f),(0xfeff,0xfeff),(0xe0020,0xe007f),(0xe0100,0xe01ef)]
 | 3=>[(0x200d,0x200d)]
 | 4=>[(0xfe00,0xfe0f)]
 | 5=>[(0x1f3fb,0x1f3ff)]
 | 6=>[(0x1f1e6,0x1f1ff)]
 | 7=>[(0x1100,0x115f),(0x231a,0x231b),(0x23e9,0x23ec),(0x25fd,0x25fe),(0x2614,0x2615),(0x2648,0x2653),(0x26a1,0x26a1),(0x26aa,0x26ab),(0x26bd,0x26be),(0x26d4,0x26d4),(0x26f2,0x26f5),(0x2705,0x2705),(0x270a,0x270b),(0x2728,0x2728),(0x274c,0x274c),(0x2753,0x2757),(0x2795,0x2797),(0x2e80,0x303e),(0x3041,0x4dbf),(0x4e00,0xa4cf),(0xa960,0xa97c),(0xac00,0xd7a3),(0xf900,0xfaff),(0xfe30,0xfe6f),(0xff01,0xff60),(0xffe0,0xffe6),(0x1f300,0x1f3fa),(0x1f400,0x1f64f),(0x1f680,0x1f6ff),(0x1f900,0x1f9ff),(0x20000,0x2fffd),(0x30000,0x3fffd)]
 | 8=>[(0xa9,0xa9),(0xae,0xae),(0x203c,0x203c),(0x2049,0x2049),(0x2122,0x2122),(0x2190,0x21ff),(0x2300,0x2319),(0x231c,0x23e8),(0x23ed,0x23ff),(0x2600,0x2613),(0x2616,0x2647),(0x2654,0x26a0),(0x26a2,0x26a9),(0x26ac,0x26bc),(0x26bf,0x26d3),(0x26d5,0x26f1),(0x26f6,0x2704),(0x2706,0x2709),(0x270c,0x2727),(0x2729,0x274b),(0x274d,0x2752),(0x2758,0x2794),(0x2798,0x27bf)]
 |_=>[]
def sortedT:List (Nat × Nat)→Bool
 | []=>true
 | [p]=>decide (p.1≤p.2)
 |p :: q :: r=>decide (p.1≤p.2) && decide (p.2<q.1) && sortedT (q :: r)
def withinS (t:List (Nat × Nat)) (r:Nat):Bool:=t.any fun p=>decide (p.1≤r) && decide (r≤p.2)
def kindFrom (r:Nat):Nat→Nat→Nat
 | 0,c=>c
 |k+1,c=>if withinS (tabC c) r then c else kindFrom r k (c+1)
def kindS (r:Int):Nat:=if r<0∨1114111<r then 0 else kindFrom r.toNat 9 0
def ofS (r:Int):Nat:=let k:=kindS r;if k=1∨k=2∨k=3∨k=4 then 0 else if k=7∨k=5 then 2 else 1
theorem sortedT_tail {p:Nat × Nat} {t:List (Nat × Nat)} (h:sortedT (p :: t)=true):p.1≤p.2∧sortedT t=true∧∀ q ∈ t,p.2<q.1:=by
 induction t generalizing p with
 |nil=>exact⟨by simpa [sortedT] using h,rfl,by simp⟩
 |cons q r ih=>
  simp only [sortedT,Bool.and_eq_true,decide_eq_true_eq] at h
  obtain⟨⟨h1,h2⟩,h3⟩:=h
  obtain⟨k1,k2,k3⟩:=ih h3
  refine⟨h1,h3,fun x hx=>?_⟩
  rcases List.mem_cons.1 hx with rfl|hx
  ·exact h2
  ·have:=k3 x hx;omega
theorem sortedT_le {t:List (Nat × Nat)} (h:sortedT t=true):∀ q ∈ t,q.1≤q.2:=by
 induction t with
 |nil=>simp
 |cons p t ih=>
  obtain⟨a,b,_⟩:=sortedT_tail h
  intro q hq
  rcases List.mem_cons.1 hq with rfl|hq
  ·exact a
  ·exact ih b q hq
theorem sortedT_mono {t:List (Nat × Nat)} (h:sortedT t=true) {i j:Nat} (hij:i≤j) {p q:Nat × Nat} (hp:t[i]?=some p) (hq:t[j]?=some q):p.2≤q.2:=by
 induction t generalizing i j with
 |nil=>simp at hp
 |cons x t ih=>
  obtain⟨a,b,c⟩:=sortedT_tail h
  cases i with
  |zero=>
   simp at hp;subst hp
   cases j with
   |zero=>simp at hq;subst hq;exact Nat.le_refl _
   |succ j=>
    simp at hq
    have hm:=List.mem_of_getElem? hq
    have:=c q hm
    have:=sortedT_le b q hm
    omega
  |succ i=>
   cases j with
   |zero=>omega
   |succ j=>exact ih b (i:=i) (j:=j) (by omega) (by simpa using hp) (by simpa using hq)
theorem within_at {t:List (Nat × Nat)} (hs:sortedT t=true) {r m:Nat} (h1:∀ i p,i<m→t[i]?=some p→p.2<r) (h2:∀ i p,m≤i→t[i]?=some p→r≤p.2) :
  withinS t r=(match t[m]? with|some p=>decide (p.1≤r)|none=>false):=by
 induction t generalizing m with
 |nil=>rfl
 |cons p t ih=>
  obtain⟨a,b,c⟩:=sortedT_tail hs
  cases m with
  |zero=>
   have h0:=h2 0 p (Nat.le_refl _) rfl
   simp only [withinS,List.any_cons,List.getElem?_cons_zero]
   by_cases hp:p.1≤r
   ·simp [hp,h0]
   ·have:t.any (fun p=>decide (p.1≤r) && decide (r≤p.2))=false:=by
     rw [List.any_eq_false]
     intro q hq
     have:=c q hq
     simp
     intro h
     omega
    rw [this]
    simp [hp]
  |succ m=>
   have h0:=h1 0 p (by omega) rfl
   have e:=ih b (m:=m) (fun i q hi hq=>h1 (i+1) q (by omega) (by simpa using hq)) (fun i q hi hq=>h2 (i+1) q (by omega) (by simpa using hq))
   simp only [List.getElem?_cons_succ]
   rw [← e]
   simp only [withinS,List.any_cons]
   rw [show (decide (p.1≤r) && decide (r≤p.2))=false by simp;omega,Bool.false_or]
end Go.Proofs.YtlenbcmgjancmaaGreatDoor
namespace Go.Proofs.YtlenbcmgjancmaaGreatDoor
/-! ## clusters -/
def picS (b:Nat):Bool:=b == 7 || b == 8
def okS (b pk k:Nat):Bool:=k == 2 || k == 4 || k == 3 || (k == 5 && picS b) || ((k == 7 || k == 8) && picS b && pk == 3)
def growS (b:Nat):Nat→Nat→List Nat→Nat
 |_,n,[]=>n
 |pk,n,r :: rs=>if n<16∧okS b pk (kindS r)=true then growS b (kindS r) (n+1) rs else n
def lengthS:List Nat→Nat × Nat
 | []=>(1,0)
 |r :: rs=>
  let b:=kindS r
  if b=1 then (1,0)
  else match rs with
   | []=>(1,ofS r)
   |x :: xs=>
    let flag:=b == 6 && kindS x == 6
    let w:=if flag then 2 else if b == 8 && x == 65039 then 2 else ofS r
    (if flag then growS b 6 2 xs else growS b b 1 rs,w)
theorem growS_le (b pk n:Nat) (l:List Nat):n≤growS b pk n l∧growS b pk n l≤n+l.length:=by
 induction l generalizing pk n with
 |nil=>simp [growS]
 |cons r rs ih=>
  simp only [growS]
  split
  ·have:=ih (kindS r) (n+1);simp only [List.length_cons];omega
  ·simp
theorem lengthS_size (r:Nat) (l:List Nat):1≤(lengthS (r :: l)).1∧(lengthS (r :: l)).1≤(r :: l).length:=by
 simp only [lengthS]
 split
 ·simp
 ·cases l with
  |nil=>simp
  |cons x xs=>
   simp only
   split
   ·have:=growS_le (kindS r) 6 2 xs;simp only [List.length_cons];omega
   ·have:=growS_le (kindS r) (kindS r) 1 (x :: xs);simp only [List.length_cons] at *;omega
def textS (l:List Nat):List Nat:=l.flatMap fun (r:Nat)=>putS (Int.ofNat r)
def clustersS (l:List Nat):List (List Nat × Nat):=match l with
 | []=>[]
 |r :: rs=>(textS ((r :: rs).take (lengthS (r :: rs)).1),(lengthS (r :: rs)).2) :: clustersS ((r :: rs).drop (lengthS (r :: rs)).1)
termination_by l.length
decreasing_by have:=lengthS_size r rs;simp only [List.length_drop,List.length_cons] at *;omega
/-! ## the flow of a text -/
def shownS (r:Nat):Bool:=!(r != 10 && r != 9 && kindS r == 1)
def blankS (r:Nat):Nat:=if r=9 then 32 else r
def flowR (l:List Nat):List Nat:=(l.filter shownS).map blankS
abbrev Cl:=List Nat × Nat
def keptS (c:Cl):Bool:=!(c.2 == 0 && c.1 != [10])
def toBytes (l:List Nat):List UInt8:=l.map fun n=>UInt8.ofNat n
def flowS (s:List UInt8):List Cl:=(clustersS (runesS (toBytes (textS (flowR (runesS s)))))).filter keptS
def wideS (l:List Cl):Nat:=(l.map (·.2)).sum
/-! ## lines -/
def fitS:List Cl→Nat→Nat
 | [],_=>0
 |c :: l,w=>if w<c.2 then 0 else 1+fitS l (w - c.2)
def rowsS:List Cl→List (List Cl)
 | []=>[]
 |c :: l=>if c.1=[10] then [] :: (match rowsS l with|[]=>[[]]|r=>r) else match rowsS l with|[]=>[[c]]|r :: rs=>(c :: r) :: rs
end Go.Proofs.YtlenbcmgjancmaaGreatDoor
namespace Go.Proofs.YtlenbcmgjancmaaGreatDoor
theorem wideS_cons (c:Cl) (l:List Cl):wideS (c :: l)=c.2+wideS l:=by simp [wideS]
theorem wideS_append (a b:List Cl):wideS (a ++ b)=wideS a+wideS b:=by simp [wideS]
theorem fitS_le (l:List Cl) (w:Nat):fitS l w≤l.length:=by
 induction l generalizing w with
 |nil=>simp [fitS]
 |cons c l ih=>
  simp only [fitS]
  split
  ·simp
  ·have:=ih (w - c.2);simp only [List.length_cons];omega
theorem fitS_iff (l:List Cl) (w j:Nat) (hj:j≤l.length):j≤fitS l w↔wideS (l.take j)≤w:=by
 induction l generalizing w j with
 |nil=>simp at hj;subst hj;simp [wideS]
 |cons c l ih=>
  cases j with
  |zero=>simp [wideS]
  |succ j=>
   simp only [fitS,List.take_succ_cons,wideS_cons]
   split
   ·constructor
    ·intro h;omega
    ·intro h;omega
   ·rename_i hw
    have:=ih (w - c.2) j (by simpa using hj)
    constructor
    ·intro h;have:=this.1 (by omega);omega
    ·intro h;have:=this.2 (by omega);omega
def blankC (c:Cl):Bool:=c.1 == [32]
def lastB:List Cl→Nat→Option Nat
 |_,0=>none
 |l,n+1=>if (l[n]?.map blankC).getD false then some n else lastB l n
theorem lastB_some {l:List Cl} {n j:Nat} (h:lastB l n=some j):j<n∧(∃ c,l[j]?=some c∧blankC c=true)∧∀ i,j<i→i<n→∀ c,l[i]?=some c→blankC c=false:=by
 induction n with
 |zero=>simp [lastB] at h
 |succ n ih=>
  simp only [lastB] at h
  split at h
  ·rename_i hb
   obtain rfl:n=j:=Option.some.inj h
   refine⟨by omega,?_,fun i h1 h2=>by omega⟩
   cases hl:l[n]? with
   |none=>rw [hl] at hb;simp at hb
   |some c=>rw [hl] at hb;exact⟨c,rfl,by simpa using hb⟩
  ·rename_i hb
   obtain⟨h1,h2,h3⟩:=ih h
   refine⟨by omega,h2,fun i hi hn c hc=>?_⟩
   rcases Nat.lt_or_ge i n with h'|h'
   ·exact h3 i hi h' c hc
   ·obtain rfl:i=n:=by omega
    rw [hc] at hb;simpa using hb
def advS (word:Bool) (w:Nat) (l:List Cl):Nat :=
 let k:=fitS l w
 if k=0 then 1 else if word then (match lastB l (k+1) with|some j=>j+1|none=>k) else k
theorem advS_pos (word:Bool) (w:Nat) (l:List Cl):1≤advS word w l:=by
 unfold advS
 simp only
 split
 ·omega
 ·split
  ·split<;>omega
  ·omega
def cntR (word:Bool) (w:Nat) (l:List Cl):Nat :=
 if h:wideS l≤w then 1
 else if fitS l w=0∧l.drop 1=[] then 1
 else 1+cntR word w (l.drop (advS word w l))
termination_by l.length
decreasing_by
 have:=advS_pos word w l
 have:l ≠ []:=by rintro rfl;simp [wideS] at h
 have:=List.length_pos_iff.2 this
 simp only [List.length_drop];omega
end Go.Proofs.YtlenbcmgjancmaaGreatDoor
