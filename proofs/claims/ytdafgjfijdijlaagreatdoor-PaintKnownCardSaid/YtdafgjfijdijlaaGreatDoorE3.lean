/- Part of an abstract machine that runs the program's code in Lean's kernel, and of the proof that what it answers every run of the model answers (Go.Eng; program-independent). No condition. -/
import Derived.Test.YtdafgjfijdijlaaGreatDoorE2
import Derived.Orders
namespace Go.Eng
open Go
noncomputable section

inductive Ex where
  | normal
  | exit (id : Nat)
  | ret

/-- The state of a frame: its slots, how many, the blocks of its deferred calls, the round that it is. -/
structure Fm where
  t : T Value
  n : Nat
  ds : List Nat
  rd : Option Nat

inductive Task where
  | code (c : Code) (F : Fm) (A : AS)
  | call (f : FuncId) (args : List Value) (A : AS)
  | yield (l : Nat) (args : List Value) (A : AS)

inductive Out where
  | code (e : Ex) (F : Fm) (A : AS)
  | val (v : Value) (A : AS)
  | none

def putSome (t : T Value) (d : Nat) (v : Value) : Bool → Option (T Value)
  | true => some (t.set d v)
  | false => none
def putT (t : T Value) (n : Nat) (dst : Option Tmp) (v : Value) : Option (T Value) := match dst with
  | none => some t
  | some d => putSome t d v (Nat.blt d n)

def isBool (w : Bool) : Option Value → Option Bool
  | some (.bool b) => some (b == w)
  | some _ => some false
  | none => none
def wantedA (ops : Array Oper) (o : Oper) : T Value → Option Bool := match o.guard with
  | none => fun _ => some true
  | some (j, w) => (match (ops[j]?).bind (·.dst) with
    | some d => fun t => isBool w (t.get d)
    | none => fun _ => none)

structure Kn where
  kn : FuncId → List Value → Option Value
  ne : FuncId
  mz : FuncId
  u8 : TypeId
  km : FuncId → List Value → AS → Option (Value × AS) := fun _ _ _ => none

/-- What comes of an operation: its value. -/
def valOf : Out → Option (Value × AS)
  | .val v A => some (v, A)
  | _ => none
def afterOp (ih : Task → Out) : Res → Option (Value × AS)
  | some (.value v, A') => some (v, A')
  | some (.enter f args, A') => valOf (ih (.call f args A'))
  | some (.yield l args, A') => valOf (ih (.yield l args A'))
  | none => none
def opVal (P : Program) (ih : Task → Out) (o : Oper) (t : T Value) (A : AS) : Option (Value × AS) := afterOp ih (aOp P o t A)

def putThen (rec_ : T Value → AS → Option (T Value × AS)) (A : AS) : Option (T Value) → Option (T Value × AS)
  | some t => rec_ t A
  | none => none
def valThen (n : Nat) (t : T Value) (dst : Option Tmp) (rec_ : T Value → AS → Option (T Value × AS)) : Option (Value × AS) → Option (T Value × AS)
  | some (v, A) => putThen rec_ A (putT t n dst v)
  | none => none
def opThen (P : Program) (ih : Task → Out) (n : Nat) (o : Oper) (rec_ : T Value → AS → Option (T Value × AS)) (t : T Value) (A : AS) : Option Bool → Option (T Value × AS)
  | some true => valThen n t o.dst rec_ (opVal P ih o t A)
  | some false => putThen rec_ A (putT t n o.dst undef)
  | none => none
def runOps (P : Program) (ih : Task → Out) (ops : Array Oper) (n : Nat) (l : List Oper) : T Value → AS → Option (T Value × AS) :=
  List.rec (motive := fun _ => T Value → AS → Option (T Value × AS)) (fun t A => some (t, A))
    (fun o _ rec_ t A => opThen P ih n o rec_ t A (wantedA ops o t)) l
--def runOps (P : Program) (ih : Task → Out) (ops : Array Oper) (n : Nat) : List Oper → T Value → AS → Option (T Value × AS)
--  | [], t, A => some (t, A)
--  | o :: l, t, A => opThen P ih n o (runOps P ih ops n l) t A (wantedA ops o t)

/-! Drawn regions. -/
def isSliceD : Option TypeDesc → Bool
  | some (.slice _) => true
  | _ => false
/-- Acts an operation on memory that others may see? -/
def actsOn (P : Program) (o : Oper) : Bool := match o.op with
  | .call c => (match c.callee with
    | .builtin b => (match b with | .len | .cap | .max | .min | .unsafeSliceData => false | _ => true)
    | _ => true)
  | .store .. | .mapUpdate .. => true
  | .convert _ dst _ => isSliceD (P.underlying dst)
  | _ => false
/-- Makes it memory of its own? -/
def makesMem (o : Oper) : Bool := match o.op with
  | .alloc _ | .box .. | .buildSlice .. | .makeSlice .. => true
  | .makeMap _ none => true
  | _ => false

def tb (m i : Nat) : Bool := Nat.beq (Nat.land (Nat.shiftRight m i) 1) 1

/-- What is known of an operation of a drawn region: what it looks at, what comes ahead of it. -/
structure RI where
  o : Oper
  i : Nat
  bef : Nat
  looks : List Tmp

/-- Who writes each slot. -/
def writers : List Oper → Nat → T Nat → Option (T Nat)
  | [], _, W => some W
  | o :: l, i, W => match o.dst with
    | none => writers l (i + 1) W
    | some d => bif Nat.blt d (2 ^ 60) then (match W.get d with
      | some _ => none
      | none => writers l (i + 1) (W.set d i)) else none
def getN (B : T Nat) (i : Nat) : Nat := match B.get i with | some m => m | none => 0
def befOf (B : T Nat) : List Edge → Nat → Nat
  | [], m => m
  | e :: l, m => bif Region.binds .any e then befOf B l (Nat.lor (Nat.lor m (Nat.shiftLeft 1 e.on)) (getN B e.on)) else befOf B l m
def befs : List Oper → Nat → T Nat → T Nat
  | [], _, B => B
  | o :: l, i, B => befs l (i + 1) (B.set i (befOf B o.after.toList 0))
/-- Is each slot that is looked at written ahead, or behind, or by none? -/
def lookOk (W B : T Nat) (bef i : Nat) : List Tmp → Bool
  | [] => true
  | t :: l => (match W.get t with
    | none => true
    | some j => tb bef j || Nat.beq j i || tb (getN B j) i) && lookOk W B bef i l
def infos (ops : Array Oper) (W B : T Nat) : List Oper → Nat → Option (List RI)
  | [], _ => some []
  | o :: l, i => bif lookOk W B (getN B i) i (o.looksAt ops) then
      (match infos ops W B l (i + 1) with
      | some r => some (⟨o, i, getN B i, o.looksAt ops⟩ :: r)
      | none => none) else none
/-- An order of them: whatever does not act comes as soon as it may. -/
def subMask (m done : Nat) : Bool := Nat.beq (Nat.land m done) m
/-- One pass: what may come now and does not act comes (in its order); the rest waits. -/
def takeReady (act : Oper → Bool) : List RI → Nat → List RI × List RI × Nat
  | [], done => ([], [], done)
  | r :: l, done =>
    bif !act r.o && subMask r.bef done then (match takeReady act l (Nat.lor done (Nat.shiftLeft 1 r.i)) with | (a, b, d) => (r :: a, b, d))
    else (match takeReady act l done with | (a, b, d) => (a, r :: b, d))
def takeAct (act : Oper → Bool) : List RI → Nat → Option (RI × List RI)
  | [], _ => none
  | r :: l, done => bif act r.o && subMask r.bef done then some (r, l) else (match takeAct act l done with | some (x, m) => some (x, r :: m) | none => none)
def greedy (act : Oper → Bool) : Nat → List RI → Nat → List RI
  | 0, l, _ => l
  | f + 1, l, done => match takeReady act l done with
    | ([], rest, d) => (match takeAct act rest d with
      | some (x, m) => x :: greedy act f m (Nat.lor d (Nat.shiftLeft 1 x.i))
      | none => rest)
    | (a, rest, d) => a ++ greedy act f rest d
def regInfo (P : Program) (ops : Array Oper) : Option (T Nat × List RI) :=
  match writers ops.toList 0 .leaf with
  | some W => (match infos ops W (befs ops.toList 0 .leaf) ops.toList 0 with
    | some l => some (befs ops.toList 0 .leaf, greedy (actsOn P) (2 * ops.size + 2) l 0)
    | none => none)
  | none => none

/-- Only the slots that are looked at. -/
def restrictTo (t : T Value) : List Tmp → T Value
  | [] => .leaf
  | x :: l => (match t.get x with
    | some v => (restrictTo t l).set x v
    | none => restrictTo t l)

structure Dr where
  t : T Value
  A : AS
  done : Nat          -- the operations so far
  gaps : List AS      -- the states ahead of the acts, the last first
  acts : List Nat     -- the acts, the last first
  mks : List Nat      -- the operations that made memory and that no act waited for so far
  looks : List (RI × T Value × Value)

def actAfter (acts : List Nat) (bef : Nat) : Bool := match acts with
  | j :: _ => tb bef j
  | [] => true
/-- Blocks put aside. -/
def hide (n0 : Nat) : List Nat → AS → Option (AS × List (Nat × AObj))
  | [], A => some (A, [])
  | i :: l, A => match A.h.get (n0 + i) with
    | some o => (match hide n0 l (A.kill (n0 + i)) with
      | some (A', s) => some (A', (n0 + i, o) :: s)
      | none => none)
    | none => none
def unhide : List (Nat × AObj) → AS → AS
  | [], A => A
  | x :: l, A => (unhide l A).put x.1 x.2
def putDr (D : Dr) (n : Nat) (dst : Option Tmp) (v : Value) (f : T Value → Dr) : Option Dr := match putT D.t n dst v with
  | some t => some (f t)
  | none => none
def bit (D : Dr) (r : RI) : Nat := Nat.lor D.done (Nat.shiftLeft 1 r.i)
def drawAct (P : Program) (ih : Task → Out) (n n0 : Nat) (r : RI) (tr : T Value) (D : Dr) : Option Dr :=
  bif actAfter D.acts r.bef then
    (match hide n0 (D.mks.filter (fun i => !tb r.bef i)) D.A with
    | some (A1, saved) => (match opVal P ih r.o tr A1 with
      | some (v, A') => putDr D n r.o.dst v fun t => ⟨t, unhide saved A', bit D r, D.A :: D.gaps, r.i :: D.acts, D.mks.filter (fun i => !tb r.bef i), D.looks⟩
      | none => none)
    | none => none)
  else none
def drawMake (P : Program) (n n0 : Nat) (r : RI) (tr : T Value) (D : Dr) : Option Dr :=
  bif actAfter D.acts r.bef then
    (match aOp P r.o tr ⟨D.A.h, n0 + r.i, D.A.lo⟩ with
    | some (.value v, A') => (match A'.h.get (n0 + r.i) with
      | some ob => putDr D n r.o.dst v fun t => ⟨t, D.A.put (n0 + r.i) ob, bit D r, D.gaps, D.acts, r.i :: D.mks, D.looks⟩
      | none => none)
    | _ => none)
  else none
def drawLook (P : Program) (n : Nat) (r : RI) (tr : T Value) (D : Dr) : Option Dr :=
  match aOp P r.o tr D.A with
  | some (.value v, _) => putDr D n r.o.dst v fun t => ⟨t, D.A, bit D r, D.gaps, D.acts, D.mks, (r, tr, v) :: D.looks⟩
  | _ => none
def drawWant (P : Program) (ih : Task → Out) (n n0 : Nat) (r : RI) (tr : T Value) (D : Dr) : Option Bool → Option Dr
  | some false => putDr D n r.o.dst undef fun t => ⟨t, D.A, bit D r, D.gaps, D.acts, D.mks, D.looks⟩
  | some true => bif actsOn P r.o then drawAct P ih n n0 r tr D else bif makesMem r.o then drawMake P n n0 r tr D else drawLook P n r tr D
  | none => none
def drawStep (P : Program) (ih : Task → Out) (ops : Array Oper) (n n0 : Nat) (r : RI) (D : Dr) : Option Dr :=
  bif subMask r.bef D.done && !tb D.done r.i then
    drawWant P ih n n0 r (restrictTo D.t r.looks) D (wantedA ops r.o (restrictTo D.t r.looks))
  else none
def drawAll (P : Program) (ih : Task → Out) (ops : Array Oper) (n n0 : Nat) : List RI → Dr → Option Dr
  | [], D => some D
  | r :: l, D => match drawStep P ih ops n n0 r D with
    | some D' => drawAll P ih ops n n0 l D'
    | none => none

/-- The same value at each gap that is open to it: gaps and acts run from the last to the first. -/
def sameHere (P : Program) (tr : T Value) (o : Oper) (v : Value) (A : AS) : Bool := match aOp P o tr A with
  | some (.value u, _) => beqV u v
  | _ => false
def sameAt (P : Program) (tr : T Value) (B : T Nat) (r : RI) (v : Value) : List AS → List Nat → Bool
  | A :: gaps, acts =>
    (acts.any (fun j => tb (getN B j) r.i) || sameHere P tr r.o v A) &&
    (match acts with
    | j :: acts' => tb r.bef j || sameAt P tr B r v gaps acts'
    | [] => true)
  | [], _ => true

def runDraw (P : Program) (ih : Task → Out) (ops : Array Oper) (n : Nat) (t : T Value) (A : AS) : Option (T Value × AS) :=
  match regInfo P ops with
  | some (B, rs) =>
    (match drawAll P ih ops n A.nx rs ⟨t, ⟨A.h, A.nx + ops.size, A.lo⟩, 0, [], [], [], []⟩ with
    | some D => bif Nat.ble ops.size 4096 && Nat.beq (Nat.add D.done 1) (Nat.shiftLeft 1 ops.size) && D.looks.all (fun x => sameAt P x.2.1 B x.1 x.2.2 (D.A :: D.gaps) D.acts) then some (D.t, D.A) else none
    | none => none)
  | none => none

def setArgs (n : Nat) : T Value → List Tmp → List Value → Option (T Value)
  | t, [], [] => some t
  | t, p :: ps, v :: vs => bif Nat.blt p n then setArgs n (t.set p v) ps vs else none
  | _, _, _ => none

def aResults (P : Program) (F : Fm) (A : AS) : List ResultVar → Option (List Value)
  | [] => some []
  | .tmp t :: l => (match F.t.get t, aResults P F A l with | some v, some vs => some (v :: vs) | _, _ => none)
  | .cell a ty :: l => (match F.t.get a with
    | some p => (match aLoad P ty p A, aResults P F A l with | some v, some vs => some (v :: vs) | _, _ => none)
    | none => none)

def closeAll : List Nat → AS → Option AS
  | [], A => some A
  | d :: l, A => match A.h.get d with
    | some (.deferred true) => bif Nat.ble A.lo d then closeAll l (A.put d (.deferred false)) else none
    | _ => none

abbrev Ih := Task → Out
abbrev CodeStep := Ih → Fm → AS → Out
def regDone (F : Fm) : Option (T Value × AS) → Out
  | some (t, A) => .code .normal ⟨t, F.n, F.ds, F.rd⟩ A
  | none => .none
def regThen (ih : Ih) (b : Code) (F : Fm) : Option (T Value × AS) → Out
  | some (t, A) => ih (.code b ⟨t, F.n, F.ds, F.rd⟩ A)
  | none => .none
def runReg (P : Program) (ops : Array Oper) (draw : Bool) : Ih → Fm → AS → Option (T Value × AS) := match draw with
  | true => fun ih F A => runDraw P ih ops F.n F.t A
  | false => fun ih F A => runOps P ih ops F.n ops.toList F.t A
def seqThen (ih : Ih) (b : Code) : Out → Out
  | .code .normal F A => ih (.code b F A)
  | r => r
def condThen (ih : Ih) (a b : Code) (F : Fm) (A : AS) : Option Value → Out
  | some (.bool true) => ih (.code a F A)
  | some (.bool false) => ih (.code b F A)
  | _ => .none
def blockThen (id : Nat) : Out → Out
  | .code (.exit j) F A => bif Nat.beq j id then .code .normal F A else .code (.exit j) F A
  | r => r
def cSeq (P : Program) (a b : Code) : CodeStep := match a with
  | .region _ ops draw => fun ih F A => regThen ih b F (runReg P ops draw ih F A)
  | a => fun ih F A => seqThen ih b (ih (.code a F A))
def ranged (ih : Ih) (F : Fm) (D L : Nat) : Out → Out
  | .val _ A3 => (match A3.h.get L with
    | some (.loop st pending tm n ps as_ b_ d_) =>
      (match st with
      | .busy => .none
      | _ => (match pending with
        | none => .code .normal ⟨F.t, F.n, D :: F.ds, F.rd⟩ (A3.put L (.loop .exhausted none tm n ps as_ b_ d_))
        | some c => ih (.code c ⟨F.t, F.n, D :: F.ds, F.rd⟩ (A3.put L (.loop .exhausted (some c) tm n ps as_ b_ d_)))))
    | _ => .none)
  | _ => .none
def cRange (P : Program) (f : Operand) (params : Array Tmp) (assign body : Code) (ih : Ih) (F : Fm) (A : AS) : Out :=
  match F.rd, aEval P f F.t with
  | none, some (.func (.func g) first cap) =>
    ranged ih F A.nx (A.nx + 1) (ih (.call g (first.toList ++ [.func (.yield (A.nx + 1)) #[] #[]] ++ cap.toList)
      ((A.new (.deferred true)).new (.loop .ready none F.t F.n params.toList assign body A.nx))))
  | _, _ => .none
def codeStep (P : Program) (c : Code) : CodeStep := match c with
  | .skip => fun _ F A => .code .normal F A
  | .label _ => fun _ F A => .code .normal F A
  | .region _ ops draw => fun ih F A => regDone F (runReg P ops draw ih F A)
  | .seq a b => cSeq P a b
  | .cond c a b => fun ih F A => condThen ih a b F A (aEval P c F.t)
  | .block id b => fun ih F A => blockThen id (ih (.code b F A))
  | .loop b => fun ih F A => seqThen ih (.loop b) (ih (.code b F A))
  | .scope b => fun ih F A => ih (.code b F A)
  | .exit id => fun _ F A => .code (.exit id) F A
  | .ret => fun _ F A => .code .ret F A
  | .rangeFunc f params assign body => cRange P f params assign body
  | _ => fun _ _ _ => .none
def roundEnd (l : Nat) : Out → Out
  | .code e _ A2 => (match A2.h.get l with
    | some (.loop _ _ tm2 n2 ps2 as2 bo2 d2) => (match e with
      | .normal => .val (.bool true) (A2.put l (.loop .ready none tm2 n2 ps2 as2 bo2 d2))
      | .ret => .val (.bool false) (A2.put l (.loop .done (some .ret) tm2 n2 ps2 as2 bo2 d2))
      | .exit id => .val (.bool false) (A2.put l (.loop .done (some (.exit id)) tm2 n2 ps2 as2 bo2 d2)))
    | _ => .none)
  | _ => .none
def roundBody (ih : Ih) (l : Nat) (body : Code) : Out → Out
  | .code .normal F A1 => (match A1.h.get l with
    | some (.loop .ready pe1 tm1 n1 ps1 as1 bo1 d1) => roundEnd l (ih (.code body F (A1.put l (.loop .busy pe1 tm1 n1 ps1 as1 bo1 d1))))
    | _ => .none)
  | _ => .none
def yieldStep (ih : Ih) (l : Nat) (args : List Value) (A : AS) : Out := bif Nat.ble A.lo l then (match A.h.get l with
  | some (.loop .ready _ tm n ps assign body _) => (match setArgs n tm ps args with
    | some t => roundBody ih l body (ih (.code assign ⟨t, n, [], some l⟩ A))
    | none => .none)
  | _ => .none) else .none
def resVal (A : AS) : Option (List Value) → Out
  | some [v] => .val v A
  | some vs => .val (.tuple ⟨vs⟩) A
  | none => .none
def callEnd (P : Program) (rs : List ResultVar) (F : Fm) : Option AS → Out
  | some A2 => resVal A2 (aResults P F A2 rs)
  | none => .none
def callDone (P : Program) (rs : List ResultVar) : Out → Out
  | .code (.exit _) _ _ => .none
  | .code _ F A1 => callEnd P rs F (closeAll F.ds A1)
  | _ => .none
def extCall (P : Program) (kn : Kn) (f : FuncId) (args : List Value) (A : AS) : Out :=
  bif Nat.beq f kn.mz then (match args with
    | [.int .i64 (.ofNat n)] => bif Nat.ble n (2 ^ 40) then .val (.slice (some ⟨A.nx, 0, none⟩) n n) (A.new (.cells .leaf n [] 1 kn.u8 (0, 0))) else .none
    | _ => .none)
  else bif Nat.beq f kn.ne then (match args with | [x] => .val x A | _ => .none)
  else bif closedVs args then (match pureRun P (callFunc f ⟨args⟩) with
    | some (.value v) => bif closedV v then .val v A else .none
    | _ => .none) else .none
/-- A function of the program. -/
def fnStep (P : Program) (kn : Kn) (f : FuncId) : Ih → List Value → AS → Out := match P.funcs[f]? with
  | some fn => (match fn.body with
    | some c => (match fn.name == "runtime.NumGoroutine" with
      | false => fun ih args A => callDone P fn.results.toList (ih (.code c ⟨T.setAll .leaf 0 args, args.length + (fn.ntmps - args.length), [], none⟩ A))
      | true => fun _ _ _ => .none)
    | none => fun _ args A => extCall P kn f args A)
  | none => fun _ _ _ => .none
def kmStep (P : Program) (kn : Kn) (f : FuncId) (ih : Ih) (args : List Value) (A : AS) : Option (Value × AS) → Out
  | some (v, A1) => .val v A1
  | none => fnStep P kn f ih args A
def callStep (P : Program) (kn : Kn) (f : FuncId) (ih : Ih) (args : List Value) (A : AS) : Option Value → Out
  | some v => .val v A
  | none => kmStep P kn f ih args A (kn.km f args A)
def step (P : Program) (kn : Kn) (ih : Ih) : Task → Out
  | .code c F A => codeStep P c ih F A
  | .yield l args A => yieldStep ih l args A
  | .call f args A => callStep P kn f ih args A (kn.kn f args)

def ev (P : Program) (kn : Kn) (n : Nat) : Task → Out :=
  Nat.rec (motive := fun _ => Task → Out) (fun _ => .none) (fun _ ih => step P kn ih) n
--def ev (P : Program) (kn : Kn) : Nat → Task → Out
--  | 0, _ => .none
--  | n + 1, k => step P kn (ev P kn n) k

end
end Go.Eng
