/- Part of an abstract machine that runs the program's code in Lean's kernel, and of the proof that what it answers every run of the model answers (Go.Eng; program-independent). No condition. -/
import Derived.Test.YtdafgjfijdijlaaGreatDoorE1
namespace Go.Eng
open Go
noncomputable section

mutual
/-- The same value. -/
def beqV : Value → Value → Bool
  | .bool a, .bool b => a == b
  | .int j a, .int k b => decide (j = k) && decide (a = b)
  | .string a, .string b => decide (a = b)
  | .pointer a, .pointer b => decide (a = b)
  | .slice a l c, .slice b m d => decide (a = b) && Nat.beq l m && Nat.beq c d
  | .map a, .map b => decide (a = b)
  | .nilFunc, .nilFunc => true
  | .nilIface, .nilIface => true
  | .func f ⟨a⟩ ⟨b⟩, .func g ⟨c⟩ ⟨d⟩ => decide (f = g) && beqVs a c && beqVs b d
  | .iface s v, .iface t w => Nat.beq s t && beqV v w
  | .agg ⟨l⟩, .agg ⟨m⟩ => beqVs l m
  | .tuple ⟨l⟩, .tuple ⟨m⟩ => beqVs l m
  | _, _ => false
termination_by structural v => v
def beqVs : List Value → List Value → Bool
  | [], [] => true
  | v :: l, w :: m => beqV v w && beqVs l m
  | _, _ => false
termination_by structural l => l
end

inductive AObj where
  | cells (t : T Value) (size : Nat) (z : List Value) (u : Nat) (elem : TypeId) (fz : Nat × Nat)
  | map (es : List MapEntry) (clock : Nat)
  | loop (st : LoopState) (pending : Option Code) (tm : T Value) (n : Nat) (params : List Tmp) (assign body : Code) (defers : Nat)
  | deferred (open_ : Bool)

structure AS where
  h : T AObj
  nx : Nat
  lo : Nat

def AS.put (A : AS) (b : Nat) (o : AObj) : AS := { A with h := A.h.set b o }
def AS.kill (A : AS) (b : Nat) : AS := { A with h := A.h.del b }
def AS.new (A : AS) (o : AObj) : AS := { h := A.h.set A.nx o, nx := A.nx + 1, lo := A.lo }

def nth : List Value → Nat → Option Value
  | [], _ => none
  | v :: l, i => match i with
    | 0 => some v
    | j + 1 => nth l j
def cellF (t : T Value) (z : List Value) (i : Nat) : Option Value :=
  match t.get i with
  | some v => some v
  | none => nth z (Nat.mod i z.length)

def sizeP (P : Program) (t : TypeId) : Option Nat := match P.info? t with | some i => some i.size | none => none
def zeroP (P : Program) (t : TypeId) : Option (List Value) := match P.info? t with
  | some i => (match i.zero with | some v => bif closedV v then some v.cells.toList else none | none => none)
  | none => none
def isAggP (P : Program) (t : TypeId) : Option Bool := match P.underlying t with
  | some (.struct _) => some true
  | some (.array _ _) => some true
  | some _ => some false
  | none => none

def pureRun (P : Program) {α : Type} : Sem α → Option α
  | .pure a => some a
  | .program k => pureRun P (k P)
  | .mark _ k => pureRun P k
  | .choose q k => if q.forced then pureRun P (k 0) else none
  | _ => none

def oneCell (v : Value) : Bool := match v with | .agg _ | .tuple _ => false | _ => true

def aLoad (P : Program) (t : TypeId) (a : Value) (A : AS) : Option Value :=
  match a with
  | .pointer (some ⟨b, off, none⟩) =>
    (match A.h.get b with
    | some (.cells tr size z _ _ _) =>
      (match isAggP P t with
      | some true => (match sizeP P t with
        | some n => bif Nat.ble (off + n) size then (match T.take (cellF tr z) n off with | some l => some (.agg ⟨l⟩) | none => none) else none
        | none => none)
      | some false => bif Nat.blt off size then cellF tr z off else none
      | none => none)
    | _ => none)
  | _ => none

def thawed (fz : Nat × Nat) (off n : Nat) : Bool := Nat.beq fz.2 0 || (Nat.ble fz.2 off && Nat.blt fz.2 (2 ^ 64)) || Nat.ble (off + n) fz.1

/-- Cells written into a block. -/
def aPutCells (b off : Nat) (l : List Value) (A : AS) : Option AS :=
  match A.h.get b with
  | some (.cells tr size z u e fz) =>
    bif Nat.ble A.lo b && Nat.ble (off + l.length) size && thawed fz off l.length && l.all oneCell then
      some (A.put b (.cells (T.setAll tr off l) size z u e fz)) else none
  | _ => none

def aStore (P : Program) (t : TypeId) (a v : Value) (A : AS) : Option AS :=
  match a with
  | .pointer (some ⟨b, off, none⟩) =>
    (match sizeP P t with
    | some n => bif Nat.beq v.cells.size n then aPutCells b off v.cells.toList A else none
    | none => none)
  | _ => none

def shiftA (a : Addr) (n : Nat) : Addr := match n with
  | 0 => a
  | m + 1 => ⟨a.block, a.off + (m + 1), none⟩

def aFieldAddr (P : Program) (s : TypeId) (x : Value) (f : Nat) : Option Value :=
  match P.underlying s, x with
  | some (.struct fields), .pointer (some ⟨b, off, none⟩) =>
    (match fields[f]? with
    | some fl => (match sizeP P fl.type with
      | some (_ + 1) => some (.pointer (some (shiftA ⟨b, off, none⟩ fl.offset)))
      | _ => none)
    | none => none)
  | _, _ => none

def intOf : Value → Option Int
  | .int _ n => some n
  | _ => none

def aIndexAddr (P : Program) (t : TypeId) (x ix : Value) : Option Value :=
  match intOf ix, P.underlying t, x with
  | some (.ofNat i), some (.array len elem), .pointer (some ⟨b, off, none⟩) =>
    bif Nat.blt i len then (match sizeP P elem with | some n => some (.pointer (some (shiftA ⟨b, off, none⟩ (i * n)))) | none => none) else none
  | some (.ofNat i), some (.slice elem), .slice (some ⟨b, off, none⟩) len _ =>
    bif Nat.blt i len then (match sizeP P elem with | some n => some (.pointer (some (shiftA ⟨b, off, none⟩ (i * n)))) | none => none) else none
  | _, _, _ => none

def spliceL : List Value → Nat → List Value → List Value
  | l, 0, [] => l
  | [], _, _ => []
  | _ :: l, 0, v :: vs => v :: spliceL l 0 vs
  | x :: l, n + 1, vs => x :: spliceL l n vs

def aFill (place : Nat → Option (Nat × Nat)) : List Value → List (Nat × Value) → Option (List Value)
  | cells, [] => some cells
  | cells, (i, v) :: rest => match place i with
    | none => none
    | some (off, size) => bif Nat.beq v.cells.size size && Nat.ble (off + size) cells.length then aFill place (spliceL cells off v.cells.toList) rest else none

def fieldSizes (P : Program) : List Field → Option (List (Nat × Nat))
  | [] => some []
  | f :: l => match sizeP P f.type with
    | some n => (match fieldSizes P l with | some r => some ((f.offset, n) :: r) | none => none)
    | none => none
def aBuild (P : Program) (t : TypeId) (parts : List (Nat × Value)) : Option Value :=
  match zeroP P t, P.underlying t with
  | some z, some (.struct fields) => (match fieldSizes P fields.toList with
    | some pl => (match aFill (fun i => pl[i]?) z parts with
      | some l => some (.agg ⟨l⟩) | none => none)
    | none => none)
  | some z, some (.array _ elem) => (match sizeP P elem with
    | some n => (match aFill (fun i => some (i * n, n)) z parts with | some l => some (.agg ⟨l⟩) | none => none)
    | none => none)
  | _, _ => none

def aParts (size total : Nat) : T Value → List (Nat × Value) → Option (T Value)
  | t, [] => some t
  | t, (i, v) :: rest => bif Nat.beq v.cells.size size && Nat.ble (i * size + size) total then aParts size total (T.setAll t (i * size) v.cells.toList) rest else none

/-- An operand's value. -/
def constV (v : Value) : Option Value := bif closedV v then some v else none
def globV (P : Program) (g : Nat) : Option Value := bif Nat.blt g P.globals.size then some (.pointer (some ⟨g, 0, none⟩)) else none
def aEval (P : Program) : Operand → T Value → Option Value
  | .tmp i => fun t => t.get i
  | .const v => fun _ => constV v
  | .global g => fun _ => globV P g
  | .func f => fun _ => some (.func (.func f) #[] #[])

def evals (P : Program) (t : T Value) : List Operand → Option (List Value)
  | [] => some []
  | x :: l => match aEval P x t with
    | some v => (match evals P t l with | some vs => some (v :: vs) | none => none)
    | none => none
def evalParts (P : Program) (t : T Value) : List (Nat × Operand) → Option (List (Nat × Value))
  | [] => some []
  | (i, x) :: l => match aEval P x t with
    | some v => (match evalParts P t l with | some vs => some ((i, v) :: vs) | none => none)
    | none => none

/-- The cells that a slice or a string gives. -/
def aCells (size n : Nat) (x : Value) (A : AS) : Option (List Value) :=
  match x with
  | .slice none _ _ => bif Nat.beq n 0 then some [] else none
  | .slice (some ⟨b, off, none⟩) _ _ => (match A.h.get b with
    | some (.cells tr sz z _ _ _) => bif Nat.ble (off + n * size) sz then T.take (cellF tr z) (n * size) off else none
    | _ => none)
  | .string s => bif Nat.beq size 1 && Nat.ble n s.size then some ((s.data.toList.take n).map fun b => .int .u8 b.toNat) else none
  | _ => none
def aLen : Value → Option Nat
  | .slice _ n _ => some n
  | .string s => some s.size
  | _ => none

/-- May a slice of so many elements grow there? -/
def growOk (inf : TypeInfo) (z : List Value) (need : Nat) : Bool :=
  Nat.beq z.length inf.size && Nat.ble inf.bytes (2 ^ 30) && Nat.ble (need * inf.bytes) (2 ^ 40) && Nat.ble need (2 ^ 40) && Nat.ble (need * inf.size) (2 ^ 60)

def appendNil (A : AS) (elem : TypeId) (inf : TypeInfo) (z : List Value) (n : Nat) (new : List Value) : Option (Value × AS) :=
  match n with
  | 0 => some (.slice none 0 0, A)
  | _ + 1 => bif growOk inf z n && new.all oneCell then
      some (.slice (some ⟨A.nx, 0, none⟩) n n, A.new (.cells (T.setAll .leaf 0 new) (n * inf.size) [] inf.size elem (0, 0))) else none
def appendIn (A : AS) (b off sLen sCap n size : Nat) (new : List Value) : Option (Value × AS) :=
  match aPutCells b (off + sLen * size) new A with
  | some A' => some (.slice (some ⟨b, off, none⟩) (sLen + n) sCap, A')
  | none => none
def appendNew (A : AS) (elem : TypeId) (inf : TypeInfo) (z : List Value) (b off sLen sCap n : Nat) (new : List Value) : Option (Value × AS) :=
  match aCells inf.size sLen (.slice (some ⟨b, off, none⟩) sLen sCap) A, A.h.get b with
  | some old, some (.cells _ _ _ u ty fz) =>
    bif Nat.beq ty elem && Nat.beq u inf.size && Nat.ble A.lo b && growOk inf z (sLen + n) && Nat.ble fz.2 (off + sLen * inf.size) && Nat.ble (off + sLen * inf.size) (2 ^ 60) && new.all oneCell && Nat.ble sLen sCap then
      some (.slice (some ⟨A.nx, 0, none⟩) (sLen + n) (sLen + n), (A.kill b).new (.cells (T.setAll .leaf 0 (old ++ new)) ((sLen + n) * inf.size) [] inf.size elem (bif Nat.beq fz.2 0 then (0, 0) else (0, sLen * inf.size + 1))))
    else none
  | _, _ => none
def appendTo (A : AS) (elem : TypeId) (inf : TypeInfo) (z : List Value) (b off sLen sCap n : Nat) (new : List Value) : Option (Value × AS) :=
  match n with
  | 0 => bif Nat.ble sLen sCap then some (.slice (some ⟨b, off, none⟩) sLen sCap, A) else none
  | _ + 1 => bif Nat.ble (sLen + n) sCap then appendIn A b off sLen sCap n inf.size new else appendNew A elem inf z b off sLen sCap n new
def notInt : TypeDesc → Bool
  | .int _ => false
  | _ => true
def aAppend (P : Program) (argTypes : List TypeId) (args : List Value) (A : AS) : Option (Value × AS) :=
  match argTypes, args with
  | sType :: xType :: _, [.slice base sLen sCap, x] =>
    (match P.underlying sType, P.underlying xType, aLen x with
    | some (.slice elem), some xd, some n =>
      bif notInt xd then
      (match P.info? elem, zeroP P elem with
      | some inf, some z =>
        (match aCells inf.size n x A, base with
        | some new, none => bif Nat.beq sLen 0 && Nat.beq sCap 0 then appendNil A elem inf z n new else none
        | some new, some ⟨b, off, none⟩ => appendTo A elem inf z b off sLen sCap n new
        | _, _ => none)
      | _, _ => none) else none
    | _, _, _ => none)
  | _, _ => none

/-! Fast ways for numbers. -/
def kNo : IntKind → Nat
  | .i8 => 0 | .i16 => 1 | .i32 => 2 | .i64 => 3 | .u8 => 4 | .u16 => 5 | .u32 => 6 | .u64 => 7
def kTop : IntKind → Nat
  | .i8 => 128 | .i16 => 32768 | .i32 => 2147483648 | .i64 => 9223372036854775808 | .u8 => 256 | .u16 => 65536 | .u32 => 4294967296 | .u64 => 18446744073709551616
def kEq (a b : IntKind) : Bool := Nat.beq (kNo a) (kNo b)
def fastWrap (k : IntKind) (n : Int) : Int := match n with
  | .ofNat m => bif Nat.blt m (kTop k) then .ofNat m else k.wrap n
  | .negSucc m => bif Nat.blt (kNo k) 4 && Nat.blt m (kTop k) then .negSucc m else k.wrap n
def addI : Int → Int → Int
  | .ofNat a, .ofNat b => .ofNat (Nat.add a b)
  | a, b => a + b
def subI : Int → Int → Int
  | .ofNat a, .ofNat b => bif Nat.ble b a then .ofNat (Nat.sub a b) else .negSucc (Nat.sub (Nat.sub b a) 1)
  | a, b => a - b
def mulI : Int → Int → Int
  | .ofNat a, .ofNat b => .ofNat (Nat.mul a b)
  | a, b => a * b
def eqI : Int → Int → Bool
  | .ofNat a, .ofNat b => Nat.beq a b
  | .negSucc a, .negSucc b => Nat.beq a b
  | _, _ => false
def ltI : Int → Int → Bool
  | .ofNat a, .ofNat b => Nat.blt a b
  | .negSucc a, .negSucc b => Nat.blt b a
  | .negSucc _, .ofNat _ => true
  | .ofNat _, .negSucc _ => false
def fastBin0 (op : BinOp) (u v : Value) : Option Value := match u with
  | .int k a => (match v with
    | .int k' b => bif kEq k k' then (match op with
      | .add => some (.int k (fastWrap k (addI a b)))
      | .sub => some (.int k (fastWrap k (subI a b)))
      | .mul => some (.int k (fastWrap k (mulI a b)))
      | .eql => some (.bool (eqI a b))
      | .neq => some (.bool (!(eqI a b)))
      | .lss => some (.bool (ltI a b))
      | .leq => some (.bool (!(ltI b a)))
      | .gtr => some (.bool (ltI b a))
      | .geq => some (.bool (!(ltI a b)))
      | _ => none) else none
    | _ => none)
  | _ => none

/-- A shift to the right by few. -/
def fastShr (u v : Value) : Option Value := match u, v with
  | .int k (.ofNat x), .int _ (.ofNat m) => bif Nat.ble m 7 then some (.int k (.ofNat (Nat.div x (Nat.pow 2 m)))) else none
  | _, _ => none
def fastBin (op : BinOp) (u v : Value) : Option Value := match op with
  | .shr => fastShr u v
  | _ => fastBin0 op u v

def natOf : Value → Option Nat
  | .int _ (.ofNat n) => some n
  | _ => none

/-- Slices. -/
def aSlice (P : Program) (t : TypeId) (x : Value) (lo hi mx : Option Value) (A : AS) : Option Value :=
  match P.underlying t, x with
  | some (.array n elem), .pointer (some ⟨b, off, none⟩) => (match pureRun P (Instr.sliceBounds false n n lo hi mx), sizeP P elem with
    | some (l, h, m), some sz => some (.slice (some (bif Nat.beq m l then ⟨b, off, none⟩ else shiftA ⟨b, off, none⟩ (l * sz))) (h - l) (m - l))
    | _, _ => none)
  | some (.slice elem), .slice (some ⟨b, off, none⟩) len cap => (match pureRun P (Instr.sliceBounds true len cap lo hi mx), sizeP P elem, A.h.get b with
    | some (l, h, m), some sz, some (.cells _ _ _ u _ _) => bif Nat.beq u sz then
        some (.slice (some (bif Nat.beq m l then ⟨b, off, none⟩ else shiftA ⟨b, off, none⟩ (l * sz))) (h - l) (m - l)) else none
    | _, _, _ => none)
  | _, _ => none

/-- Where a key stands among entries. -/
def aFindAsking (P : Program) (kt : TypeId) (k : Value) : List MapEntry → Nat → Option (Option (Nat × Value))
  | [], _ => some none
  | e :: es, i => match pureRun P (Op.equal kt k e.key) with
    | some true => some (some (i, e.val))
    | some false => aFindAsking P kt k es (i + 1)
    | none => none
def aFind (P : Program) (kt : TypeId) (k : Value) (es : List MapEntry) : Option (Option (Nat × Value)) :=
  match P.underlying kt with
  | some d => (match Instr.findNow d k es 0 with
    | some r => some r
    | none => aFindAsking P kt k es 0)
  | none => none
def aEntries (x : Value) (A : AS) : Option (List MapEntry × Nat) := match x with
  | .map none => some ([], 0)
  | .map (some r) => (match A.h.get r with | some (.map es c) => some (es, c) | _ => none)
  | _ => none

def setEntry (v k : Value) : List MapEntry → Nat → List MapEntry
  | [], _ => []
  | e :: es, 0 => { e with val := v, key := k } :: es
  | e :: es, i + 1 => e :: setEntry v k es i

inductive ANext where
  | value (v : Value)
  | enter (f : FuncId) (args : List Value)
  | yield (l : Nat) (args : List Value)


abbrev Res := Option (ANext × AS)
/-- A new block of cells. -/
def newC (A : AS) (v : Value) (tr : T Value) (size : Nat) (z : List Value) (u : Nat) (e : TypeId) (fz : Nat × Nat) : Res :=
  bif Nat.ble size (2 ^ 60) then some (.value v, A.new (.cells tr size z u e fz)) else none
/-- An operation on closed operands that asks no memory. -/
def allClosed (P : Program) (t : T Value) : List Operand → Bool
  | [] => true
  | x :: l => (match aEval P x t with | some v => closedV v | none => false) && allClosed P t l
def aPure (P : Program) (o : Oper) (t : T Value) (A : AS) : Option (ANext × AS) :=
  bif allClosed P t o.op.operands.toList then
    (match pureRun P (execOp (fun x => (aEval P x t).getD undef) o) with
    | some (.value v) => bif closedV v then some (.value v, A) else none
    | _ => none)
  else none

def bytesOf : List Value → Option (List Int)
  | [] => some []
  | .int .u8 n :: l => (match bytesOf l with | some r => some (n :: r) | none => none)
  | _ :: _ => none
/-- What may be frozen, when some more cells are. -/
def hullFz (fz : Nat × Nat) (off n : Nat) : Nat × Nat := bif Nat.beq fz.2 0 then (off, off + n) else (0, bif Nat.ble (off + n) fz.2 then fz.2 else off + n)
def runesOf : List Value → Option (List Int)
  | [] => some []
  | .int .i32 n :: l => (match runesOf l with | some r => some (n :: r) | none => none)
  | _ :: _ => none
def strOfRunes (l : List Int) : ByteArray := ⟨⟨l.flatMap fun n => (Utf8.encode n).data.toList⟩⟩
def strOf (l : List Int) : ByteArray := ⟨⟨l.map fun n => UInt8.ofNat n.toNat⟩⟩

/-- What '==' says of nil. -/
def eqNilT (d : TypeDesc) (x y : Value) : Option Bool := match d, x, y with
  | .pointer _, .pointer (some _), .pointer none | .pointer _, .pointer none, .pointer (some _) => some false
  | .interface _, .nilIface, .iface _ _ | .interface _, .iface _ _, .nilIface => some false
  | .slice _, .slice (some _) _ _, .slice none _ _ | .slice _, .slice none _ _, .slice (some _) _ _ => some false
  | .map _ _, .map (some _), .map none | .map _ _, .map none, .map (some _) => some false
  | .func _ _ _, .nilFunc, .func _ _ _ | .func _ _ _, .func _ _ _, .nilFunc => some false
  | _, _, _ => none
/-- What '==' says of nil, and of two places. -/
def aEqPtr (P : Program) (t : TypeId) (A : AS) (x y : Value) : Option Bool :=
  match x, y, P.underlying t with
  | .pointer (some ⟨b, o, none⟩), .pointer (some ⟨b', o', none⟩), some (.pointer e) => (match sizeP P e with
    | some (_ + 1) => bif Nat.beq b b' then some (Nat.beq o o') else
      (match A.h.get b, A.h.get b' with
      | some (.cells _ _ _ _ _ (_, 0)), some (.cells _ _ _ _ _ (_, 0)) => some false
      | _, _ => none)
    | _ => none)
  | _, _, _ => none
def aEqNil (P : Program) (t : TypeId) (A : AS) (x y : Value) : Option Bool :=
  match P.underlying t with
  | some d => (match eqNilT d x y with
    | some b => some b
    | none => (match d, x, y with
      | .interface _, .iface s v, .iface s' v' => bif Nat.beq s s' then (match P.info? s with
          | some inf => bif inf.comparable then aEqPtr P s A v v' else none
          | none => none) else some false
      | _, _, _ => aEqPtr P t A x y))
  | none => none

def aBuiltin (P : Program) (b : Builtin) (argTypes : List TypeId) (args : List Value) (A : AS) : Option (ANext × AS) :=
  match b with
  | .append => (match aAppend P argTypes args A with | some (v, A') => some (.value v, A') | none => none)
  | .len => (match argTypes, args with
    | t :: _, [x] => (match P.underlying t, x with
      | some (.slice _), .slice _ n _ => some (.value (goInt n), A)
      | some (.map _ _), .map (some r) => (match A.h.get r with | some (.map es _) => some (.value (goInt es.length), A) | _ => none)
      | some (.pointer arr), _ => (match P.underlying arr with | some (.array n _) => some (.value (goInt n), A) | _ => none)
      | _, _ => none)
    | _, _ => none)
  | .copy => (match argTypes, args with
    | t :: _, [.slice base dLen _, src] => (match P.underlying t, aLen src with
      | some (.slice elem), some m => (match sizeP P elem with
        | some sz => (match aCells sz (Nat.min m dLen) src A, base with
          | some new, some ⟨b, off, none⟩ => (match aPutCells b off new A with | some A' => some (.value (goInt (Nat.min m dLen)), A') | none => none)
          | some _, none => some (.value (goInt (Nat.min m dLen)), A)
          | _, _ => none)
        | none => none)
      | _, _ => none)
    | _, _ => none)
  | .unsafeString => (match argTypes, args with
    | pt :: _, [.pointer (some ⟨b, off, none⟩), ln] => (match A.h.get b, natOf ln, P.underlying pt with
      | some (.cells tr size z u e fz), some (n + 1), some (.pointer el) =>
        bif Nat.beq (P.cellsOf e) 1 && sameLayout P P.depth e el && Nat.ble (n + 1) (2 ^ 40) && Nat.ble (off + (n + 1)) size && Nat.ble A.lo b then
        (match T.take (cellF tr z) (n + 1) off with
        | some l => (match bytesOf l with
          | some bs => some (.value (.string (strOf bs)), A.put b (.cells tr size z u e (hullFz fz off (n + 1))))
          | none => none)
        | none => none) else none
      | _, _, _ => none)
    | _, _ => none)
  | .cap => (match argTypes, args with
    | t :: _, [.slice none _ c] => (match P.underlying t with | some (.slice _) => some (.value (goInt c), A) | _ => none)
    | _, _ => none)
  | .unsafeSliceData => (match args with
    | [.slice (some a) _ (c + 1)] => some (.value (.pointer (some a)), A)
    | _ => none)
  | _ => none

def fastBuiltin (P : Program) (b : Builtin) (argTypes : List TypeId) (args : List Value) : Option Value := match b with
  | .len => (match argTypes, args with
    | t :: _, [.slice _ n _] => (match P.underlying t with | some (.slice _) => some (.int .i64 (.ofNat n)) | _ => none)
    | t :: _, [.string s] => (match P.underlying t with | some .string => some (.int .i64 (.ofNat s.size)) | _ => none)
    | _, _ => none)
  | .max => (match args with
    | [.int k a, .int k' b] => bif kEq k k' then some (.int k (bif ltI a b then b else a)) else none
    | _ => none)
  | .min => (match args with
    | [.int k a, .int k' b] => bif kEq k k' then some (.int k (bif ltI b a then b else a)) else none
    | _ => none)
  | _ => none

def methodP (P : Program) (t : TypeId) (v : Value) (name : String) : Option (FuncId × Value) :=
  match P.info? t with
  | some inf => (match inf.methods.find? (·.name == name) with
    | some m => bif m.path.isEmpty then (match m.func, P.underlying t with
      | some (f, true), some (.pointer _) => some (f, v)
      | some (_, _), some (.pointer _) => none
      | some (f, false), some _ => some (f, v)
      | _, _ => none) else none
    | none => none)
  | none => none

def aTarget (P : Program) (f : Value) (args : List Value) (A : AS) : Option (ANext × AS) :=
  match f with
  | .func (.func g) first cap => some (.enter g (first.toList ++ args ++ cap.toList), A)
  | .func (.yield l) first _ => some (.yield l (first.toList ++ args), A)
  | .func (.method name) first _ => (match first.toList ++ args with
    | .iface t v :: rest => (match methodP P t v name with | some (g, r) => some (.enter g (r :: rest), A) | none => none)
    | _ => none)
  | _ => none

def aConvert (P : Program) (src dst : TypeId) (x : Value) (A : AS) : Option (ANext × AS) :=
  match P.underlying src, P.underlying dst, x with
  | some (.slice e), some .string, .slice (some a) len c => (match P.underlying e, aCells 1 len (.slice (some a) len c) A with
    | some (.int .u8), some l => (match bytesOf l with
      | some bs => some (.value (.string (strOf bs)), A)
      | none => none)
    | some (.int .i32), some l => (match runesOf l with
      | some ns => some (.value (.string (strOfRunes ns)), A)
      | none => none)
    | _, _ => none)
  | some (.slice _), some (.slice e), .slice (some ⟨b, off, none⟩) len c => (match P.underlying e, A.h.get b with
    | some (.int .u8), some (.cells tr size z u el fz) => bif Nat.beq src dst && Nat.ble A.lo b then
        some (.value (.slice (some ⟨b, off, none⟩) len c), A.put b (.cells tr size z u el (bif Nat.beq fz.2 0 then size else 0, 2 ^ 64))) else none
    | _, _ => none)
  | some .string, some (.slice e), .string s => (match P.underlying e with
    | some (.int .u8) => newC A (.slice (some ⟨A.nx, 0, none⟩) s.size s.size) (T.setAll .leaf 0 (s.data.toList.map fun b => .int .u8 b.toNat)) s.size [] 1 e (s.size, 2 ^ 64)
    | _ => none)
  | some (.pointer t), some .unsafePointer, .pointer (some ⟨b, off, none⟩) => (match A.h.get b, sizeP P t with
    | some (.cells _ size _ _ _ _), some (_ + 1) => bif Nat.blt off size then some (.value x, A) else none
    | _, _ => none)
  | some .unsafePointer, some (.pointer u), .pointer (some ⟨b, off, none⟩) => (match A.h.get b, sizeP P u with
    | some (.cells _ size (_ :: _) _ e _), some (_ + 1) => bif liesAt P P.depth e (size / P.cellsOf e) off u 1 then some (.value x, A) else none
    | _, _ => none)
  | _, _, _ => none

/-! The operations, one by one: each by itself, so that the kernel copies little. -/
def okA (A : AS) (v : Option Value) : Res := match v with
  | some v => some (.value v, A)
  | none => none
def xMove (P : Program) (x : Operand) (t : T Value) (A : AS) : Res := okA A (aEval P x t)
def pickV (c : Option Value) (a b : Option Value) (A : AS) : Res := match c with
  | some (.bool x) => (match a, b with | some u, some v => some (.value (bif x then u else v), A) | _, _ => none)
  | _ => none
def xPick (P : Program) (c a b : Operand) (t : T Value) (A : AS) : Res := pickV (aEval P c t) (aEval P a t) (aEval P b t) A
def xAlloc (P : Program) (e : TypeId) (_ : T Value) (A : AS) : Res := match zeroP P e with
  | some z => newC A (.pointer (some ⟨A.nx, 0, none⟩)) .leaf z.length z z.length e (0, 0)
  | none => none
def boxV (e : TypeId) (A : AS) (v : Option Value) : Res := match v with
  | some v => newC A (.pointer (some ⟨A.nx, 0, none⟩)) (T.setAll .leaf 0 v.cells.toList) v.cells.size [] v.cells.size e (0, 0)
  | none => none
def xBox (P : Program) (e : TypeId) (x : Operand) (t : T Value) (A : AS) : Res := boxV e A (aEval P x t)
def xBuild (P : Program) (ty : TypeId) (parts : Array (Nat × Operand)) (t : T Value) (A : AS) : Res := match evalParts P t parts.toList with
  | some ps => okA A (aBuild P ty ps)
  | none => none
def sliceOf (P : Program) (ty : TypeId) (len : Nat) (ps : Option (List (Nat × Value))) (A : AS) : Res := match ps, P.underlying ty with
  | some ps, some (.slice elem) => (match sizeP P elem, zeroP P elem with
    | some sz, some z => bif Nat.ble (len * sz) (2 ^ 24) then (match aParts sz (len * sz) .leaf ps with
        | some tr => newC A (.slice (some ⟨A.nx, 0, none⟩) len len) tr (len * sz) z sz elem (0, 0)
        | none => none) else none
    | _, _ => none)
  | _, _ => none
def xBuildSlice (P : Program) (ty : TypeId) (len : Nat) (parts : Array (Nat × Operand)) (t : T Value) (A : AS) : Res := sliceOf P ty len (evalParts P t parts.toList) A
def loadV (P : Program) (ty : TypeId) (A : AS) (a : Option Value) : Res := match a with
  | some a => okA A (aLoad P ty a A)
  | none => none
def xLoad (P : Program) (ty : TypeId) (a : Operand) (t : T Value) (A : AS) : Res := loadV P ty A (aEval P a t)
def storeV (P : Program) (ty : TypeId) (A : AS) (a v : Option Value) : Res := match a, v with
  | some a, some v => (match aStore P ty a v A with | some A' => some (.value undef, A') | none => none)
  | _, _ => none
def xStore (P : Program) (ty : TypeId) (a x : Operand) (t : T Value) (A : AS) : Res := storeV P ty A (aEval P a t) (aEval P x t)
def nilV (A : AS) (v : Option Value) : Res := match v with
  | some (.pointer (some a)) => some (.value (.pointer (some a)), A)
  | some (.func (.func f) a b) => some (.value (.func (.func f) a b), A)
  | some (.iface t v) => some (.value (.iface t v), A)
  | _ => none
def xNil (P : Program) (x : Operand) (t : T Value) (A : AS) : Res := nilV A (aEval P x t)
def binSlow (P : Program) (o : Oper) (op : BinOp) (ty : TypeId) (u v : Value) (t : T Value) (A : AS) : Res := match op with
  | .eql => (match aEqNil P ty A u v with | some b => some (.value (.bool b), A) | none => aPure P o t A)
  | .neq => (match aEqNil P ty A u v with | some b => some (.value (.bool (!b)), A) | none => aPure P o t A)
  | _ => aPure P o t A
def binV (P : Program) (o : Oper) (op : BinOp) (ty : TypeId) (t : T Value) (A : AS) (u v : Option Value) : Res := match u, v with
  | some u, some v => (match fastBin op u v with
    | some r => some (.value r, A)
    | none => binSlow P o op ty u v t A)
  | _, _ => none
def xBin (P : Program) (o : Oper) (op : BinOp) (ty : TypeId) (x y : Operand) (t : T Value) (A : AS) : Res := binV P o op ty t A (aEval P x t) (aEval P y t)
def xMakeIface (P : Program) (ty : TypeId) (x : Operand) (t : T Value) (A : AS) : Res := match aEval P x t, P.underlying ty with
  | some _, some (.interface _) => none
  | some v, some _ => some (.value (.iface ty v), A)
  | _, _ => none
def xMakeFunc (P : Program) (fn : Fn) (first captured : Array Operand) (t : T Value) (A : AS) : Res := match fn, evals P t first.toList, evals P t captured.toList with
  | .yield _, _, _ => none
  | fn, some a, some b => some (.value (.func fn ⟨a⟩ ⟨b⟩), A)
  | _, _, _ => none
def xMakeMap (_ : T Value) (A : AS) : Res := some (.value (.map (some A.nx)), A.new (.map [] 0))
def makeSliceV (P : Program) (ty : TypeId) (A : AS) (l c : Option Nat) : Res := match l, c, P.underlying ty with
  | some l, some c, some (.slice elem) => (match P.info? elem, zeroP P elem with
    | some inf, some z => bif Nat.ble l c && Nat.ble (c * inf.bytes) (2 ^ 40) && Nat.ble c (2 ^ 40) then
        newC A (.slice (some ⟨A.nx, 0, none⟩) l c) .leaf (c * inf.size) z inf.size elem (0, 0) else none
    | _, _ => none)
  | _, _, _ => none
def xMakeSlice (P : Program) (ty : TypeId) (l c : Operand) (t : T Value) (A : AS) : Res := makeSliceV P ty A ((aEval P l t).bind natOf) ((aEval P c t).bind natOf)
def optV (P : Program) (t : T Value) : Option Operand → Option (Option Value)
  | none => some none
  | some x => (match aEval P x t with | some v => some (some v) | none => none)
/-- A piece of a string. -/
def subStr (s : ByteArray) (l h : Nat) : ByteArray := ⟨⟨(s.data.toList.drop l).take (h - l)⟩⟩
def strSlice (P : Program) (o : Oper) (ty : TypeId) (s : ByteArray) (t : T Value) (A : AS) : Option (Option Value) → Option (Option Value) → Option (Option Value) → Res
  | some lo, some hi, some none => (match P.underlying ty, pureRun P (Instr.sliceBounds false s.data.toList.length s.data.toList.length lo hi none) with
    | some .string, some (l, h, _) => some (.value (.string (subStr s l h)), A)
    | _, _ => aPure P o t A)
  | _, _, _ => aPure P o t A
def xSlice (P : Program) (o : Oper) (ty : TypeId) (x : Operand) (lo hi mx : Option Operand) (t : T Value) (A : AS) : Res := match aEval P x t with
  | some (.string s) => strSlice P o ty s t A (optV P t lo) (optV P t hi) (optV P t mx)
  | some (.slice none _ _) => aPure P o t A
  | some v => (match optV P t lo, optV P t hi, optV P t mx with
    | some lo, some hi, some mx => okA A (aSlice P ty v lo hi mx A)
    | _, _, _ => none)
  | none => none
def fieldV (P : Program) (s : TypeId) (f : Nat) (A : AS) (v : Option Value) : Res := match v with
  | some v => okA A (aFieldAddr P s v f)
  | none => none
def xField (P : Program) (s : TypeId) (x : Operand) (f : Nat) (t : T Value) (A : AS) : Res := fieldV P s f A (aEval P x t)
def indexV (P : Program) (ty : TypeId) (A : AS) (v i : Option Value) : Res := match v, i with
  | some v, some i => okA A (aIndexAddr P ty v i)
  | _, _ => none
def xIndexAddr (P : Program) (ty : TypeId) (x ix : Operand) (t : T Value) (A : AS) : Res := indexV P ty A (aEval P x t) (aEval P ix t)
def lookupV (P : Program) (ty : TypeId) (commaOk : Bool) (A : AS) (m k : Option Value) : Res := match m, k, P.underlying ty with
  | some m, some k, some (.map kt et) => (match aEntries m A, closedV k with
    | some (es, _), true => (match pureRun P (Instr.checkKey es.isEmpty 10000 kt k), aFind P kt k es, P.info? et with
      | some _, some (some (_, v)), _ => some (.value (if commaOk then .tuple #[v, .bool true] else v), A)
      | some _, some none, some inf => (match inf.zero with
        | some z => bif closedV z then some (.value (if commaOk then .tuple #[z, .bool false] else z), A) else none
        | none => none)
      | _, _, _ => none)
    | _, _ => none)
  | _, _, _ => none
def xLookup (P : Program) (ty : TypeId) (x ix : Operand) (commaOk : Bool) (t : T Value) (A : AS) : Res := lookupV P ty commaOk A (aEval P x t) (aEval P ix t)
def mapUpdateV (P : Program) (ty : TypeId) (A : AS) (m k v : Option Value) : Res := match m, k, v, P.underlying ty with
  | some (.map (some r)), some k, some v, some (.map kt _) => (match A.h.get r, closedV k, Nat.ble A.lo r with
    | some (.map es c), true, true => (match pureRun P (Instr.checkKey false 10000 kt k), aFind P kt k es with
      | some _, some none => some (.value undef, A.put r (.map (es ++ [{ key := k, val := v, born := c }]) (c + 1)))
      | _, _ => none)
    | _, _, _ => none)
  | _, _, _, _ => none
def xMapUpdate (P : Program) (ty : TypeId) (m k x : Operand) (t : T Value) (A : AS) : Res := mapUpdateV P ty A (aEval P m t) (aEval P k t) (aEval P x t)
def extractV (i : Nat) (A : AS) (v : Option Value) : Res := match v with
  | some (.tuple ⟨l⟩) => okA A (nth l i)
  | _ => none
def xExtract (P : Program) (x : Operand) (i : Nat) (t : T Value) (A : AS) : Res := extractV i A (aEval P x t)
def assertV (P : Program) (asserted : TypeId) (commaOk : Bool) (A : AS) (x : Option Value) : Res := match x, P.underlying asserted with
  | some (.iface t v), some d => (match d with
    | .interface _ => none
    | _ => bif Nat.beq t asserted then some (.value (if commaOk then .tuple #[v, .bool true] else v), A) else
      bif commaOk then (match P.info? asserted with
        | some inf => (match inf.zero with | some z => bif closedV z then some (.value (.tuple #[z, .bool false]), A) else none | none => none)
        | none => none) else none)
  | _, _ => none
def xAssert (P : Program) (x : Operand) (asserted : TypeId) (commaOk : Bool) (t : T Value) (A : AS) : Res := assertV P asserted commaOk A (aEval P x t)
def convSlow (P : Program) (o : Oper) (src dst : TypeId) (v : Value) (t : T Value) (A : AS) : Res :=
  bif closedV v then (match aPure P o t A with | some r => some r | none => aConvert P src dst v A) else aConvert P src dst v A
def convInt (P : Program) (src dst : TypeId) (n : Int) (A : AS) : Res := match P.underlying src, P.underlying dst with
  | some _, some (.int k) => some (.value (.int k (fastWrap k n)), A)
  | _, _ => none
def convV (P : Program) (o : Oper) (src dst : TypeId) (t : T Value) (A : AS) (v : Option Value) : Res := match v with
  | some (.int k n) => (match convInt P src dst n A with
    | some r => some r
    | none => convSlow P o src dst (.int k n) t A)
  | some v => convSlow P o src dst v t A
  | none => none
def xConvert (P : Program) (o : Oper) (src dst : TypeId) (x : Operand) (t : T Value) (A : AS) : Res := convV P o src dst t A (aEval P x t)
def builtinV (P : Program) (o : Oper) (b : Builtin) (ts : List TypeId) (t : T Value) (A : AS) (args : Option (List Value)) : Res := match args with
  | some args => (match fastBuiltin P b ts args with
    | some v => some (.value v, A)
    | none => (match aPure P o t A with
      | some r => some r
      | none => aBuiltin P b ts args A))
  | none => none
def xBuiltin (P : Program) (o : Oper) (b : Builtin) (c : Call) (t : T Value) (A : AS) : Res := builtinV P o b c.argTypes.toList t A (evals P t c.args.toList)
def callV (P : Program) (A : AS) (f : Option Value) (args : Option (List Value)) : Res := match f, args with
  | some f, some args => aTarget P f args A
  | _, _ => none
def xCallV (P : Program) (f : Operand) (c : Call) (t : T Value) (A : AS) : Res := callV P A (aEval P f t) (evals P t c.args.toList)
def invokeV (P : Program) (name : String) (A : AS) (x : Option Value) (args : Option (List Value)) : Res := match x, args with
  | some (.iface t v), some args => (match methodP P t v name with | some (g, r) => some (.enter g (r :: args), A) | none => none)
  | _, _ => none
def xInvoke (P : Program) (recv : Operand) (name : String) (c : Call) (t : T Value) (A : AS) : Res := invokeV P name A (aEval P recv t) (evals P t c.args.toList)
def xCall (P : Program) (o : Oper) (c : Call) : T Value → AS → Res := match c.callee with
  | .builtin b => xBuiltin P o b c
  | .value f => xCallV P f c
  | .invoke recv name => xInvoke P recv name c
def indexStr (P : Program) (o : Oper) (t : T Value) (A : AS) (v i : Option Value) (d : Option TypeDesc) : Res := match v, i, d with
  | some (.string s), some (.int _ (.ofNat i)), some .string => (match s.data.toList[i]? with
    | some c => some (.value (.int .u8 (.ofNat c.toNat)), A)
    | none => none)
  | _, _, _ => aPure P o t A
def xIndex (P : Program) (o : Oper) (ty : TypeId) (x ix : Operand) (t : T Value) (A : AS) : Res := indexStr P o t A (aEval P x t) (aEval P ix t) (P.underlying ty)
/-- A part of a value's cells. -/
def partV (P : Program) (t : TypeId) (l : List Value) (off : Nat) : Option Value := match isAggP P t with
  | some true => (match sizeP P t with | some n => some (.agg ⟨(l.drop off).take n⟩) | none => none)
  | some false => l[off]?
  | none => none
def fieldOfV (P : Program) (o : Oper) (s : TypeId) (f : Nat) (t : T Value) (A : AS) : Option Value → Res
  | some (.agg cs) => (match P.underlying s with
    | some (.struct fields) => (match fields[f]? with | some fl => okA A (partV P fl.type cs.toList fl.offset) | none => none)
    | _ => none)
  | _ => aPure P o t A
def xFieldOf (P : Program) (o : Oper) (s : TypeId) (x : Operand) (f : Nat) (t : T Value) (A : AS) : Res := fieldOfV P o s f t A (aEval P x t)
def notV (A : AS) (v : Option Value) : Res := match v with
  | some (.bool b) => some (.value (.bool (!b)), A)
  | _ => none
def xUn (P : Program) (o : Oper) (op : UnOp) (x : Operand) : T Value → AS → Res := match op with
  | .not => fun t A => notV A (aEval P x t)
  | _ => aPure P o

/-- An operation. -/
def aOp (P : Program) (o : Oper) : T Value → AS → Res :=
  match o.op with
  | .move x | .assign x => xMove P x
  | .pick c a b => xPick P c a b
  | .alloc e => xAlloc P e
  | .box e x => xBox P e x
  | .build ty parts => xBuild P ty parts
  | .buildSlice ty len parts => xBuildSlice P ty len parts
  | .load ty a => xLoad P ty a
  | .store ty a x => xStore P ty a x
  | .nilCheck x => xNil P x
  | .binOp op ty x y _ => xBin P o op ty x y
  | .makeInterface ty x => xMakeIface P ty x
  | .makeFunc fn first captured => xMakeFunc P fn first captured
  | .makeMap _ none => xMakeMap
  | .makeSlice ty l c => xMakeSlice P ty l c
  | .slice ty x lo hi mx => xSlice P o ty x lo hi mx
  | .fieldAddr s x f => xField P s x f
  | .field s x f => xFieldOf P o s x f
  | .indexAddr ty x ix => xIndexAddr P ty x ix
  | .lookup ty x ix commaOk => xLookup P ty x ix commaOk
  | .mapUpdate ty m k x => xMapUpdate P ty m k x
  | .extract x i => xExtract P x i
  | .typeAssert x _ asserted commaOk => xAssert P x asserted commaOk
  | .convert src dst x => xConvert P o src dst x
  | .call c => xCall P o c
  | .index ty x ix => xIndex P o ty x ix
  | .unOp op _ x => xUn P o op x
  | .select _ _ | .defer _ | .go _ => fun _ _ => none
  | _ => aPure P o

end
end Go.Eng
