/- Part of an abstract machine that runs the program's code in Lean's kernel, and of the proof that what it answers every run of the model answers (Go.Eng; program-independent). No condition. -/
import GoSem.Step
import Derived.Tactics
import Derived.Orders
set_option linter.unusedVariables false
set_option linter.unusedSimpArgs false
set_option linter.unusedSectionVars false
namespace Go.Eng
open Go
noncomputable section

/-! A trie keyed by numbers. -/
inductive T (α : Type) where
  | leaf
  | node (l : T α) (v : Option α) (r : T α)

namespace T
variable {α : Type}
noncomputable def get (t : T α) : Nat → Option α :=
  T.rec (motive := fun _ => Nat → Option α) (fun _ => none)
    (fun _ v _ gl gr k => Nat.rec (motive := fun _ => Option α) v (fun k' _ => Bool.rec (motive := fun _ => Option α) (gr (Nat.div k' 2)) (gl (Nat.div k' 2)) (Nat.beq (Nat.mod k' 2) 0)) k) t
noncomputable def single (o : Option α) (n : Nat) : Nat → T α :=
  Nat.rec (motive := fun _ => Nat → T α) (fun _ => .leaf)
    (fun _ ih k => Nat.rec (motive := fun _ => T α) (.node .leaf o .leaf) (fun k' _ => Bool.rec (motive := fun _ => T α) (.node .leaf none (ih (Nat.div k' 2))) (.node (ih (Nat.div k' 2)) none .leaf) (Nat.beq (Nat.mod k' 2) 0)) k) n
noncomputable def put (t : T α) (o : Option α) : Nat → T α :=
  T.rec (motive := fun _ => Nat → T α) (single o 64)
    (fun l v r gl gr k => Nat.rec (motive := fun _ => T α) (.node l o r) (fun k' _ => Bool.rec (motive := fun _ => T α) (.node l v (gr (Nat.div k' 2))) (.node (gl (Nat.div k' 2)) v r) (Nat.beq (Nat.mod k' 2) 0)) k) t
--def get : T α → Nat → Option α
--  | .leaf, _ => none
--  | .node l v r, k =>
--    match k with
--    | 0 => v
--    | k' + 1 => bif Nat.beq (Nat.mod k' 2) 0 then l.get (Nat.div k' 2) else r.get (Nat.div k' 2)
--def single (o : Option α) : Nat → Nat → T α
--  | 0, _ => .leaf
--  | n + 1, k => match k with
--    | 0 => .node .leaf o .leaf
--    | k' + 1 => bif Nat.beq (Nat.mod k' 2) 0 then .node (single o n (Nat.div k' 2)) none .leaf else .node .leaf none (single o n (Nat.div k' 2))
--def put : T α → Option α → Nat → T α
--  | .leaf, o, k => single o 64 k
--  | .node l v r, o, k =>
--      (match k with
--      | 0 => .node l o r
--      | k' + 1 => bif Nat.beq (Nat.mod k' 2) 0 then .node (put l o (Nat.div k' 2)) v r else .node l v (put r o (Nat.div k' 2)))
def set (t : T α) (k : Nat) (v : α) : T α := put t (some v) k
def del (t : T α) (k : Nat) : T α := put t none k
/-- The values of a list, from the place i on. -/
def setAll : T α → Nat → List α → T α
  | t, _, [] => t
  | t, i, v :: l => setAll (t.set i v) (i + 1) l
/-- n values from the place i on. -/
def take (t : Nat → Option α) : Nat → Nat → Option (List α)
  | 0, _ => some []
  | n + 1, i => match t i with
    | some v => (match take t n (i + 1) with
      | some l => some (v :: l)
      | none => none)
    | none => none
end T

mutual
/-- A value that holds no address. -/
def closedV : Value → Bool
  | .bool _ | .int _ _ | .float _ _ | .complex _ _ _ | .string _ | .nilFunc | .nilIface => true
  | .pointer a => a.isNone
  | .slice a _ _ => a.isNone
  | .map r => r.isNone
  | .chan r => r.isNone
  | .func fn ⟨a⟩ ⟨b⟩ => (match fn with | .yield _ => false | _ => true) && closedVs a && closedVs b
  | .iface _ v => closedV v
  | .agg ⟨l⟩ => closedVs l
  | .tuple ⟨l⟩ => closedVs l
termination_by structural v => v
def closedVs : List Value → Bool
  | [] => true
  | v :: l => closedV v && closedVs l
termination_by structural l => l
end
end
end Go.Eng

namespace Go.Eng
open Go
noncomputable section

mutual
/-- The same value. -/
def beqV : Value → Value → Bool
  | .bool a, .bool b => a == b
  | .int j a, .int k b => decide (j = k) && decide (a = b)
  | .string a, .string b => decide (a = b)
  | .pointer a, .pointer b => decide (a = b)
  | .slice a l c, .slice b m d => decide (a = b) && Nat.beq l m && Nat.beq c d
  | .map a, .map b => decide (a = b)
  | .chan a, .chan b => decide (a = b)
  | .nilFunc, .nilFunc => true
  | .nilIface, .nilIface => true
  | .func f ⟨a⟩ ⟨b⟩, .func g ⟨c⟩ ⟨d⟩ => decide (f = g) && beqVs a c && beqVs b d
  | .iface s v, .iface t w => Nat.beq s t && beqV v w
  | .agg ⟨l⟩, .agg ⟨m⟩ => beqVs l m
  | .tuple ⟨l⟩, .tuple ⟨m⟩ => beqVs l m
  | _, _ => false
termination_by structural v => v
def beqVs : List Value → List Value → Bool
  | [], [] => true
  | v :: l, w :: m => beqV v w && beqVs l m
  | _, _ => false
termination_by structural l => l
end

inductive AObj where
  | cells (t : T Value) (size : Nat) (z : List Value) (u : Nat) (elem : TypeId) (fz : Nat × Nat)
  | map (es : List MapEntry) (clock : Nat)
  | loop (st : LoopState) (pending : Option Code) (tm : T Value) (n : Nat) (params : List Tmp) (assign body : Code) (defers : Nat)
  | deferred (open_ : Bool)
  | iter (s : ByteArray) (pos : Nat)

structure AS where
  h : T AObj
  nx : Nat
  lo : Nat

def AS.put (A : AS) (b : Nat) (o : AObj) : AS := { A with h := A.h.set b o }
def AS.kill (A : AS) (b : Nat) : AS := { A with h := A.h.del b }
def AS.new (A : AS) (o : AObj) : AS := { h := A.h.set A.nx o, nx := A.nx + 1, lo := A.lo }

def nth : List Value → Nat → Option Value
  | [], _ => none
  | v :: l, i => match i with
    | 0 => some v
    | j + 1 => nth l j
def cellF (t : T Value) (z : List Value) (i : Nat) : Option Value :=
  match t.get i with
  | some v => some v
  | none => nth z (Nat.mod i z.length)

def sizeP (P : Program) (t : TypeId) : Option Nat := match P.info? t with | some i => some i.size | none => none
def zeroP (P : Program) (t : TypeId) : Option (List Value) := match P.info? t with
  | some i => (match i.zero with | some v => bif closedV v then some v.cells.toList else none | none => none)
  | none => none
def isAggP (P : Program) (t : TypeId) : Option Bool := match P.underlying t with
  | some (.struct _) => some true
  | some (.array _ _) => some true
  | some _ => some false
  | none => none

def pureRun (P : Program) {α : Type} : Sem α → Option α
  | .pure a => some a
  | .program k => pureRun P (k P)
  | .mark _ k => pureRun P k
  | .choose q k => if q.forced then pureRun P (k 0) else none
  | _ => none

def oneCell (v : Value) : Bool := match v with | .agg _ | .tuple _ => false | _ => true

def aLoad (P : Program) (t : TypeId) (a : Value) (A : AS) : Option Value :=
  match a with
  | .pointer (some ⟨b, off, none⟩) =>
    (match A.h.get b with
    | some (.cells tr size z _ _ _) =>
      (match isAggP P t with
      | some true => (match sizeP P t with
        | some n => bif Nat.ble (off + n) size then (match T.take (cellF tr z) n off with | some l => some (.agg ⟨l⟩) | none => none) else none
        | none => none)
      | some false => bif Nat.blt off size then cellF tr z off else none
      | none => none)
    | _ => none)
  | _ => none

def thawed (fz : Nat × Nat) (off n : Nat) : Bool := Nat.beq fz.2 0 || (Nat.ble fz.2 off && Nat.blt fz.2 (2 ^ 64)) || Nat.ble (off + n) fz.1

/-- Cells written into a block. -/
def aPutCells (b off : Nat) (l : List Value) (A : AS) : Option AS :=
  match A.h.get b with
  | some (.cells tr size z u e fz) =>
    bif Nat.ble A.lo b && Nat.ble (off + l.length) size && thawed fz off l.length && l.all oneCell then
      some (A.put b (.cells (T.setAll tr off l) size z u e fz)) else none
  | _ => none

def aStore (P : Program) (t : TypeId) (a v : Value) (A : AS) : Option AS :=
  match a with
  | .pointer (some ⟨b, off, none⟩) =>
    (match sizeP P t with
    | some n => bif Nat.beq v.cells.size n then aPutCells b off v.cells.toList A else none
    | none => none)
  | _ => none

def shiftA (a : Addr) (n : Nat) : Addr := match n with
  | 0 => a
  | m + 1 => ⟨a.block, a.off + (m + 1), none⟩

def aFieldAddr (P : Program) (s : TypeId) (x : Value) (f : Nat) : Option Value :=
  match P.underlying s, x with
  | some (.struct fields), .pointer (some ⟨b, off, none⟩) =>
    (match fields[f]? with
    | some fl => (match sizeP P fl.type with
      | some (_ + 1) => some (.pointer (some (shiftA ⟨b, off, none⟩ fl.offset)))
      | _ => none)
    | none => none)
  | _, _ => none

def intOf : Value → Option Int
  | .int _ n => some n
  | _ => none

def aIndexAddr (P : Program) (t : TypeId) (x ix : Value) : Option Value :=
  match intOf ix, P.underlying t, x with
  | some (.ofNat i), some (.array len elem), .pointer (some ⟨b, off, none⟩) =>
    bif Nat.blt i len then (match sizeP P elem with | some n => some (.pointer (some (shiftA ⟨b, off, none⟩ (i * n)))) | none => none) else none
  | some (.ofNat i), some (.slice elem), .slice (some ⟨b, off, none⟩) len _ =>
    bif Nat.blt i len then (match sizeP P elem with | some n => some (.pointer (some (shiftA ⟨b, off, none⟩ (i * n)))) | none => none) else none
  | _, _, _ => none

def spliceL : List Value → Nat → List Value → List Value
  | l, 0, [] => l
  | [], _, _ => []
  | _ :: l, 0, v :: vs => v :: spliceL l 0 vs
  | x :: l, n + 1, vs => x :: spliceL l n vs

def aFill (place : Nat → Option (Nat × Nat)) : List Value → List (Nat × Value) → Option (List Value)
  | cells, [] => some cells
  | cells, (i, v) :: rest => match place i with
    | none => none
    | some (off, size) => bif Nat.beq v.cells.size size && Nat.ble (off + size) cells.length then aFill place (spliceL cells off v.cells.toList) rest else none

def fieldSizes (P : Program) : List Field → Option (List (Nat × Nat))
  | [] => some []
  | f :: l => match sizeP P f.type with
    | some n => (match fieldSizes P l with | some r => some ((f.offset, n) :: r) | none => none)
    | none => none
def aBuild (P : Program) (t : TypeId) (parts : List (Nat × Value)) : Option Value :=
  match zeroP P t, P.underlying t with
  | some z, some (.struct fields) => (match fieldSizes P fields.toList with
    | some pl => (match aFill (fun i => pl[i]?) z parts with
      | some l => some (.agg ⟨l⟩) | none => none)
    | none => none)
  | some z, some (.array _ elem) => (match sizeP P elem with
    | some n => (match aFill (fun i => some (i * n, n)) z parts with | some l => some (.agg ⟨l⟩) | none => none)
    | none => none)
  | _, _ => none

def aParts (size total : Nat) : T Value → List (Nat × Value) → Option (T Value)
  | t, [] => some t
  | t, (i, v) :: rest => bif Nat.beq v.cells.size size && Nat.ble (i * size + size) total then aParts size total (T.setAll t (i * size) v.cells.toList) rest else none

/-- An operand's value. -/
def constV (v : Value) : Option Value := bif closedV v then some v else none
def globV (P : Program) (g : Nat) : Option Value := bif Nat.blt g P.globals.size then some (.pointer (some ⟨g, 0, none⟩)) else none
def aEval (P : Program) : Operand → T Value → Option Value
  | .tmp i => fun t => t.get i
  | .const v => fun _ => constV v
  | .global g => fun _ => globV P g
  | .func f => fun _ => some (.func (.func f) #[] #[])

def evals (P : Program) (t : T Value) : List Operand → Option (List Value)
  | [] => some []
  | x :: l => match aEval P x t with
    | some v => (match evals P t l with | some vs => some (v :: vs) | none => none)
    | none => none
def evalParts (P : Program) (t : T Value) : List (Nat × Operand) → Option (List (Nat × Value))
  | [] => some []
  | (i, x) :: l => match aEval P x t with
    | some v => (match evalParts P t l with | some vs => some ((i, v) :: vs) | none => none)
    | none => none

/-- The cells that a slice or a string gives. -/
def aCells (size n : Nat) (x : Value) (A : AS) : Option (List Value) :=
  match x with
  | .slice none _ _ => bif Nat.beq n 0 then some [] else none
  | .slice (some ⟨b, off, none⟩) _ _ => (match A.h.get b with
    | some (.cells tr sz z _ _ _) => bif Nat.ble (off + n * size) sz then T.take (cellF tr z) (n * size) off else none
    | _ => none)
  | .string s => bif Nat.beq size 1 && Nat.ble n s.size then some ((s.data.toList.take n).map fun b => .int .u8 b.toNat) else none
  | _ => none
def aLen : Value → Option Nat
  | .slice _ n _ => some n
  | .string s => some s.size
  | _ => none

/-- May a slice of so many elements grow there? -/
def growOk (inf : TypeInfo) (z : List Value) (need : Nat) : Bool :=
  Nat.beq z.length inf.size && Nat.ble inf.bytes (2 ^ 30) && Nat.ble (need * inf.bytes) (2 ^ 40) && Nat.ble need (2 ^ 40) && Nat.ble (need * inf.size) (2 ^ 60)

def appendNil (A : AS) (elem : TypeId) (inf : TypeInfo) (z : List Value) (n : Nat) (new : List Value) : Option (Value × AS) :=
  match n with
  | 0 => some (.slice none 0 0, A)
  | _ + 1 => bif growOk inf z n && new.all oneCell then
      some (.slice (some ⟨A.nx, 0, none⟩) n n, A.new (.cells (T.setAll .leaf 0 new) (n * inf.size) [] inf.size elem (0, 0))) else none
def appendIn (A : AS) (b off sLen sCap n size : Nat) (new : List Value) : Option (Value × AS) :=
  match aPutCells b (off + sLen * size) new A with
  | some A' => some (.slice (some ⟨b, off, none⟩) (sLen + n) sCap, A')
  | none => none
def appendNew (A : AS) (elem : TypeId) (inf : TypeInfo) (z : List Value) (b off sLen sCap n : Nat) (new : List Value) : Option (Value × AS) :=
  match aCells inf.size sLen (.slice (some ⟨b, off, none⟩) sLen sCap) A, A.h.get b with
  | some old, some (.cells _ _ _ u ty fz) =>
    bif Nat.beq ty elem && Nat.beq u inf.size && Nat.ble A.lo b && growOk inf z (sLen + n) && Nat.ble fz.2 (off + sLen * inf.size) && Nat.ble (off + sLen * inf.size) (2 ^ 60) && new.all oneCell && Nat.ble sLen sCap then
      some (.slice (some ⟨A.nx, 0, none⟩) (sLen + n) (sLen + n), (A.kill b).new (.cells (T.setAll .leaf 0 (old ++ new)) ((sLen + n) * inf.size) [] inf.size elem (bif Nat.beq fz.2 0 then (0, 0) else (0, sLen * inf.size + 1))))
    else none
  | _, _ => none
def appendTo (A : AS) (elem : TypeId) (inf : TypeInfo) (z : List Value) (b off sLen sCap n : Nat) (new : List Value) : Option (Value × AS) :=
  match n with
  | 0 => bif Nat.ble sLen sCap then some (.slice (some ⟨b, off, none⟩) sLen sCap, A) else none
  | _ + 1 => bif Nat.ble (sLen + n) sCap then appendIn A b off sLen sCap n inf.size new else appendNew A elem inf z b off sLen sCap n new
def notInt : TypeDesc → Bool
  | .int _ => false
  | _ => true
def aAppend (P : Program) (argTypes : List TypeId) (args : List Value) (A : AS) : Option (Value × AS) :=
  match argTypes, args with
  | sType :: xType :: _, [.slice base sLen sCap, x] =>
    (match P.underlying sType, P.underlying xType, aLen x with
    | some (.slice elem), some xd, some n =>
      bif notInt xd then
      (match P.info? elem, zeroP P elem with
      | some inf, some z =>
        (match aCells inf.size n x A, base with
        | some new, none => bif Nat.beq sLen 0 && Nat.beq sCap 0 then appendNil A elem inf z n new else none
        | some new, some ⟨b, off, none⟩ => appendTo A elem inf z b off sLen sCap n new
        | _, _ => none)
      | _, _ => none) else none
    | _, _, _ => none)
  | _, _ => none

/-! Fast ways for numbers. -/
def kNo : IntKind → Nat
  | .i8 => 0 | .i16 => 1 | .i32 => 2 | .i64 => 3 | .u8 => 4 | .u16 => 5 | .u32 => 6 | .u64 => 7
def kTop : IntKind → Nat
  | .i8 => 128 | .i16 => 32768 | .i32 => 2147483648 | .i64 => 9223372036854775808 | .u8 => 256 | .u16 => 65536 | .u32 => 4294967296 | .u64 => 18446744073709551616
def kEq (a b : IntKind) : Bool := Nat.beq (kNo a) (kNo b)
def fastWrap (k : IntKind) (n : Int) : Int := match n with
  | .ofNat m => bif Nat.blt m (kTop k) then .ofNat m else k.wrap n
  | .negSucc m => bif Nat.blt (kNo k) 4 && Nat.blt m (kTop k) then .negSucc m else k.wrap n
def addI : Int → Int → Int
  | .ofNat a, .ofNat b => .ofNat (Nat.add a b)
  | a, b => a + b
def subI : Int → Int → Int
  | .ofNat a, .ofNat b => bif Nat.ble b a then .ofNat (Nat.sub a b) else .negSucc (Nat.sub (Nat.sub b a) 1)
  | a, b => a - b
def mulI : Int → Int → Int
  | .ofNat a, .ofNat b => .ofNat (Nat.mul a b)
  | a, b => a * b
def eqI : Int → Int → Bool
  | .ofNat a, .ofNat b => Nat.beq a b
  | .negSucc a, .negSucc b => Nat.beq a b
  | _, _ => false
def ltI : Int → Int → Bool
  | .ofNat a, .ofNat b => Nat.blt a b
  | .negSucc a, .negSucc b => Nat.blt b a
  | .negSucc _, .ofNat _ => true
  | .ofNat _, .negSucc _ => false
def fastBin0 (op : BinOp) (u v : Value) : Option Value := match u with
  | .int k a => (match v with
    | .int k' b => bif kEq k k' then (match op with
      | .add => some (.int k (fastWrap k (addI a b)))
      | .sub => some (.int k (fastWrap k (subI a b)))
      | .mul => some (.int k (fastWrap k (mulI a b)))
      | .eql => some (.bool (eqI a b))
      | .neq => some (.bool (!(eqI a b)))
      | .lss => some (.bool (ltI a b))
      | .leq => some (.bool (!(ltI b a)))
      | .gtr => some (.bool (ltI b a))
      | .geq => some (.bool (!(ltI a b)))
      | _ => none) else none
    | _ => none)
  | _ => none

/-- A shift to the right by few. -/
def fastShr (u v : Value) : Option Value := match u, v with
  | .int k (.ofNat x), .int _ (.ofNat m) => bif Nat.ble m 7 then some (.int k (.ofNat (Nat.div x (Nat.pow 2 m)))) else none
  | _, _ => none
def fastBin (op : BinOp) (u v : Value) : Option Value := match op with
  | .shr => fastShr u v
  | _ => fastBin0 op u v

def natOf : Value → Option Nat
  | .int _ (.ofNat n) => some n
  | _ => none

/-- Slices. -/
def aSlice (P : Program) (t : TypeId) (x : Value) (lo hi mx : Option Value) (A : AS) : Option Value :=
  match P.underlying t, x with
  | some (.array n elem), .pointer (some ⟨b, off, none⟩) => (match pureRun P (Instr.sliceBounds false n n lo hi mx), sizeP P elem with
    | some (l, h, m), some sz => some (.slice (some (bif Nat.beq m l then ⟨b, off, none⟩ else shiftA ⟨b, off, none⟩ (l * sz))) (h - l) (m - l))
    | _, _ => none)
  | some (.slice elem), .slice (some ⟨b, off, none⟩) len cap => (match pureRun P (Instr.sliceBounds true len cap lo hi mx), sizeP P elem, A.h.get b with
    | some (l, h, m), some sz, some (.cells _ _ _ u _ _) => bif Nat.beq u sz then
        some (.slice (some (bif Nat.beq m l then ⟨b, off, none⟩ else shiftA ⟨b, off, none⟩ (l * sz))) (h - l) (m - l)) else none
    | _, _, _ => none)
  | _, _ => none

/-- Where a key stands among entries. -/
def aFindAsking (P : Program) (kt : TypeId) (k : Value) : List MapEntry → Nat → Option (Option (Nat × Value))
  | [], _ => some none
  | e :: es, i => match pureRun P (Op.equal kt k e.key) with
    | some true => some (some (i, e.val))
    | some false => aFindAsking P kt k es (i + 1)
    | none => none
def aFind (P : Program) (kt : TypeId) (k : Value) (es : List MapEntry) : Option (Option (Nat × Value)) :=
  match P.underlying kt with
  | some d => (match Instr.findNow d k es 0 with
    | some r => some r
    | none => aFindAsking P kt k es 0)
  | none => none
def aEntries (x : Value) (A : AS) : Option (List MapEntry × Nat) := match x with
  | .map none => some ([], 0)
  | .map (some r) => (match A.h.get r with | some (.map es c) => some (es, c) | _ => none)
  | _ => none

def setEntry (v k : Value) : List MapEntry → Nat → List MapEntry
  | [], _ => []
  | e :: es, 0 => { e with val := v, key := k } :: es
  | e :: es, i + 1 => e :: setEntry v k es i

inductive ANext where
  | value (v : Value)
  | enter (f : FuncId) (args : List Value)
  | yield (l : Nat) (args : List Value)


abbrev Res := Option (ANext × AS)
/-- A new block of cells. -/
def newC (A : AS) (v : Value) (tr : T Value) (size : Nat) (z : List Value) (u : Nat) (e : TypeId) (fz : Nat × Nat) : Res :=
  bif Nat.ble size (2 ^ 60) then some (.value v, A.new (.cells tr size z u e fz)) else none
/-- An operation on closed operands that asks no memory. -/
def allClosed (P : Program) (t : T Value) : List Operand → Bool
  | [] => true
  | x :: l => (match aEval P x t with | some v => closedV v | none => false) && allClosed P t l
def aPure (P : Program) (o : Oper) (t : T Value) (A : AS) : Option (ANext × AS) :=
  bif allClosed P t o.op.operands.toList then
    (match pureRun P (execOp (fun x => (aEval P x t).getD undef) o) with
    | some (.value v) => bif closedV v then some (.value v, A) else none
    | _ => none)
  else none

def bytesOf : List Value → Option (List Int)
  | [] => some []
  | .int .u8 n :: l => (match bytesOf l with | some r => some (n :: r) | none => none)
  | _ :: _ => none
/-- What may be frozen, when some more cells are. -/
def hullFz (fz : Nat × Nat) (off n : Nat) : Nat × Nat := bif Nat.beq fz.2 0 then (off, off + n) else (0, bif Nat.ble (off + n) fz.2 then fz.2 else off + n)
def runesOf : List Value → Option (List Int)
  | [] => some []
  | .int .i32 n :: l => (match runesOf l with | some r => some (n :: r) | none => none)
  | _ :: _ => none
def strOfRunes (l : List Int) : ByteArray := ⟨⟨l.flatMap fun n => (Utf8.encode n).data.toList⟩⟩
def strOf (l : List Int) : ByteArray := ⟨⟨l.map fun n => UInt8.ofNat n.toNat⟩⟩

/-- What '==' says of nil. -/
def eqNilT (d : TypeDesc) (x y : Value) : Option Bool := match d, x, y with
  | .pointer _, .pointer (some _), .pointer none | .pointer _, .pointer none, .pointer (some _) => some false
  | .interface _, .nilIface, .iface _ _ | .interface _, .iface _ _, .nilIface => some false
  | .slice _, .slice (some _) _ _, .slice none _ _ | .slice _, .slice none _ _, .slice (some _) _ _ => some false
  | .map _ _, .map (some _), .map none | .map _ _, .map none, .map (some _) => some false
  | .func _ _ _, .nilFunc, .func _ _ _ | .func _ _ _, .func _ _ _, .nilFunc => some false
  | _, _, _ => none
/-- What '==' says of nil, and of two places. -/
def aEqPtr (P : Program) (t : TypeId) (A : AS) (x y : Value) : Option Bool :=
  match x, y, P.underlying t with
  | .pointer (some ⟨b, o, none⟩), .pointer (some ⟨b', o', none⟩), some (.pointer e) => (match sizeP P e with
    | some (_ + 1) => bif Nat.beq b b' then some (Nat.beq o o') else
      (match A.h.get b, A.h.get b' with
      | some (.cells _ _ _ _ _ (_, 0)), some (.cells _ _ _ _ _ (_, 0)) => some false
      | _, _ => none)
    | _ => none)
  | _, _, _ => none
def aEqNil (P : Program) (t : TypeId) (A : AS) (x y : Value) : Option Bool :=
  match P.underlying t with
  | some d => (match eqNilT d x y with
    | some b => some b
    | none => (match d, x, y with
      | .interface _, .iface s v, .iface s' v' => bif Nat.beq s s' then (match P.info? s with
          | some inf => bif inf.comparable then aEqPtr P s A v v' else none
          | none => none) else some false
      | _, _, _ => aEqPtr P t A x y))
  | none => none

def repL : Nat → List Value → List Value
  | 0, _ => []
  | n + 1, z => z ++ repL n z
def aBuiltin (P : Program) (b : Builtin) (argTypes : List TypeId) (args : List Value) (A : AS) : Option (ANext × AS) :=
  match b with
  | .append => (match aAppend P argTypes args A with | some (v, A') => some (.value v, A') | none => none)
  | .len => (match argTypes, args with
    | t :: _, [x] => (match P.underlying t, x with
      | some (.slice _), .slice _ n _ => some (.value (goInt n), A)
      | some (.map _ _), .map (some r) => (match A.h.get r with | some (.map es _) => some (.value (goInt es.length), A) | _ => none)
      | some (.pointer arr), _ => (match P.underlying arr with | some (.array n _) => some (.value (goInt n), A) | _ => none)
      | _, _ => none)
    | _, _ => none)
  | .copy => (match argTypes, args with
    | t :: _, [.slice base dLen _, src] => (match P.underlying t, aLen src with
      | some (.slice elem), some m => (match sizeP P elem with
        | some sz => (match aCells sz (Nat.min m dLen) src A, base with
          | some new, some ⟨b, off, none⟩ => (match aPutCells b off new A with | some A' => some (.value (goInt (Nat.min m dLen)), A') | none => none)
          | some _, none => some (.value (goInt (Nat.min m dLen)), A)
          | _, _ => none)
        | none => none)
      | _, _ => none)
    | _, _ => none)
  | .unsafeString => (match argTypes, args with
    | pt :: _, [.pointer (some ⟨b, off, none⟩), ln] => (match A.h.get b, natOf ln, P.underlying pt with
      | some (.cells tr size z u e fz), some (n + 1), some (.pointer el) =>
        bif Nat.beq (P.cellsOf e) 1 && sameLayout P P.depth e el && Nat.ble (n + 1) (2 ^ 40) && Nat.ble (off + (n + 1)) size && Nat.ble A.lo b then
        (match T.take (cellF tr z) (n + 1) off with
        | some l => (match bytesOf l with
          | some bs => some (.value (.string (strOf bs)), A.put b (.cells tr size z u e (hullFz fz off (n + 1))))
          | none => none)
        | none => none) else none
      | _, _, _ => none)
    | _, _ => none)
  | .cap => (match argTypes, args with
    | t :: _, [.slice none _ c] => (match P.underlying t with | some (.slice _) => some (.value (goInt c), A) | _ => none)
    | _, _ => none)
  | .clear => (match argTypes, args with
    | t :: _, [.slice (some ⟨b, off, none⟩) (n + 1) _] => (match P.underlying t with
      | some (.slice elem) => (match zeroP P elem with
        | some z => (match aPutCells b off (repL (n + 1) z) A with | some A' => some (.value (.tuple #[]), A') | none => none)
        | none => none)
      | _ => none)
    | t :: _, [.slice _ 0 _] => (match P.underlying t with | some (.slice _) => some (.value (.tuple #[]), A) | _ => none)
    | t :: _, [.map (some r)] => (match P.underlying t, A.h.get r with
      | some (.map _ _), some (.map _ c) => bif Nat.ble A.lo r then some (.value (.tuple #[]), A.put r (.map [] c)) else none
      | _, _ => none)
    | _, _ => none)
  | .unsafeSliceData => (match args with
    | [.slice (some a) _ (c + 1)] => some (.value (.pointer (some a)), A)
    | _ => none)
  | _ => none

def fastBuiltin (P : Program) (b : Builtin) (argTypes : List TypeId) (args : List Value) : Option Value := match b with
  | .len => (match argTypes, args with
    | t :: _, [.slice _ n _] => (match P.underlying t with | some (.slice _) => some (.int .i64 (.ofNat n)) | _ => none)
    | t :: _, [.string s] => (match P.underlying t with | some .string => some (.int .i64 (.ofNat s.size)) | _ => none)
    | _, _ => none)
  | .max => (match args with
    | [.int k a, .int k' b] => bif kEq k k' then some (.int k (bif ltI a b then b else a)) else none
    | _ => none)
  | .min => (match args with
    | [.int k a, .int k' b] => bif kEq k k' then some (.int k (bif ltI b a then b else a)) else none
    | _ => none)
  | _ => none

def methodP (P : Program) (t : TypeId) (v : Value) (name : String) : Option (FuncId × Value) :=
  match P.info? t with
  | some inf => (match inf.methods.find? (·.name == name) with
    | some m => bif m.path.isEmpty then (match m.func, P.underlying t with
      | some (f, true), some (.pointer _) => some (f, v)
      | some (_, _), some (.pointer _) => none
      | some (f, false), some _ => some (f, v)
      | _, _ => none) else none
    | none => none)
  | none => none

def aTarget (P : Program) (f : Value) (args : List Value) (A : AS) : Option (ANext × AS) :=
  match f with
  | .func (.func g) first cap => some (.enter g (first.toList ++ args ++ cap.toList), A)
  | .func (.yield l) first _ => some (.yield l (first.toList ++ args), A)
  | .func (.method name) first _ => (match first.toList ++ args with
    | .iface t v :: rest => (match methodP P t v name with | some (g, r) => some (.enter g (r :: rest), A) | none => none)
    | _ => none)
  | _ => none

def aConvert (P : Program) (src dst : TypeId) (x : Value) (A : AS) : Option (ANext × AS) :=
  match P.underlying src, P.underlying dst, x with
  | some (.slice e), some .string, .slice (some a) len c => (match P.underlying e, aCells 1 len (.slice (some a) len c) A with
    | some (.int .u8), some l => (match bytesOf l with
      | some bs => some (.value (.string (strOf bs)), A)
      | none => none)
    | some (.int .i32), some l => (match runesOf l with
      | some ns => some (.value (.string (strOfRunes ns)), A)
      | none => none)
    | _, _ => none)
  | some (.slice _), some (.slice e), .slice (some ⟨b, off, none⟩) len c => (match P.underlying e, A.h.get b with
    | some (.int .u8), some (.cells tr size z u el fz) => bif Nat.beq src dst && Nat.ble A.lo b then
        some (.value (.slice (some ⟨b, off, none⟩) len c), A.put b (.cells tr size z u el (bif Nat.beq fz.2 0 then size else 0, 2 ^ 64))) else none
    | _, _ => none)
  | some .string, some (.slice e), .string s => (match P.underlying e with
    | some (.int .u8) => newC A (.slice (some ⟨A.nx, 0, none⟩) s.size s.size) (T.setAll .leaf 0 (s.data.toList.map fun b => .int .u8 b.toNat)) s.size [] 1 e (s.size, 2 ^ 64)
    | _ => none)
  | some (.pointer t), some .unsafePointer, .pointer (some ⟨b, off, none⟩) => (match A.h.get b, sizeP P t with
    | some (.cells _ size _ _ _ _), some (_ + 1) => bif Nat.blt off size then some (.value x, A) else none
    | _, _ => none)
  | some .unsafePointer, some (.pointer u), .pointer (some ⟨b, off, none⟩) => (match A.h.get b, sizeP P u with
    | some (.cells _ size (_ :: _) _ e _), some (_ + 1) => bif liesAt P P.depth e (size / P.cellsOf e) off u 1 then some (.value x, A) else none
    | _, _ => none)
  | _, _, _ => none

/-! The operations, one by one: each by itself, so that the kernel copies little. -/
def okA (A : AS) (v : Option Value) : Res := match v with
  | some v => some (.value v, A)
  | none => none
def xMove (P : Program) (x : Operand) (t : T Value) (A : AS) : Res := okA A (aEval P x t)
def pickV (c : Option Value) (a b : Option Value) (A : AS) : Res := match c with
  | some (.bool x) => (match a, b with | some u, some v => some (.value (bif x then u else v), A) | _, _ => none)
  | _ => none
def xPick (P : Program) (c a b : Operand) (t : T Value) (A : AS) : Res := pickV (aEval P c t) (aEval P a t) (aEval P b t) A
def xAlloc (P : Program) (e : TypeId) (_ : T Value) (A : AS) : Res := match zeroP P e with
  | some z => newC A (.pointer (some ⟨A.nx, 0, none⟩)) .leaf z.length z z.length e (0, 0)
  | none => none
def boxV (e : TypeId) (A : AS) (v : Option Value) : Res := match v with
  | some v => newC A (.pointer (some ⟨A.nx, 0, none⟩)) .leaf v.cells.size v.cells.toList v.cells.size e (0, 0)
  | none => none
def xBox (P : Program) (e : TypeId) (x : Operand) (t : T Value) (A : AS) : Res := boxV e A (aEval P x t)
def xBuild (P : Program) (ty : TypeId) (parts : Array (Nat × Operand)) (t : T Value) (A : AS) : Res := match evalParts P t parts.toList with
  | some ps => okA A (aBuild P ty ps)
  | none => none
def sliceOf (P : Program) (ty : TypeId) (len : Nat) (ps : Option (List (Nat × Value))) (A : AS) : Res := match ps, P.underlying ty with
  | some ps, some (.slice elem) => (match sizeP P elem, zeroP P elem with
    | some sz, some z => bif Nat.ble (len * sz) (2 ^ 24) then (match aParts sz (len * sz) .leaf ps with
        | some tr => newC A (.slice (some ⟨A.nx, 0, none⟩) len len) tr (len * sz) z sz elem (0, 0)
        | none => none) else none
    | _, _ => none)
  | _, _ => none
def xBuildSlice (P : Program) (ty : TypeId) (len : Nat) (parts : Array (Nat × Operand)) (t : T Value) (A : AS) : Res := sliceOf P ty len (evalParts P t parts.toList) A
def loadV (P : Program) (ty : TypeId) (A : AS) (a : Option Value) : Res := match a with
  | some a => okA A (aLoad P ty a A)
  | none => none
def xLoad (P : Program) (ty : TypeId) (a : Operand) (t : T Value) (A : AS) : Res := loadV P ty A (aEval P a t)
def storeV (P : Program) (ty : TypeId) (A : AS) (a v : Option Value) : Res := match a, v with
  | some a, some v => (match aStore P ty a v A with | some A' => some (.value undef, A') | none => none)
  | _, _ => none
def xStore (P : Program) (ty : TypeId) (a x : Operand) (t : T Value) (A : AS) : Res := storeV P ty A (aEval P a t) (aEval P x t)
def nilV (A : AS) (v : Option Value) : Res := match v with
  | some (.pointer (some a)) => some (.value (.pointer (some a)), A)
  | some (.func (.func f) a b) => some (.value (.func (.func f) a b), A)
  | some (.iface t v) => some (.value (.iface t v), A)
  | _ => none
def xNil (P : Program) (x : Operand) (t : T Value) (A : AS) : Res := nilV A (aEval P x t)
def binSlow (P : Program) (o : Oper) (op : BinOp) (ty : TypeId) (u v : Value) (t : T Value) (A : AS) : Res := match op with
  | .eql => (match aEqNil P ty A u v with | some b => some (.value (.bool b), A) | none => aPure P o t A)
  | .neq => (match aEqNil P ty A u v with | some b => some (.value (.bool (!b)), A) | none => aPure P o t A)
  | _ => aPure P o t A
def binV (P : Program) (o : Oper) (op : BinOp) (ty : TypeId) (t : T Value) (A : AS) (u v : Option Value) : Res := match u, v with
  | some u, some v => (match fastBin op u v with
    | some r => some (.value r, A)
    | none => binSlow P o op ty u v t A)
  | _, _ => none
def xBin (P : Program) (o : Oper) (op : BinOp) (ty : TypeId) (x y : Operand) (t : T Value) (A : AS) : Res := binV P o op ty t A (aEval P x t) (aEval P y t)
def xMakeIface (P : Program) (ty : TypeId) (x : Operand) (t : T Value) (A : AS) : Res := match aEval P x t, P.underlying ty with
  | some _, some (.interface _) => none
  | some v, some _ => some (.value (.iface ty v), A)
  | _, _ => none
def xMakeFunc (P : Program) (fn : Fn) (first captured : Array Operand) (t : T Value) (A : AS) : Res := match fn, evals P t first.toList, evals P t captured.toList with
  | .yield _, _, _ => none
  | fn, some a, some b => some (.value (.func fn ⟨a⟩ ⟨b⟩), A)
  | _, _, _ => none
def xMakeMap (_ : T Value) (A : AS) : Res := some (.value (.map (some A.nx)), A.new (.map [] 0))
def makeSliceV (P : Program) (ty : TypeId) (A : AS) (l c : Option Nat) : Res := match l, c, P.underlying ty with
  | some l, some c, some (.slice elem) => (match P.info? elem, zeroP P elem with
    | some inf, some z => bif Nat.ble l c && Nat.ble (c * inf.bytes) (2 ^ 40) && Nat.ble c (2 ^ 40) then
        newC A (.slice (some ⟨A.nx, 0, none⟩) l c) .leaf (c * inf.size) z inf.size elem (0, 0) else none
    | _, _ => none)
  | _, _, _ => none
def xMakeSlice (P : Program) (ty : TypeId) (l c : Operand) (t : T Value) (A : AS) : Res := makeSliceV P ty A ((aEval P l t).bind natOf) ((aEval P c t).bind natOf)
def optV (P : Program) (t : T Value) : Option Operand → Option (Option Value)
  | none => some none
  | some x => (match aEval P x t with | some v => some (some v) | none => none)
/-- A piece of a string. -/
def subStr (s : ByteArray) (l h : Nat) : ByteArray := ⟨⟨(s.data.toList.drop l).take (h - l)⟩⟩
def strSlice (P : Program) (o : Oper) (ty : TypeId) (s : ByteArray) (t : T Value) (A : AS) : Option (Option Value) → Option (Option Value) → Option (Option Value) → Res
  | some lo, some hi, some none => (match P.underlying ty, pureRun P (Instr.sliceBounds false s.data.toList.length s.data.toList.length lo hi none) with
    | some .string, some (l, h, _) => some (.value (.string (subStr s l h)), A)
    | _, _ => aPure P o t A)
  | _, _, _ => aPure P o t A
def xSlice (P : Program) (o : Oper) (ty : TypeId) (x : Operand) (lo hi mx : Option Operand) (t : T Value) (A : AS) : Res := match aEval P x t with
  | some (.string s) => strSlice P o ty s t A (optV P t lo) (optV P t hi) (optV P t mx)
  | some (.slice none _ _) => aPure P o t A
  | some v => (match optV P t lo, optV P t hi, optV P t mx with
    | some lo, some hi, some mx => okA A (aSlice P ty v lo hi mx A)
    | _, _, _ => none)
  | none => none
def fieldV (P : Program) (s : TypeId) (f : Nat) (A : AS) (v : Option Value) : Res := match v with
  | some v => okA A (aFieldAddr P s v f)
  | none => none
def xField (P : Program) (s : TypeId) (x : Operand) (f : Nat) (t : T Value) (A : AS) : Res := fieldV P s f A (aEval P x t)
def indexV (P : Program) (ty : TypeId) (A : AS) (v i : Option Value) : Res := match v, i with
  | some v, some i => okA A (aIndexAddr P ty v i)
  | _, _ => none
def xIndexAddr (P : Program) (ty : TypeId) (x ix : Operand) (t : T Value) (A : AS) : Res := indexV P ty A (aEval P x t) (aEval P ix t)
/-- A range over a string. -/
def rangeV (P : Program) (ty : TypeId) (A : AS) : Option Value → Res
  | some (.string s) => (match P.underlying ty with
    | some .string => some (.value (.pointer (some ⟨A.nx, 0, none⟩)), A.new (.iter s 0))
    | _ => none)
  | _ => none
def xRange (P : Program) (ty : TypeId) (x : Operand) (t : T Value) (A : AS) : Res := rangeV P ty A (aEval P x t)
def nextV (isString : Bool) (A : AS) : Option Value → Res
  | some (.pointer (some ⟨r, 0, none⟩)) => (match isString, A.h.get r with
    | true, some (.iter s pos) => bif Nat.ble A.lo r then
        (bif Nat.blt pos s.data.toList.length then some (.value (.tuple #[.bool true, goInt pos, .int .i32 (Utf8.decode s pos).1]), A.put r (.iter s (pos + (Utf8.decode s pos).2)))
        else some (.value (.tuple #[.bool false]), A)) else none
    | _, _ => none)
  | _ => none
def xNext (P : Program) (x : Operand) (isString : Bool) (t : T Value) (A : AS) : Res := nextV isString A (aEval P x t)
def lookupV (P : Program) (ty : TypeId) (commaOk : Bool) (A : AS) (m k : Option Value) : Res := match m, k, P.underlying ty with
  | some m, some k, some (.map kt et) => (match aEntries m A, closedV k with
    | some (es, _), true => (match pureRun P (Instr.checkKey es.isEmpty 10000 kt k), aFind P kt k es, P.info? et with
      | some _, some (some (_, v)), _ => some (.value (if commaOk then .tuple #[v, .bool true] else v), A)
      | some _, some none, some inf => (match inf.zero with
        | some z => bif closedV z then some (.value (if commaOk then .tuple #[z, .bool false] else z), A) else none
        | none => none)
      | _, _, _ => none)
    | _, _ => none)
  | _, _, _ => none
def xLookup (P : Program) (ty : TypeId) (x ix : Operand) (commaOk : Bool) (t : T Value) (A : AS) : Res := lookupV P ty commaOk A (aEval P x t) (aEval P ix t)
def mapUpdateV (P : Program) (ty : TypeId) (A : AS) (m k v : Option Value) : Res := match m, k, v, P.underlying ty with
  | some (.map (some r)), some k, some v, some (.map kt _) => (match A.h.get r, closedV k, Nat.ble A.lo r with
    | some (.map es c), true, true => (match pureRun P (Instr.checkKey false 10000 kt k), aFind P kt k es with
      | some _, some none => some (.value undef, A.put r (.map (es ++ [{ key := k, val := v, born := c }]) (c + 1)))
      | some _, some (some (i, _)) => (match es[i]? with
        | some e => bif Instr.sameBits 10000 e.key k then some (.value undef, A.put r (.map (setEntry v k es i) c)) else none
        | none => none)
      | _, _ => none)
    | _, _, _ => none)
  | _, _, _, _ => none
def xMapUpdate (P : Program) (ty : TypeId) (m k x : Operand) (t : T Value) (A : AS) : Res := mapUpdateV P ty A (aEval P m t) (aEval P k t) (aEval P x t)
def extractV (i : Nat) (A : AS) (v : Option Value) : Res := match v with
  | some (.tuple ⟨l⟩) => okA A (nth l i)
  | _ => none
def xExtract (P : Program) (x : Operand) (i : Nat) (t : T Value) (A : AS) : Res := extractV i A (aEval P x t)
def assertV (P : Program) (asserted : TypeId) (commaOk : Bool) (A : AS) (x : Option Value) : Res := match x, P.underlying asserted with
  | some (.iface t v), some d => (match d with
    | .interface _ => none
    | _ => bif Nat.beq t asserted then some (.value (if commaOk then .tuple #[v, .bool true] else v), A) else
      bif commaOk then (match P.info? asserted with
        | some inf => (match inf.zero with | some z => bif closedV z then some (.value (.tuple #[z, .bool false]), A) else none | none => none)
        | none => none) else none)
  | _, _ => none
def xAssert (P : Program) (x : Operand) (asserted : TypeId) (commaOk : Bool) (t : T Value) (A : AS) : Res := assertV P asserted commaOk A (aEval P x t)
def convSlow (P : Program) (o : Oper) (src dst : TypeId) (v : Value) (t : T Value) (A : AS) : Res :=
  bif closedV v then (match aPure P o t A with | some r => some r | none => aConvert P src dst v A) else aConvert P src dst v A
def convInt (P : Program) (src dst : TypeId) (n : Int) (A : AS) : Res := match P.underlying src, P.underlying dst with
  | some _, some (.int k) => some (.value (.int k (fastWrap k n)), A)
  | _, _ => none
def convV (P : Program) (o : Oper) (src dst : TypeId) (t : T Value) (A : AS) (v : Option Value) : Res := match v with
  | some (.int k n) => (match convInt P src dst n A with
    | some r => some r
    | none => convSlow P o src dst (.int k n) t A)
  | some v => convSlow P o src dst v t A
  | none => none
def isSliceD : Option TypeDesc → Bool
  | some (.slice _) => true
  | _ => false
def isStrD : Option TypeDesc → Bool
  | some .string => true
  | _ => false
/-- A string as a row of its own. -/
def strToRow (P : Program) (src dst : TypeId) : Bool := isStrD (P.underlying src) && isSliceD (P.underlying dst)
def newStr (P : Program) (src dst : TypeId) (A : AS) : Option Value → Res
  | some (.string s) => aConvert P src dst (.string s) A
  | _ => none
def xConvert (P : Program) (o : Oper) (src dst : TypeId) (x : Operand) (t : T Value) (A : AS) : Res := bif strToRow P src dst then newStr P src dst A (aEval P x t) else convV P o src dst t A (aEval P x t)
def builtinV (P : Program) (o : Oper) (b : Builtin) (ts : List TypeId) (t : T Value) (A : AS) (args : Option (List Value)) : Res := match args with
  | some args => (match fastBuiltin P b ts args with
    | some v => some (.value v, A)
    | none => (match aPure P o t A with
      | some r => some r
      | none => aBuiltin P b ts args A))
  | none => none
def xBuiltin (P : Program) (o : Oper) (b : Builtin) (c : Call) (t : T Value) (A : AS) : Res := builtinV P o b c.argTypes.toList t A (evals P t c.args.toList)
def callV (P : Program) (A : AS) (f : Option Value) (args : Option (List Value)) : Res := match f, args with
  | some f, some args => aTarget P f args A
  | _, _ => none
def xCallV (P : Program) (f : Operand) (c : Call) (t : T Value) (A : AS) : Res := callV P A (aEval P f t) (evals P t c.args.toList)
def invokeV (P : Program) (name : String) (A : AS) (x : Option Value) (args : Option (List Value)) : Res := match x, args with
  | some (.iface t v), some args => (match methodP P t v name with | some (g, r) => some (.enter g (r :: args), A) | none => none)
  | _, _ => none
def xInvoke (P : Program) (recv : Operand) (name : String) (c : Call) (t : T Value) (A : AS) : Res := invokeV P name A (aEval P recv t) (evals P t c.args.toList)
def xCall (P : Program) (o : Oper) (c : Call) : T Value → AS → Res := match c.callee with
  | .builtin b => xBuiltin P o b c
  | .value f => xCallV P f c
  | .invoke recv name => xInvoke P recv name c
def indexStr (P : Program) (o : Oper) (t : T Value) (A : AS) (v i : Option Value) (d : Option TypeDesc) : Res := match v, i, d with
  | some (.string s), some (.int _ (.ofNat i)), some .string => (match s.data.toList[i]? with
    | some c => some (.value (.int .u8 (.ofNat c.toNat)), A)
    | none => none)
  | _, _, _ => aPure P o t A
def xIndex (P : Program) (o : Oper) (ty : TypeId) (x ix : Operand) (t : T Value) (A : AS) : Res := indexStr P o t A (aEval P x t) (aEval P ix t) (P.underlying ty)
/-- A part of a value's cells. -/
def partV (P : Program) (t : TypeId) (l : List Value) (off : Nat) : Option Value := match isAggP P t with
  | some true => (match sizeP P t with | some n => some (.agg ⟨(l.drop off).take n⟩) | none => none)
  | some false => l[off]?
  | none => none
def fieldOfV (P : Program) (o : Oper) (s : TypeId) (f : Nat) (t : T Value) (A : AS) : Option Value → Res
  | some (.agg cs) => (match P.underlying s with
    | some (.struct fields) => (match fields[f]? with | some fl => okA A (partV P fl.type cs.toList fl.offset) | none => none)
    | _ => none)
  | _ => aPure P o t A
def xFieldOf (P : Program) (o : Oper) (s : TypeId) (x : Operand) (f : Nat) (t : T Value) (A : AS) : Res := fieldOfV P o s f t A (aEval P x t)
def notV (A : AS) (v : Option Value) : Res := match v with
  | some (.bool b) => some (.value (.bool (!b)), A)
  | _ => none
def xUn (P : Program) (o : Oper) (op : UnOp) (x : Operand) : T Value → AS → Res := match op with
  | .not => fun t A => notV A (aEval P x t)
  | _ => aPure P o

/-- An operation. -/
def aOp (P : Program) (o : Oper) : T Value → AS → Res :=
  match o.op with
  | .move x | .assign x => xMove P x
  | .pick c a b => xPick P c a b
  | .alloc e => xAlloc P e
  | .box e x => xBox P e x
  | .build ty parts => xBuild P ty parts
  | .buildSlice ty len parts => xBuildSlice P ty len parts
  | .load ty a => xLoad P ty a
  | .store ty a x => xStore P ty a x
  | .nilCheck x => xNil P x
  | .binOp op ty x y _ => xBin P o op ty x y
  | .makeInterface ty x => xMakeIface P ty x
  | .makeFunc fn first captured => xMakeFunc P fn first captured
  | .makeMap _ none => xMakeMap
  | .makeSlice ty l c => xMakeSlice P ty l c
  | .slice ty x lo hi mx => xSlice P o ty x lo hi mx
  | .fieldAddr s x f => xField P s x f
  | .field s x f => xFieldOf P o s x f
  | .indexAddr ty x ix => xIndexAddr P ty x ix
  | .lookup ty x ix commaOk => xLookup P ty x ix commaOk
  | .mapUpdate ty m k x => xMapUpdate P ty m k x
  | .insert ty m k x => xMapUpdate P ty m k x
  | .range ty x => xRange P ty x
  | .next x isString => xNext P x isString
  | .extract x i => xExtract P x i
  | .typeAssert x _ asserted commaOk => xAssert P x asserted commaOk
  | .convert src dst x => xConvert P o src dst x
  | .call c => xCall P o c
  | .index ty x ix => xIndex P o ty x ix
  | .unOp op _ x => xUn P o op x
  | .select _ _ | .defer _ | .go _ => fun _ _ => none
  | _ => aPure P o

end
end Go.Eng

namespace Go.Eng
open Go
noncomputable section

inductive Ex where
  | normal
  | exit (id : Nat)
  | ret

/-- What a frame has put off: the mark of a loop over a function, a call. -/
inductive Dfr where
  | mark (b : Nat)
  | call (f : FuncId) (args : List Value)

/-- The state of a frame: its slots, how many, the blocks of its deferred calls, the round that it is. -/
structure Fm where
  t : T Value
  n : Nat
  ds : List Dfr
  rd : Option Nat

inductive Task where
  | code (c : Code) (F : Fm) (A : AS)
  | call (f : FuncId) (args : List Value) (A : AS)
  | yield (l : Nat) (args : List Value) (A : AS)

inductive Out where
  | code (e : Ex) (F : Fm) (A : AS)
  | val (v : Value) (A : AS)
  | none

def putSome (t : T Value) (d : Nat) (v : Value) : Bool → Option (T Value)
  | true => some (t.set d v)
  | false => none
def putT (t : T Value) (n : Nat) (dst : Option Tmp) (v : Value) : Option (T Value) := match dst with
  | none => some t
  | some d => putSome t d v (Nat.blt d n)

def isBool (w : Bool) : Option Value → Option Bool
  | some (.bool b) => some (b == w)
  | some _ => some false
  | none => none
def wantedA (ops : Array Oper) (o : Oper) : T Value → Option Bool := match o.guard with
  | none => fun _ => some true
  | some (j, w) => (match (ops[j]?).bind (·.dst) with
    | some d => fun t => isBool w (t.get d)
    | none => fun _ => none)

structure Kn where
  kn : FuncId → List Value → Option Value
  ne : FuncId
  mz : FuncId
  u8 : TypeId
  km : FuncId → List Value → AS → Option (Value × AS) := fun _ _ _ => none
  kc : Code → Fm → AS → Option (Ex × Fm × AS) := fun _ _ _ => none

/-- What comes of an operation: its value. -/
def valOf : Out → Option (Value × AS)
  | .val v A => some (v, A)
  | _ => none
def afterOp (ih : Task → Out) : Res → Option (Value × AS)
  | some (.value v, A') => some (v, A')
  | some (.enter f args, A') => valOf (ih (.call f args A'))
  | some (.yield l args, A') => valOf (ih (.yield l args A'))
  | none => none
def opVal (P : Program) (ih : Task → Out) (o : Oper) (t : T Value) (A : AS) : Option (Value × AS) := afterOp ih (aOp P o t A)

/-- Is it a recover? (None panics: it gives nil.) -/
def isRecover (P : Program) (o : Oper) : Bool := match o.op with
  | .call c => (match c.callee with | .builtin .recover => P.follows .rangeFuncRecover | _ => false)
  | _ => false
def recThen (r : Option (Value × AS)) (A : AS) : Bool → Option (Value × AS)
  | true => some (.nilIface, A)
  | false => r
def opValR (P : Program) (ih : Task → Out) (o : Oper) (t : T Value) (A : AS) : Option (Value × AS) := recThen (opVal P ih o t A) A (isRecover P o)

def putThen (rec_ : T Value → AS → Option (T Value × AS)) (A : AS) : Option (T Value) → Option (T Value × AS)
  | some t => rec_ t A
  | none => none
def valThen (n : Nat) (t : T Value) (dst : Option Tmp) (rec_ : T Value → AS → Option (T Value × AS)) : Option (Value × AS) → Option (T Value × AS)
  | some (v, A) => putThen rec_ A (putT t n dst v)
  | none => none
def opThen (P : Program) (ih : Task → Out) (n : Nat) (o : Oper) (rec_ : T Value → AS → Option (T Value × AS)) (t : T Value) (A : AS) : Option Bool → Option (T Value × AS)
  | some true => valThen n t o.dst rec_ (opValR P ih o t A)
  | some false => putThen rec_ A (putT t n o.dst undef)
  | none => none
def runOps (P : Program) (ih : Task → Out) (ops : Array Oper) (n : Nat) (l : List Oper) : T Value → AS → Option (T Value × AS) :=
  List.rec (motive := fun _ => T Value → AS → Option (T Value × AS)) (fun t A => some (t, A))
    (fun o _ rec_ t A => opThen P ih n o rec_ t A (wantedA ops o t)) l
--def runOps (P : Program) (ih : Task → Out) (ops : Array Oper) (n : Nat) : List Oper → T Value → AS → Option (T Value × AS)
--  | [], t, A => some (t, A)
--  | o :: l, t, A => opThen P ih n o (runOps P ih ops n l) t A (wantedA ops o t)

/-! Drawn regions. -/
/-- Acts an operation on memory that others may see? -/
def actsOn (P : Program) (o : Oper) : Bool := match o.op with
  | .call c => (match c.callee with
    | .builtin b => (match b with | .len | .cap | .max | .min | .unsafeSliceData => false | _ => true)
    | _ => true)
  | .store .. | .mapUpdate .. | .insert .. | .range .. | .next .. => true
  | .convert src dst _ => isSliceD (P.underlying dst) && !isStrD (P.underlying src)
  | _ => false
/-- Makes it memory of its own? -/
def makesMem (P : Program) (o : Oper) : Bool := match o.op with
  | .alloc _ | .box .. | .buildSlice .. | .makeSlice .. => true
  | .makeMap _ none => true
  | .convert src dst _ => strToRow P src dst
  | _ => false

def tb (m i : Nat) : Bool := Nat.beq (Nat.land (Nat.shiftRight m i) 1) 1

/-- What is known of an operation of a drawn region: what it looks at, what comes ahead of it. -/
structure RI where
  o : Oper
  i : Nat
  bef : Nat
  looks : List Tmp

/-- Who writes each slot. -/
def writers : List Oper → Nat → T Nat → Option (T Nat)
  | [], _, W => some W
  | o :: l, i, W => match o.dst with
    | none => writers l (i + 1) W
    | some d => bif Nat.blt d (2 ^ 60) then (match W.get d with
      | some _ => none
      | none => writers l (i + 1) (W.set d i)) else none
def getN (B : T Nat) (i : Nat) : Nat := match B.get i with | some m => m | none => 0
def befOf (B : T Nat) : List Edge → Nat → Nat
  | [], m => m
  | e :: l, m => bif Region.binds .any e then befOf B l (Nat.lor (Nat.lor m (Nat.shiftLeft 1 e.on)) (getN B e.on)) else befOf B l m
def befs : List Oper → Nat → T Nat → T Nat
  | [], _, B => B
  | o :: l, i, B => befs l (i + 1) (B.set i (befOf B o.after.toList 0))
/-- Is each slot that is looked at written ahead, or behind, or by none? -/
def lookOk (W B : T Nat) (bef i : Nat) : List Tmp → Bool
  | [] => true
  | t :: l => (match W.get t with
    | none => true
    | some j => tb bef j || Nat.beq j i || tb (getN B j) i) && lookOk W B bef i l
def infos (ops : Array Oper) (W B : T Nat) : List Oper → Nat → Option (List RI)
  | [], _ => some []
  | o :: l, i => bif lookOk W B (getN B i) i (o.looksAt ops) then
      (match infos ops W B l (i + 1) with
      | some r => some (⟨o, i, getN B i, o.looksAt ops⟩ :: r)
      | none => none) else none
/-- An order of them: whatever does not act comes as soon as it may. -/
def subMask (m done : Nat) : Bool := Nat.beq (Nat.land m done) m
/-- One pass: what may come now and does not act comes (in its order); the rest waits. -/
def takeReady (act : Oper → Bool) : List RI → Nat → List RI × List RI × Nat
  | [], done => ([], [], done)
  | r :: l, done =>
    bif !act r.o && subMask r.bef done then (match takeReady act l (Nat.lor done (Nat.shiftLeft 1 r.i)) with | (a, b, d) => (r :: a, b, d))
    else (match takeReady act l done with | (a, b, d) => (a, r :: b, d))
def takeAct (act : Oper → Bool) : List RI → Nat → Option (RI × List RI)
  | [], _ => none
  | r :: l, done => bif act r.o && subMask r.bef done then some (r, l) else (match takeAct act l done with | some (x, m) => some (x, r :: m) | none => none)
def greedy (act : Oper → Bool) : Nat → List RI → Nat → List RI
  | 0, l, _ => l
  | f + 1, l, done => match takeReady act l done with
    | ([], rest, d) => (match takeAct act rest d with
      | some (x, m) => x :: greedy act f m (Nat.lor d (Nat.shiftLeft 1 x.i))
      | none => rest)
    | (a, rest, d) => a ++ greedy act f rest d
def regInfo (P : Program) (ops : Array Oper) : Option (T Nat × List RI) :=
  match writers ops.toList 0 .leaf with
  | some W => (match infos ops W (befs ops.toList 0 .leaf) ops.toList 0 with
    | some l => some (befs ops.toList 0 .leaf, greedy (actsOn P) (2 * ops.size + 2) l 0)
    | none => none)
  | none => none

/-- Only the slots that are looked at. -/
def restrictTo (t : T Value) : List Tmp → T Value
  | [] => .leaf
  | x :: l => (match t.get x with
    | some v => (restrictTo t l).set x v
    | none => restrictTo t l)

structure Dr where
  t : T Value
  A : AS
  done : Nat          -- the operations so far
  gaps : List AS      -- the states ahead of the acts, the last first
  acts : List Nat     -- the acts, the last first
  mks : List Nat      -- the operations that made memory and that no act waited for so far
  looks : List (RI × T Value × Value)

def actAfter (acts : List Nat) (bef : Nat) : Bool := match acts with
  | j :: _ => tb bef j
  | [] => true
/-- Blocks put aside. -/
def hide (n0 : Nat) : List Nat → AS → Option (AS × List (Nat × AObj))
  | [], A => some (A, [])
  | i :: l, A => match A.h.get (n0 + i) with
    | some o => (match hide n0 l (A.kill (n0 + i)) with
      | some (A', s) => some (A', (n0 + i, o) :: s)
      | none => none)
    | none => none
def unhide : List (Nat × AObj) → AS → AS
  | [], A => A
  | x :: l, A => (unhide l A).put x.1 x.2
def putDr (D : Dr) (n : Nat) (dst : Option Tmp) (v : Value) (f : T Value → Dr) : Option Dr := match putT D.t n dst v with
  | some t => some (f t)
  | none => none
def bit (D : Dr) (r : RI) : Nat := Nat.lor D.done (Nat.shiftLeft 1 r.i)
def drawAct (P : Program) (ih : Task → Out) (n n0 : Nat) (r : RI) (tr : T Value) (D : Dr) : Option Dr :=
  bif actAfter D.acts r.bef then
    (match hide n0 (D.mks.filter (fun i => !tb r.bef i)) D.A with
    | some (A1, saved) => (match opVal P ih r.o tr A1 with
      | some (v, A') => putDr D n r.o.dst v fun t => ⟨t, unhide saved A', bit D r, D.A :: D.gaps, r.i :: D.acts, D.mks.filter (fun i => !tb r.bef i), D.looks⟩
      | none => none)
    | none => none)
  else none
def drawMake (P : Program) (n n0 : Nat) (r : RI) (tr : T Value) (D : Dr) : Option Dr :=
  bif actAfter D.acts r.bef then
    (match aOp P r.o tr ⟨D.A.h, n0 + r.i, D.A.lo⟩ with
    | some (.value v, A') => (match A'.h.get (n0 + r.i) with
      | some ob => putDr D n r.o.dst v fun t => ⟨t, D.A.put (n0 + r.i) ob, bit D r, D.gaps, D.acts, r.i :: D.mks, D.looks⟩
      | none => none)
    | _ => none)
  else none
def drawLook (P : Program) (n : Nat) (r : RI) (tr : T Value) (D : Dr) : Option Dr :=
  match aOp P r.o tr D.A with
  | some (.value v, _) => putDr D n r.o.dst v fun t => ⟨t, D.A, bit D r, D.gaps, D.acts, D.mks, (r, tr, v) :: D.looks⟩
  | _ => none
def drawWant (P : Program) (ih : Task → Out) (n n0 : Nat) (r : RI) (tr : T Value) (D : Dr) : Option Bool → Option Dr
  | some false => putDr D n r.o.dst undef fun t => ⟨t, D.A, bit D r, D.gaps, D.acts, D.mks, D.looks⟩
  | some true => bif actsOn P r.o then drawAct P ih n n0 r tr D else bif makesMem P r.o then drawMake P n n0 r tr D else drawLook P n r tr D
  | none => none
def drawStep (P : Program) (ih : Task → Out) (ops : Array Oper) (n n0 : Nat) (r : RI) (D : Dr) : Option Dr :=
  bif subMask r.bef D.done && !tb D.done r.i then
    drawWant P ih n n0 r (restrictTo D.t r.looks) D (wantedA ops r.o (restrictTo D.t r.looks))
  else none
def drawAll (P : Program) (ih : Task → Out) (ops : Array Oper) (n n0 : Nat) : List RI → Dr → Option Dr
  | [], D => some D
  | r :: l, D => match drawStep P ih ops n n0 r D with
    | some D' => drawAll P ih ops n n0 l D'
    | none => none

/-- The same value at each gap that is open to it: gaps and acts run from the last to the first. -/
def sameHere (P : Program) (tr : T Value) (o : Oper) (v : Value) (A : AS) : Bool := match aOp P o tr A with
  | some (.value u, _) => beqV u v
  | _ => false
def sameAt (P : Program) (tr : T Value) (B : T Nat) (r : RI) (v : Value) : List AS → List Nat → Bool
  | A :: gaps, acts =>
    (acts.any (fun j => tb (getN B j) r.i) || sameHere P tr r.o v A) &&
    (match acts with
    | j :: acts' => tb r.bef j || sameAt P tr B r v gaps acts'
    | [] => true)
  | [], _ => true

def runDraw (P : Program) (ih : Task → Out) (ops : Array Oper) (n : Nat) (t : T Value) (A : AS) : Option (T Value × AS) :=
  match regInfo P ops with
  | some (B, rs) =>
    (match drawAll P ih ops n A.nx rs ⟨t, ⟨A.h, A.nx + ops.size, A.lo⟩, 0, [], [], [], []⟩ with
    | some D => bif Nat.ble ops.size 4096 && Nat.beq (Nat.add D.done 1) (Nat.shiftLeft 1 ops.size) && D.looks.all (fun x => sameAt P x.2.1 B x.1 x.2.2 (D.A :: D.gaps) D.acts) then some (D.t, D.A) else none
    | none => none)
  | none => none

def setArgs (n : Nat) : T Value → List Tmp → List Value → Option (T Value)
  | t, [], [] => some t
  | t, p :: ps, v :: vs => bif Nat.blt p n then setArgs n (t.set p v) ps vs else none
  | _, _, _ => none

def aResults (P : Program) (F : Fm) (A : AS) : List ResultVar → Option (List Value)
  | [] => some []
  | .tmp t :: l => (match F.t.get t, aResults P F A l with | some v, some vs => some (v :: vs) | _, _ => none)
  | .cell a ty :: l => (match F.t.get a with
    | some p => (match aLoad P ty p A, aResults P F A l with | some v, some vs => some (v :: vs) | _, _ => none)
    | none => none)

abbrev Ih := Task → Out
abbrev CodeStep := Ih → Fm → AS → Out
/-- The results of a frame that closes nothing. -/
def dEnd (P : Program) (rs : List ResultVar) (F : Fm) (A : AS) : Option AS := match F.ds, aResults P F A rs with
  | [], some _ => some A
  | _, _ => none
def dDone (P : Program) (rs : List ResultVar) : Out → Option AS
  | .code .normal F A => dEnd P rs F A
  | .code .ret F A => dEnd P rs F A
  | _ => none
/-- A call that was put off. -/
def dCall (P : Program) (ih : Ih) (f : FuncId) (args : List Value) (A : AS) : Option AS := match P.funcs[f]? with
  | some fn => (match fn.body with
    | some c => (match fn.name == "runtime.NumGoroutine" with
      | false => dDone P fn.results.toList (ih (.code c ⟨T.setAll .leaf 0 args, args.length + (fn.ntmps - args.length), [], none⟩ A))
      | true => none)
    | none => none)
  | none => none
def closeAll (P : Program) (ih : Ih) : List Dfr → AS → Option AS
  | [], A => some A
  | .mark d :: l, A => (match A.h.get d with
    | some (.deferred true) => bif Nat.ble A.lo d then closeAll P ih l (A.put d (.deferred false)) else none
    | _ => none)
  | .call f args :: l, A => (match dCall P ih f args A with
    | some A1 => closeAll P ih l A1
    | none => none)
def regDone : Option (Fm × AS) → Out
  | some (F, A) => .code .normal F A
  | none => .none
def regThen (ih : Ih) (b : Code) : Option (Fm × AS) → Out
  | some (F, A) => ih (.code b F A)
  | none => .none
def runReg (P : Program) (ops : Array Oper) (draw : Bool) : Ih → Fm → AS → Option (T Value × AS) := match draw with
  | true => fun ih F A => runDraw P ih ops F.n F.t A
  | false => fun ih F A => runOps P ih ops F.n ops.toList F.t A
/-- A region that ends by putting a call off. -/
def splitLast : List Oper → Option (List Oper × Oper)
  | [] => none
  | [o] => some ([], o)
  | o :: l => (match splitLast l with | some (a, b) => some (o :: a, b) | none => none)
def deferLast (ops : Array Oper) : Option (List Oper × Oper × Operand × List Operand) := match splitLast ops.toList with
  | some (l, o) => (match o.op, o.guard with
    | .defer c, none => (match c.callee with
      | .value f => some (l, o, f, c.args.toList)
      | _ => none)
    | _, _ => none)
  | none => none
def deferPut (F : Fm) (A : AS) (dst : Option Tmp) (t : T Value) : Option Value → Option (List Value) → Option Nat → Option (Fm × AS)
  | some (.func (.func g) first cap), some as, none => (match putT t F.n dst undef with
    | some t2 => some (⟨t2, F.n, .call g (first.toList ++ as ++ cap.toList) :: F.ds, F.rd⟩, A)
    | none => none)
  | _, _, _ => none
def deferThen (P : Program) (F : Fm) (o : Oper) (f : Operand) (as : List Operand) : Option (T Value × AS) → Option (Fm × AS)
  | some (t, A) => deferPut F A o.dst t (aEval P f t) (evals P t as) F.rd
  | none => none
def regPlain (F : Fm) : Option (T Value × AS) → Option (Fm × AS)
  | some (t, A) => some (⟨t, F.n, F.ds, F.rd⟩, A)
  | none => none
def regD (P : Program) (ops : Array Oper) (ih : Ih) (F : Fm) (A : AS) : Option (List Oper × Oper × Operand × List Operand) → Option (Fm × AS)
  | some (l, o, f, as) => deferThen P F o f as (runOps P ih ops F.n l F.t A)
  | none => regPlain F (runReg P ops false ih F A)
def cReg (P : Program) (ops : Array Oper) (draw : Bool) : Ih → Fm → AS → Option (Fm × AS) := match draw with
  | true => fun ih F A => regPlain F (runReg P ops true ih F A)
  | false => fun ih F A => regD P ops ih F A (deferLast ops)
def seqThen (ih : Ih) (b : Code) : Out → Out
  | .code .normal F A => ih (.code b F A)
  | r => r
def condThen (ih : Ih) (a b : Code) (F : Fm) (A : AS) : Option Value → Out
  | some (.bool true) => ih (.code a F A)
  | some (.bool false) => ih (.code b F A)
  | _ => .none
def blockThen (id : Nat) : Out → Out
  | .code (.exit j) F A => bif Nat.beq j id then .code .normal F A else .code (.exit j) F A
  | r => r
def cSeq (P : Program) (a b : Code) : CodeStep := match a with
  | .region _ ops draw => fun ih F A => regThen ih b (cReg P ops draw ih F A)
  | a => fun ih F A => seqThen ih b (ih (.code a F A))
def ranged (ih : Ih) (F : Fm) (D L : Nat) : Out → Out
  | .val _ A3 => (match A3.h.get L with
    | some (.loop st pending tm n ps as_ b_ d_) =>
      (match st with
      | .busy => .none
      | _ => (match pending with
        | none => .code .normal ⟨F.t, F.n, .mark D :: F.ds, F.rd⟩ (A3.put L (.loop .exhausted none tm n ps as_ b_ d_))
        | some c => ih (.code c ⟨F.t, F.n, .mark D :: F.ds, F.rd⟩ (A3.put L (.loop .exhausted (some c) tm n ps as_ b_ d_)))))
    | _ => .none)
  | _ => .none
def cRange (P : Program) (f : Operand) (params : Array Tmp) (assign body : Code) (ih : Ih) (F : Fm) (A : AS) : Out :=
  match F.rd, aEval P f F.t with
  | none, some (.func (.func g) first cap) =>
    ranged ih F A.nx (A.nx + 1) (ih (.call g (first.toList ++ [.func (.yield (A.nx + 1)) #[] #[]] ++ cap.toList)
      ((A.new (.deferred true)).new (.loop .ready none F.t F.n params.toList assign body A.nx))))
  | _, _ => .none
def codeStep (P : Program) (c : Code) : CodeStep := match c with
  | .skip => fun _ F A => .code .normal F A
  | .label _ => fun _ F A => .code .normal F A
  | .region _ ops draw => fun ih F A => regDone (cReg P ops draw ih F A)
  | .seq a b => cSeq P a b
  | .cond c a b => fun ih F A => condThen ih a b F A (aEval P c F.t)
  | .block id b => fun ih F A => blockThen id (ih (.code b F A))
  | .loop b => fun ih F A => seqThen ih (.loop b) (ih (.code b F A))
  | .scope b => fun ih F A => ih (.code b F A)
  | .exit id => fun _ F A => .code (.exit id) F A
  | .ret => fun _ F A => .code .ret F A
  | .rangeFunc f params assign body => cRange P f params assign body
  | _ => fun _ _ _ => .none
def roundEnd (l : Nat) : Out → Out
  | .code e _ A2 => (match A2.h.get l with
    | some (.loop _ _ tm2 n2 ps2 as2 bo2 d2) => (match e with
      | .normal => .val (.bool true) (A2.put l (.loop .ready none tm2 n2 ps2 as2 bo2 d2))
      | .ret => .val (.bool false) (A2.put l (.loop .done (some .ret) tm2 n2 ps2 as2 bo2 d2))
      | .exit id => .val (.bool false) (A2.put l (.loop .done (some (.exit id)) tm2 n2 ps2 as2 bo2 d2)))
    | _ => .none)
  | _ => .none
def roundBody (ih : Ih) (l : Nat) (body : Code) : Out → Out
  | .code .normal F A1 => (match A1.h.get l with
    | some (.loop .ready pe1 tm1 n1 ps1 as1 bo1 d1) => roundEnd l (ih (.code body F (A1.put l (.loop .busy pe1 tm1 n1 ps1 as1 bo1 d1))))
    | _ => .none)
  | _ => .none
def yieldStep (ih : Ih) (l : Nat) (args : List Value) (A : AS) : Out := bif Nat.ble A.lo l then (match A.h.get l with
  | some (.loop .ready _ tm n ps assign body _) => (match setArgs n tm ps args with
    | some t => roundBody ih l body (ih (.code assign ⟨t, n, [], some l⟩ A))
    | none => .none)
  | _ => .none) else .none
def resVal (A : AS) : Option (List Value) → Out
  | some [v] => .val v A
  | some vs => .val (.tuple ⟨vs⟩) A
  | none => .none
def callEnd (P : Program) (rs : List ResultVar) (F : Fm) : Option AS → Out
  | some A2 => resVal A2 (aResults P F A2 rs)
  | none => .none
def callDone (P : Program) (ih : Ih) (rs : List ResultVar) : Out → Out
  | .code (.exit _) _ _ => .none
  | .code _ F A1 => callEnd P rs F (closeAll P ih F.ds A1)
  | _ => .none
def extCall (P : Program) (kn : Kn) (f : FuncId) (args : List Value) (A : AS) : Out :=
  bif Nat.beq f kn.mz then (match args with
    | [.int .i64 (.ofNat n)] => bif Nat.ble n (2 ^ 40) then .val (.slice (some ⟨A.nx, 0, none⟩) n n) (A.new (.cells .leaf n [] 1 kn.u8 (0, 0))) else .none
    | _ => .none)
  else bif Nat.beq f kn.ne then (match args with | [x] => .val x A | _ => .none)
  else bif closedVs args then (match pureRun P (callFunc f ⟨args⟩) with
    | some (.value v) => bif closedV v then .val v A else .none
    | _ => .none) else .none
/-- A function of the program. -/
def fnStep (P : Program) (kn : Kn) (f : FuncId) : Ih → List Value → AS → Out := match P.funcs[f]? with
  | some fn => (match fn.body with
    | some c => (match fn.name == "runtime.NumGoroutine" with
      | false => fun ih args A => callDone P ih fn.results.toList (ih (.code c ⟨T.setAll .leaf 0 args, args.length + (fn.ntmps - args.length), [], none⟩ A))
      | true => fun _ _ _ => .none)
    | none => fun _ args A => extCall P kn f args A)
  | none => fun _ _ _ => .none
def kmStep (P : Program) (kn : Kn) (f : FuncId) (ih : Ih) (args : List Value) (A : AS) : Option (Value × AS) → Out
  | some (v, A1) => .val v A1
  | none => fnStep P kn f ih args A
def callStep (P : Program) (kn : Kn) (f : FuncId) (ih : Ih) (args : List Value) (A : AS) : Option Value → Out
  | some v => .val v A
  | none => kmStep P kn f ih args A (kn.km f args A)
def kcThen (P : Program) (c : Code) (ih : Ih) (F : Fm) (A : AS) : Option (Ex × Fm × AS) → Out
  | some (e, F1, A1) => .code e F1 A1
  | none => codeStep P c ih F A
def step (P : Program) (kn : Kn) (ih : Ih) : Task → Out
  | .code c F A => kcThen P c ih F A (kn.kc c F A)
  | .yield l args A => yieldStep ih l args A
  | .call f args A => callStep P kn f ih args A (kn.kn f args)

def ev (P : Program) (kn : Kn) (n : Nat) : Task → Out :=
  Nat.rec (motive := fun _ => Task → Out) (fun _ => .none) (fun _ ih => step P kn ih) n
--def ev (P : Program) (kn : Kn) : Nat → Task → Out
--  | 0, _ => .none
--  | n + 1, k => step P kn (ev P kn n) k

end
end Go.Eng
