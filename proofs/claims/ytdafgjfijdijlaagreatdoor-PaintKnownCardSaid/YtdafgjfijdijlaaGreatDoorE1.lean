/- Part of an abstract machine that runs the program's code in Lean's kernel, and of the proof that what it answers every run of the model answers (Go.Eng; program-independent). No condition. -/
import GoSem.Step
import Derived.Tactics
namespace Go.Eng
open Go
noncomputable section

/-! A trie keyed by numbers. -/
inductive T (α : Type) where
  | leaf
  | node (l : T α) (v : Option α) (r : T α)

namespace T
variable {α : Type}
noncomputable def get (t : T α) : Nat → Option α :=
  T.rec (motive := fun _ => Nat → Option α) (fun _ => none)
    (fun _ v _ gl gr k => Nat.rec (motive := fun _ => Option α) v (fun k' _ => Bool.rec (motive := fun _ => Option α) (gr (Nat.div k' 2)) (gl (Nat.div k' 2)) (Nat.beq (Nat.mod k' 2) 0)) k) t
noncomputable def single (o : Option α) (n : Nat) : Nat → T α :=
  Nat.rec (motive := fun _ => Nat → T α) (fun _ => .leaf)
    (fun _ ih k => Nat.rec (motive := fun _ => T α) (.node .leaf o .leaf) (fun k' _ => Bool.rec (motive := fun _ => T α) (.node .leaf none (ih (Nat.div k' 2))) (.node (ih (Nat.div k' 2)) none .leaf) (Nat.beq (Nat.mod k' 2) 0)) k) n
noncomputable def put (t : T α) (o : Option α) : Nat → T α :=
  T.rec (motive := fun _ => Nat → T α) (single o 64)
    (fun l v r gl gr k => Nat.rec (motive := fun _ => T α) (.node l o r) (fun k' _ => Bool.rec (motive := fun _ => T α) (.node l v (gr (Nat.div k' 2))) (.node (gl (Nat.div k' 2)) v r) (Nat.beq (Nat.mod k' 2) 0)) k) t
--def get : T α → Nat → Option α
--  | .leaf, _ => none
--  | .node l v r, k =>
--    match k with
--    | 0 => v
--    | k' + 1 => bif Nat.beq (Nat.mod k' 2) 0 then l.get (Nat.div k' 2) else r.get (Nat.div k' 2)
--def single (o : Option α) : Nat → Nat → T α
--  | 0, _ => .leaf
--  | n + 1, k => match k with
--    | 0 => .node .leaf o .leaf
--    | k' + 1 => bif Nat.beq (Nat.mod k' 2) 0 then .node (single o n (Nat.div k' 2)) none .leaf else .node .leaf none (single o n (Nat.div k' 2))
--def put : T α → Option α → Nat → T α
--  | .leaf, o, k => single o 64 k
--  | .node l v r, o, k =>
--      (match k with
--      | 0 => .node l o r
--      | k' + 1 => bif Nat.beq (Nat.mod k' 2) 0 then .node (put l o (Nat.div k' 2)) v r else .node l v (put r o (Nat.div k' 2)))
def set (t : T α) (k : Nat) (v : α) : T α := put t (some v) k
def del (t : T α) (k : Nat) : T α := put t none k
/-- The values of a list, from the place i on. -/
def setAll : T α → Nat → List α → T α
  | t, _, [] => t
  | t, i, v :: l => setAll (t.set i v) (i + 1) l
/-- n values from the place i on. -/
def take (t : Nat → Option α) : Nat → Nat → Option (List α)
  | 0, _ => some []
  | n + 1, i => match t i with
    | some v => (match take t n (i + 1) with
      | some l => some (v :: l)
      | none => none)
    | none => none
end T

mutual
/-- A value that holds no address. -/
def closedV : Value → Bool
  | .bool _ | .int _ _ | .float _ _ | .complex _ _ _ | .string _ | .nilFunc | .nilIface => true
  | .pointer a => a.isNone
  | .slice a _ _ => a.isNone
  | .map r => r.isNone
  | .chan r => r.isNone
  | .func fn ⟨a⟩ ⟨b⟩ => (match fn with | .yield _ => false | _ => true) && closedVs a && closedVs b
  | .iface _ v => closedV v
  | .agg ⟨l⟩ => closedVs l
  | .tuple ⟨l⟩ => closedVs l
termination_by structural v => v
def closedVs : List Value → Bool
  | [] => true
  | v :: l => closedV v && closedVs l
termination_by structural l => l
end
end
end Go.Eng
