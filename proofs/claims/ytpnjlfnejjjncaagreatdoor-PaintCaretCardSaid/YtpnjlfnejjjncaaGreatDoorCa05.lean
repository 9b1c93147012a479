/-
  The abstract machine at this program: no known call; internal/abi.NoEscape and internal/bytealg.MakeNoZero.
-/
import Derived.Test.YtpnjlfnejjjncaaGreatDoorProg
import Derived.KernelRfl
import Derived.Test.YtpnjlfnejjjncaaGreatDoorCa04
import Derived.Lib.MakeNoZero
import Derived.Laws.Externs
set_option linter.unusedVariables false
set_option linter.unusedSimpArgs false
set_option linter.unusedSectionVars false
namespace Go.Eng
open Go Go.Proofs
variable [Env]
set_option maxRecDepth 100000
noncomputable def kn0 : Kn := { kn := fun _ _ => none, ne := 279, mz := 280, u8 := 5 }
theorem ne_run (x : Value) (W : World) : (callFunc 279 ⟨[x]⟩).run Tryz.prog W = .ok (.value x) W := by kernel_rfl
theorem mz_run (n : Nat) (W : World) (hn : n ≤ 2 ^ 40) : ∃ cap cells W1, (callFunc 280 ⟨[.int .i64 n]⟩).run Tryz.prog W = .ok (.value (.slice (some ⟨W.heap.size, 0, none⟩) n cap)) W1 ∧ W1.heap = W.heap.push (.cells cells 5) ∧ cells.size = cap ∧ n ≤ cap ∧ Rest W W1 := by
  obtain ⟨cs, hrun, hle, _⟩ := Lib.run_makeNoZero (P := Tryz.prog) W #[3] 23 5 Tryz.underlying23 n (Nat.le_trans hn (by decide))
  refine ⟨cs.size, cs, W.drew.drew.alloc (.cells cs 5), ?_, rfl, rfl, hle, rfl, rfl, rfl⟩
  rw [show (⟨[.int .i64 n]⟩ : Array Value) = #[.int .i64 n] from rfl, run_callFunc_extern Tryz.func280 (by kernel_rfl) (by kernel_rfl) (by kernel_rfl) (e := Extern.BytealgMakeNoZero.makeNoZero #[3] #[23]) (by kernel_rfl), hrun]
  rfl
theorem kn0_ok : KnOK Tryz.prog kn0 := by
  refine ⟨fun f args v h => ?_, fun f args A v A1 h => ?_, fun fn _ _ x W => ne_run x W, fun fn _ _ n W hn => mz_run n W hn, fun c F A e F1 A1 h => ?_⟩
  · simp [kn0] at h
  · simp [kn0] at h
  · simp [kn0] at h
theorem mixed : Tryz.prog.follows .mixedOrders = true := by kernel_rfl
end Go.Eng
/-
  frescolaw20.alone at an input of one row, by the abstract machine: the calls that are known by contracts by hand (draw, a picture's row, cursor), what is asked of a run. No condition.
-/
namespace Go.Proofs.YtpnjlfnejjjncaaGreatDoor

/-- The cells of an input. -/
def inpL : List Value := [.int .i8 7, .string ⟨#[]⟩, .string ⟨#[]⟩, .slice none 0 0, .int .i8 0, .int .i64 0, .int .i64 0, .int .i64 0, .int .i64 0, .int .i8 0, .int .i64 0, .int .i64 0, .int .i64 0, .int .i64 0, .int .i64 0, .int .i64 0, .int .i64 0, .int .i64 0, .int .i64 0, .int .i8 0, .int .i8 0, .int .i8 0, .string ⟨#[]⟩, .int .i8 0, .int .i32 0, .int .i32 0, .int .u8 0, .int .u8 0, .slice none 0 0, .int .i64 0, .int .i64 0, .int .i64 0, .int .i64 0, .int .u8 0]
/-- The cells of a box of one row. -/
def rectL (n : Nat) : List Value := [.int .i64 0, .int .i64 0, .int .i64 n, .int .i64 1]
def boxL (n : Nat) : List Value := [.int .i64 0, .int .i64 0, .int .i64 n, .int .i64 1, .int .i64 0, .int .i64 0, .int .i64 n, .int .i64 1, .int .i64 0, .int .i64 0, .int .i64 n, .int .i64 1, .int .i64 0, .int .i64 0, .int .i64 n, .int .i64 1, .int .i64 0, .int .i64 0]
/-- The cells of a picture. -/
def picL (L oL cL n : Nat) : List Value := [.iface 142 (.slice (some ⟨L, oL, none⟩) 1 cL), .int .i64 0, .int .i64 0, .int .i64 n, .int .i64 1, .int .i64 0, .int .i64 0, .int .i64 n, .int .i64 1, .int .i64 0, .int .i64 0, .int .i64 n, .int .i64 1, .int .i64 0, .int .i64 0, .int .i64 n, .int .i64 1, .int .i64 0, .int .i64 0, .int .i32 0, .int .i32 0, .int .u8 0, .int .i8 0, .int .i64 0]
/-- A value that is known by its name alone: 0 the text, 1 the caret, 2 what is shown of the text, 3 the caret's column, from 10 on the row's texts. -/
def tokV (k : Nat) : Value := .chan (some k)
def cel10 (i : Nat) : List Value := [tokV (10 + i), .int .i8 1, .int .i32 0, .int .i32 0, .int .u8 0]
/-- The cells of so many columns from the column i on. -/
def cels : Nat → Nat → List Value
  | 0, _ => []
  | n + 1, i => cel10 i ++ cels n (i + 1)
def zerosL : Nat → List Value
  | 0 => []
  | n + 1 => .int .i64 0 :: zerosL n
open Go.Eng
def styL : List Value := [.int .i32 0, .int .i32 0, .int .u8 0]
/-- What draw looks at, where alone calls it. -/
def dNeed (n : Nat) : List (Nat × Blk) := [(24, .cells inpL 34 34 39 0 0), (85, .cells (boxL n) 18 18 76 0 0), (451, .cells styL 3 3 59 0 0), (20, .cells [.int .i64 0, tokV 0, tokV 1] 3 1 41 0 0)]
def dShown : Nat × Blk := (992, .cells [tokV 2] 1 1 9 0 0)
/-- draw's call, as alone makes it. -/
noncomputable def entD (n : Nat) : Ent := ⟨[.agg ⟨[.slice (some ⟨24, 0, none⟩) 1 1]⟩, .slice (some ⟨85, 0, none⟩) 1 1, .slice (some ⟨451, 0, none⟩) 1 1, .agg ⟨[.int .i64 0, .slice (some ⟨20, 0, none⟩) 1 1]⟩, .int .i64 0], 941, dNeed n, .agg ⟨picL 992 0 1 n⟩, 993, dNeed n ++ [dShown]⟩
noncomputable def kmDraw (n : Nat) (args : List Value) (A : AS) : Option (Value × AS) := kmLook 21 [entD n] args A
noncomputable def kmRow (n : Nat) (args : List Value) (A : AS) : Option (Value × AS) := match args with
  | [.agg ⟨.iface t sl :: l⟩, y] => (match slN 1 sl with
    | some (b, o) => bif beqV y (.int .i64 0) && Nat.beq t 142 && beqVs l (picL 0 0 0 n).tail && cellsAre A b o [tokV 2] then some (.slice (some ⟨A.nx, 0, none⟩) n n, A.new (rowA (cels n 0) 5 62)) else none
    | none => none)
  | _ => none
noncomputable def putQ (b o : Nat) (v : Value) : Option AS → Option AS
  | some A => aPutCells b o [v] A
  | none => none
noncomputable def curEnd : Option AS → Option (Value × AS)
  | some A => some (.tuple ⟨[]⟩, A)
  | none => none
noncomputable def curHit (n nb no bb bo eb eo sb so wb wo : Nat) (z : Value) (A : AS) : Bool :=
  beqV z (.int .i64 0) && cellsAre A nb no inpL && cellsAre A bb bo (boxL n) && cellsAre A eb eo [.int .i64 0, tokV 0, tokV 1] && cellsAre A sb so [.int .i64 n, .int .i64 1] && cellsAre A wb wo (zerosL n) && (aPutCells sb (so + 3) [tokV 3] A).isSome && (aPutCells sb (so + 4) [.int .i64 0] A).isSome && (aPutCells sb (so + 5) [.bool true] A).isSome
noncomputable def kmCur (n : Nat) (args : List Value) (A : AS) : Option (Value × AS) := match args with
  | [.agg ⟨[nd]⟩, bx, .agg ⟨[z, en]⟩, p, wh] => (match slN 1 nd, slN 1 bx, slN 1 en, ptA p, slN n wh with
    | some (nb, no), some (bb, bo), some (eb, eo), some (sb, so), some (wb, wo) =>
      bif curHit n nb no bb bo eb eo sb so wb wo z A then curEnd (putQ sb (so + 5) (.bool true) (putQ sb (so + 4) (.int .i64 0) (putQ sb (so + 3) (tokV 3) (some A)))) else none
    | _, _, _, _, _ => none)
  | _ => none
noncomputable def kmAll (n : Nat) (f : FuncId) (args : List Value) (A : AS) : Option (Value × AS) :=
  bif Nat.beq f 17 then kmDraw n args A else bif Nat.beq f 18 then kmRow n args A else bif Nat.beq f 20 then kmCur n args A else none
noncomputable def knP (n : Nat) : Kn := { kn0 with km := kmAll n }
/-- The arguments, the memory that alone is handed. -/
noncomputable def alArgs (n : Nat) : List Value := [.agg ⟨inpL⟩, .int .i64 n, .int .i64 1, .agg ⟨[.int .i64 0, .slice (some ⟨Tryz.prog.globals.size, 0, none⟩) 1 1]⟩]
noncomputable def alIn (c : Nat) : In := ⟨c, [.int .i64 0, tokV 0, tokV 1], 41⟩
/-- What alone answers. -/
noncomputable def okAl (n : Nat) : Out → Bool
  | .val (.tuple ⟨[.agg ⟨[w, h, sl, x, y, sh]⟩, ok]⟩) A => beqVs [w, h, x, y, sh, ok] [.int .i64 n, .int .i64 1, tokV 3, .int .i64 0, .bool true, .bool true] && (match slN n sl with
    | some (b, o) => cellsAre A b o (cels n 0)
    | none => false)
  | _ => false
noncomputable def alRun (n : Nat) : Out := ev Tryz.prog (knP n) 100001 (.call 5 (alArgs n) (insA Tryz.prog.globals.size 1 [alIn 0]))
end Go.Proofs.YtpnjlfnejjjncaaGreatDoor
/-
  Part of the runs of frescolaw20.alone by the abstract machine. No condition.
-/
namespace Go.Proofs.YtpnjlfnejjjncaaGreatDoor
set_option maxRecDepth 100000
theorem al1 : okAl 1 (alRun 1) = true := by kernel_rfl
theorem al2 : okAl 2 (alRun 2) = true := by kernel_rfl
theorem al3 : okAl 3 (alRun 3) = true := by kernel_rfl
theorem al4 : okAl 4 (alRun 4) = true := by kernel_rfl
theorem al5 : okAl 5 (alRun 5) = true := by kernel_rfl
end Go.Proofs.YtpnjlfnejjjncaaGreatDoor
