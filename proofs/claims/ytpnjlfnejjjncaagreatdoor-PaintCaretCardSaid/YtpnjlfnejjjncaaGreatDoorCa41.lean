/- Part of the proof by the abstract machine that this seat's closed call answers true: tables of closed answers, the run. No condition. -/
import Derived.Test.YtpnjlfnejjjncaaGreatDoorCa05
set_option linter.unusedVariables false
set_option linter.unusedSimpArgs false
set_option linter.unusedSectionVars false
namespace Go.Eng
open Go Go.Proofs
set_option maxRecDepth 100000
variable [Env]
noncomputable def tab191 : List (List Value × Value) := [([.int .i32 (104)], .int .i8 (9)),
  ([.int .i32 (105)], .int .i8 (9)),
  ([.int .i32 (9484)], .int .i8 (9)),
  ([.int .i32 (9472)], .int .i8 (9)),
  ([.int .i32 (9488)], .int .i8 (9)),
  ([.int .i32 (9474)], .int .i8 (9)),
  ([.int .i32 (32)], .int .i8 (9)),
  ([.int .i32 (9492)], .int .i8 (9)),
  ([.int .i32 (9496)], .int .i8 (9)),
  ([.int .i32 (97)], .int .i8 (9)),
  ([.int .i32 (98)], .int .i8 (9)),
  ([.int .i32 (99)], .int .i8 (9)),
  ([.int .i32 (100)], .int .i8 (9)),
  ([.int .i32 (101)], .int .i8 (9)),
  ([.int .i32 (102)], .int .i8 (9))]
noncomputable def tab10 : List (List Value × Value) := [([.agg #[.int .i64 (0), .int .i64 (0), .int .i64 (5), .int .i64 (3)], .agg #[.int .i64 (0), .int .i64 (0), .int .i64 (5), .int .i64 (3)]], .agg #[.int .i64 (0), .int .i64 (0), .int .i64 (5), .int .i64 (3)]),
  ([.agg #[.int .i64 (0), .int .i64 (0), .int .i64 (5), .int .i64 (3)], .agg #[.int .i64 (1), .int .i64 (1), .int .i64 (3), .int .i64 (1)]], .agg #[.int .i64 (1), .int .i64 (1), .int .i64 (3), .int .i64 (1)]),
  ([.agg #[.int .i64 (0), .int .i64 (0), .int .i64 (5), .int .i64 (1)], .agg #[.int .i64 (0), .int .i64 (0), .int .i64 (5), .int .i64 (1)]], .agg #[.int .i64 (0), .int .i64 (0), .int .i64 (5), .int .i64 (1)]),
  ([.agg #[.int .i64 (1), .int .i64 (0), .int .i64 (3), .int .i64 (1)], .agg #[.int .i64 (0), .int .i64 (0), .int .i64 (5), .int .i64 (1)]], .agg #[.int .i64 (1), .int .i64 (0), .int .i64 (3), .int .i64 (1)]),
  ([.agg #[.int .i64 (0), .int .i64 (0), .int .i64 (4), .int .i64 (1)], .agg #[.int .i64 (0), .int .i64 (0), .int .i64 (4), .int .i64 (1)]], .agg #[.int .i64 (0), .int .i64 (0), .int .i64 (4), .int .i64 (1)])]
noncomputable def tab19 : List (List Value × Value) := [([.agg #[.int .i32 (0), .int .i32 (0), .int .u8 (0)]], .agg #[.string ⟨#[32]⟩, .int .i8 (1), .int .i32 (0), .int .i32 (0), .int .u8 (0)])]
noncomputable def tab29 : List (List Value × Value) := [([.int .i64 (5), .int .i64 (3)], .bool true),
  ([.int .i64 (5), .int .i64 (1)], .bool true),
  ([.int .i64 (4), .int .i64 (1)], .bool true)]
noncomputable def tab31 : List (List Value × Value) := [([.int .i8 (1)], .bool true),
  ([.int .i8 (7)], .bool true)]
noncomputable def tab37 : List (List Value × Value) := [([.agg #[.int .i32 (0), .int .i32 (0), .int .u8 (0)], .slice none 0 0], .agg #[.int .i32 (0), .int .i32 (0), .int .u8 (0)])]
noncomputable def tab48 : List (List Value × Value) := [([.string ⟨#[226, 148, 128]⟩, .int .i64 (3)], .string ⟨#[226, 148, 128, 226, 148, 128, 226, 148, 128]⟩),
  ([.string ⟨#[32]⟩, .int .i64 (3)], .string ⟨#[32, 32, 32]⟩)]
noncomputable def tab98 : List (List Value × Value) := [([.agg #[.int .i64 (0), .int .i64 (0), .int .i64 (5), .int .i64 (3)], .agg #[.int .i64 (1), .int .i64 (1), .int .i64 (1), .int .i64 (1)]], .agg #[.int .i64 (1), .int .i64 (1), .int .i64 (3), .int .i64 (1)]),
  ([.agg #[.int .i64 (0), .int .i64 (0), .int .i64 (4), .int .i64 (1)], .agg #[.int .i64 (0), .int .i64 (0), .int .i64 (0), .int .i64 (0)]], .agg #[.int .i64 (0), .int .i64 (0), .int .i64 (4), .int .i64 (1)])]
noncomputable def tab118 : List (List Value × Value) := [([.agg #[.int .i8 (0), .int .i64 (0), .int .i64 (0), .int .i64 (0), .int .i64 (0)]], .bool true)]
noncomputable def tab119 : List (List Value × Value) := [([.int .i64 (0), .int .i64 (4096)], .bool true),
  ([.int .i64 (1), .int .i64 (4)], .bool true),
  ([.int .i64 (0), .int .i64 (5)], .bool true),
  ([.int .i64 (0), .int .i64 (2)], .bool true),
  ([.int .i64 (0), .int .i64 (4)], .bool true)]
noncomputable def tab120 : List (List Value × Value) := [([.int .i32 (0)], .bool true)]
noncomputable def tab134 : List (List Value × Value) := [([.agg #[.int .i8 (0), .int .i8 (1), .int .i8 (1), .int .i8 (0)]], .int .i32 (9484)),
  ([.agg #[.int .i8 (0), .int .i8 (1), .int .i8 (0), .int .i8 (1)]], .int .i32 (9472)),
  ([.agg #[.int .i8 (0), .int .i8 (0), .int .i8 (1), .int .i8 (1)]], .int .i32 (9488)),
  ([.agg #[.int .i8 (1), .int .i8 (0), .int .i8 (1), .int .i8 (0)]], .int .i32 (9474)),
  ([.agg #[.int .i8 (0), .int .i8 (0), .int .i8 (0), .int .i8 (0)]], .int .i32 (32)),
  ([.agg #[.int .i8 (1), .int .i8 (1), .int .i8 (0), .int .i8 (0)]], .int .i32 (9492)),
  ([.agg #[.int .i8 (1), .int .i8 (0), .int .i8 (0), .int .i8 (1)]], .int .i32 (9496))]
noncomputable def tab136 : List (List Value × Value) := [([.string ⟨#[104, 105]⟩, .int .i64 (3), .int .i8 (0)], .string ⟨#[104, 105, 32]⟩)]
noncomputable def tab190 : List (List Value × Value) := [([.int .i32 (104)], .bool false),
  ([.int .i32 (105)], .bool false),
  ([.int .i32 (9484)], .bool false),
  ([.int .i32 (9472)], .bool false),
  ([.int .i32 (9488)], .bool false),
  ([.int .i32 (9474)], .bool false),
  ([.int .i32 (32)], .bool false),
  ([.int .i32 (9492)], .bool false),
  ([.int .i32 (9496)], .bool false),
  ([.int .i32 (97)], .bool false),
  ([.int .i32 (98)], .bool false),
  ([.int .i32 (99)], .bool false),
  ([.int .i32 (100)], .bool false),
  ([.int .i32 (101)], .bool false),
  ([.int .i32 (102)], .bool false)]
noncomputable def tab195 : List (List Value × Value) := [([.agg #[.string ⟨#[104]⟩, .int .i64 (1)]], .bool false),
  ([.agg #[.string ⟨#[105]⟩, .int .i64 (1)]], .bool false),
  ([.agg #[.string ⟨#[226, 148, 140]⟩, .int .i64 (1)]], .bool false),
  ([.agg #[.string ⟨#[226, 148, 128]⟩, .int .i64 (1)]], .bool false),
  ([.agg #[.string ⟨#[226, 148, 144]⟩, .int .i64 (1)]], .bool false),
  ([.agg #[.string ⟨#[226, 148, 130]⟩, .int .i64 (1)]], .bool false),
  ([.agg #[.string ⟨#[32]⟩, .int .i64 (1)]], .bool false),
  ([.agg #[.string ⟨#[226, 148, 148]⟩, .int .i64 (1)]], .bool false),
  ([.agg #[.string ⟨#[226, 148, 152]⟩, .int .i64 (1)]], .bool false),
  ([.agg #[.string ⟨#[97]⟩, .int .i64 (1)]], .bool false),
  ([.agg #[.string ⟨#[98]⟩, .int .i64 (1)]], .bool false),
  ([.agg #[.string ⟨#[99]⟩, .int .i64 (1)]], .bool false),
  ([.agg #[.string ⟨#[100]⟩, .int .i64 (1)]], .bool false),
  ([.agg #[.string ⟨#[101]⟩, .int .i64 (1)]], .bool false),
  ([.agg #[.string ⟨#[102]⟩, .int .i64 (1)]], .bool false)]
noncomputable def tab228 : List (List Value × Value) := [([.agg #[.int .i64 (0), .int .i64 (0), .int .i64 (5), .int .i64 (1)], .int .i64 (0), .int .i64 (0)], .bool true),
  ([.agg #[.int .i64 (0), .int .i64 (0), .int .i64 (5), .int .i64 (1)], .int .i64 (1), .int .i64 (0)], .bool true),
  ([.agg #[.int .i64 (0), .int .i64 (0), .int .i64 (5), .int .i64 (1)], .int .i64 (2), .int .i64 (0)], .bool true),
  ([.agg #[.int .i64 (0), .int .i64 (0), .int .i64 (5), .int .i64 (1)], .int .i64 (3), .int .i64 (0)], .bool true),
  ([.agg #[.int .i64 (0), .int .i64 (0), .int .i64 (5), .int .i64 (1)], .int .i64 (4), .int .i64 (0)], .bool true),
  ([.agg #[.int .i64 (1), .int .i64 (0), .int .i64 (3), .int .i64 (1)], .int .i64 (1), .int .i64 (0)], .bool true),
  ([.agg #[.int .i64 (1), .int .i64 (0), .int .i64 (3), .int .i64 (1)], .int .i64 (2), .int .i64 (0)], .bool true),
  ([.agg #[.int .i64 (1), .int .i64 (0), .int .i64 (3), .int .i64 (1)], .int .i64 (3), .int .i64 (0)], .bool true),
  ([.agg #[.int .i64 (0), .int .i64 (0), .int .i64 (4), .int .i64 (1)], .int .i64 (0), .int .i64 (0)], .bool true),
  ([.agg #[.int .i64 (0), .int .i64 (0), .int .i64 (4), .int .i64 (1)], .int .i64 (1), .int .i64 (0)], .bool true),
  ([.agg #[.int .i64 (0), .int .i64 (0), .int .i64 (4), .int .i64 (1)], .int .i64 (2), .int .i64 (0)], .bool true),
  ([.agg #[.int .i64 (0), .int .i64 (0), .int .i64 (4), .int .i64 (1)], .int .i64 (3), .int .i64 (0)], .bool true)]
noncomputable def tab245 : List (List Value × Value) := [([.string ⟨#[104, 105]⟩], .tuple #[.int .i32 (104), .int .i64 (1)]),
  ([.string ⟨#[105]⟩], .tuple #[.int .i32 (105), .int .i64 (1)]),
  ([.string ⟨#[226, 148, 140, 226, 148, 128, 226, 148, 128, 226, 148, 128, 226, 148, 144]⟩], .tuple #[.int .i32 (9484), .int .i64 (3)]),
  ([.string ⟨#[226, 148, 128, 226, 148, 128, 226, 148, 128, 226, 148, 144]⟩], .tuple #[.int .i32 (9472), .int .i64 (3)]),
  ([.string ⟨#[226, 148, 128, 226, 148, 128, 226, 148, 144]⟩], .tuple #[.int .i32 (9472), .int .i64 (3)]),
  ([.string ⟨#[226, 148, 128, 226, 148, 144]⟩], .tuple #[.int .i32 (9472), .int .i64 (3)]),
  ([.string ⟨#[226, 148, 144]⟩], .tuple #[.int .i32 (9488), .int .i64 (3)]),
  ([.string ⟨#[226, 148, 130, 32, 32, 32, 226, 148, 130]⟩], .tuple #[.int .i32 (9474), .int .i64 (3)]),
  ([.string ⟨#[32, 32, 32, 226, 148, 130]⟩], .tuple #[.int .i32 (32), .int .i64 (1)]),
  ([.string ⟨#[32, 32, 226, 148, 130]⟩], .tuple #[.int .i32 (32), .int .i64 (1)]),
  ([.string ⟨#[32, 226, 148, 130]⟩], .tuple #[.int .i32 (32), .int .i64 (1)]),
  ([.string ⟨#[226, 148, 130]⟩], .tuple #[.int .i32 (9474), .int .i64 (3)]),
  ([.string ⟨#[104, 105, 32]⟩], .tuple #[.int .i32 (104), .int .i64 (1)]),
  ([.string ⟨#[105, 32]⟩], .tuple #[.int .i32 (105), .int .i64 (1)]),
  ([.string ⟨#[32]⟩], .tuple #[.int .i32 (32), .int .i64 (1)]),
  ([.string ⟨#[226, 148, 148, 226, 148, 128, 226, 148, 128, 226, 148, 128, 226, 148, 152]⟩], .tuple #[.int .i32 (9492), .int .i64 (3)]),
  ([.string ⟨#[226, 148, 128, 226, 148, 128, 226, 148, 128, 226, 148, 152]⟩], .tuple #[.int .i32 (9472), .int .i64 (3)]),
  ([.string ⟨#[226, 148, 128, 226, 148, 128, 226, 148, 152]⟩], .tuple #[.int .i32 (9472), .int .i64 (3)]),
  ([.string ⟨#[226, 148, 128, 226, 148, 152]⟩], .tuple #[.int .i32 (9472), .int .i64 (3)]),
  ([.string ⟨#[226, 148, 152]⟩], .tuple #[.int .i32 (9496), .int .i64 (3)]),
  ([.string ⟨#[97, 98, 99, 100, 101, 102]⟩], .tuple #[.int .i32 (97), .int .i64 (1)]),
  ([.string ⟨#[98, 99, 100, 101, 102]⟩], .tuple #[.int .i32 (98), .int .i64 (1)]),
  ([.string ⟨#[99, 100, 101, 102]⟩], .tuple #[.int .i32 (99), .int .i64 (1)]),
  ([.string ⟨#[100, 101, 102]⟩], .tuple #[.int .i32 (100), .int .i64 (1)]),
  ([.string ⟨#[101, 102]⟩], .tuple #[.int .i32 (101), .int .i64 (1)]),
  ([.string ⟨#[102]⟩], .tuple #[.int .i32 (102), .int .i64 (1)]),
  ([.string ⟨#[98, 99, 100, 101]⟩], .tuple #[.int .i32 (98), .int .i64 (1)]),
  ([.string ⟨#[99, 100, 101]⟩], .tuple #[.int .i32 (99), .int .i64 (1)]),
  ([.string ⟨#[100, 101]⟩], .tuple #[.int .i32 (100), .int .i64 (1)]),
  ([.string ⟨#[101]⟩], .tuple #[.int .i32 (101), .int .i64 (1)])]
noncomputable def tab327 : List (List Value × Value) := [([.int .i32 (104)], .int .i64 (1)),
  ([.int .i32 (105)], .int .i64 (1)),
  ([.int .i32 (9484)], .int .i64 (1)),
  ([.int .i32 (9472)], .int .i64 (1)),
  ([.int .i32 (9488)], .int .i64 (1)),
  ([.int .i32 (9474)], .int .i64 (1)),
  ([.int .i32 (32)], .int .i64 (1)),
  ([.int .i32 (9492)], .int .i64 (1)),
  ([.int .i32 (9496)], .int .i64 (1)),
  ([.int .i32 (97)], .int .i64 (1)),
  ([.int .i32 (98)], .int .i64 (1)),
  ([.int .i32 (99)], .int .i64 (1)),
  ([.int .i32 (100)], .int .i64 (1)),
  ([.int .i32 (101)], .int .i64 (1)),
  ([.int .i32 (102)], .int .i64 (1))]
noncomputable def knA : Kn := { kn := fun f a => bif Nat.beq f 191 then look tab191 a else none, ne := 279, mz := 280, u8 := 5 }
noncomputable def kn2 : Kn := { kn := fun f a => bif Nat.beq f 327 then look tab327 a else bif Nat.beq f 245 then look tab245 a else bif Nat.beq f 228 then look tab228 a else bif Nat.beq f 195 then look tab195 a else bif Nat.beq f 190 then look tab190 a else bif Nat.beq f 136 then look tab136 a else bif Nat.beq f 134 then look tab134 a else bif Nat.beq f 120 then look tab120 a else bif Nat.beq f 119 then look tab119 a else bif Nat.beq f 118 then look tab118 a else bif Nat.beq f 98 then look tab98 a else bif Nat.beq f 48 then look tab48 a else bif Nat.beq f 37 then look tab37 a else bif Nat.beq f 31 then look tab31 a else bif Nat.beq f 29 then look tab29 a else bif Nat.beq f 19 then look tab19 a else bif Nat.beq f 10 then look tab10 a else bif Nat.beq f 191 then look tab191 a else none, ne := 279, mz := 280, u8 := 5 }
end Go.Eng
/- Part of the proof by the abstract machine that this seat's closed call answers true: tables of closed answers, the run. No condition. -/
set_option linter.unusedSectionVars false
namespace Go.Eng
open Go Go.Proofs
set_option maxRecDepth 100000
variable [Env]
theorem tab191_ok : tabOk Tryz.prog kn0 20000 191 tab191 = true := by kernel_rfl
end Go.Eng
/- Part of the proof by the abstract machine that this seat's closed call answers true: tables of closed answers, the run. No condition. -/
set_option linter.unusedSectionVars false
namespace Go.Eng
open Go Go.Proofs
set_option maxRecDepth 100000
variable [Env]
theorem tab134_ok : tabOk Tryz.prog knA 20000 134 tab134 = true := by kernel_rfl
theorem tab245_ok : tabOk Tryz.prog knA 20000 245 tab245 = true := by kernel_rfl
theorem tab136_ok : tabOk Tryz.prog knA 20000 136 tab136 = true := by kernel_rfl
theorem tab228_ok : tabOk Tryz.prog knA 20000 228 tab228 = true := by kernel_rfl
theorem tab10_ok : tabOk Tryz.prog knA 20000 10 tab10 = true := by kernel_rfl
theorem tab48_ok : tabOk Tryz.prog knA 20000 48 tab48 = true := by kernel_rfl
theorem tab98_ok : tabOk Tryz.prog knA 20000 98 tab98 = true := by kernel_rfl
theorem tab327_ok : tabOk Tryz.prog knA 20000 327 tab327 = true := by kernel_rfl
theorem tab190_ok : tabOk Tryz.prog knA 20000 190 tab190 = true := by kernel_rfl
theorem tab195_ok : tabOk Tryz.prog knA 20000 195 tab195 = true := by kernel_rfl
theorem tab29_ok : tabOk Tryz.prog knA 20000 29 tab29 = true := by kernel_rfl
theorem tab19_ok : tabOk Tryz.prog knA 20000 19 tab19 = true := by kernel_rfl
theorem tab37_ok : tabOk Tryz.prog knA 20000 37 tab37 = true := by kernel_rfl
theorem tab119_ok : tabOk Tryz.prog knA 20000 119 tab119 = true := by kernel_rfl
theorem tab118_ok : tabOk Tryz.prog knA 20000 118 tab118 = true := by kernel_rfl
theorem tab31_ok : tabOk Tryz.prog knA 20000 31 tab31 = true := by kernel_rfl
theorem tab120_ok : tabOk Tryz.prog knA 20000 120 tab120 = true := by kernel_rfl
end Go.Eng
/- Part of the proof by the abstract machine that this seat's closed call answers true: tables of closed answers, the run. No condition. -/
set_option linter.unusedSectionVars false
namespace Go.Eng
open Go Go.Proofs
set_option maxRecDepth 100000
variable [Env]
theorem tabs {kn : Kn} (hk : KnOK Tryz.prog kn) {f : FuncId} {args : List Value} {v : Value} {g : Nat} {t : List (List Value × Value)} {o : Option Value} (ht : tabOk Tryz.prog kn 20000 g t = true) (h : (bif Nat.beq f g then look t args else o) = some v) {Q : Prop}
    (h1 : (closedVs args = true ∧ closedV v = true ∧ (∃ fn c, Tryz.prog.funcs[f]? = some fn ∧ fn.body = some c) ∧ (∀ W, (callFunc f ⟨args⟩).run Tryz.prog W = .ok (.enter f ⟨args⟩) W) ∧
      ∀ W, Calls Tryz.prog f ⟨args⟩ W fun e W1 => e = .returned v ∧ W.heap.size ≤ W1.heap.size ∧ (∀ c, c < W.heap.size → W1.heap[c]? = W.heap[c]?) ∧ Rest W W1) → Q) (h2 : o = some v → Q) : Q := by
  cases hb : Nat.beq f g with
  | true =>
    rw [hb] at h
    have hfg := Nat.eq_of_beq_eq_true hb
    subst hfg
    exact h1 (tab_ok hk mixed ht h)
  | false => rw [hb] at h; exact h2 h
theorem knA_ok : KnOK Tryz.prog knA := by
  refine ⟨fun f args v h => ?_, fun f args A v A1 h => by simp [knA] at h, kn0_ok.ne, kn0_ok.mz, fun c F A e F1 A1 h => by simp [knA] at h⟩
  simp only [knA] at h
  refine tabs kn0_ok tab191_ok h (fun q => q) fun h => ?_
  simp at h
theorem kn2_ok : KnOK Tryz.prog kn2 := by
  refine ⟨fun f args v h => ?_, fun f args A v A1 h => by simp [kn2] at h, kn0_ok.ne, kn0_ok.mz, fun c F A e F1 A1 h => by simp [kn2] at h⟩
  simp only [kn2] at h
  refine tabs knA_ok tab327_ok h (fun q => q) fun h => ?_
  refine tabs knA_ok tab245_ok h (fun q => q) fun h => ?_
  refine tabs knA_ok tab228_ok h (fun q => q) fun h => ?_
  refine tabs knA_ok tab195_ok h (fun q => q) fun h => ?_
  refine tabs knA_ok tab190_ok h (fun q => q) fun h => ?_
  refine tabs knA_ok tab136_ok h (fun q => q) fun h => ?_
  refine tabs knA_ok tab134_ok h (fun q => q) fun h => ?_
  refine tabs knA_ok tab120_ok h (fun q => q) fun h => ?_
  refine tabs knA_ok tab119_ok h (fun q => q) fun h => ?_
  refine tabs knA_ok tab118_ok h (fun q => q) fun h => ?_
  refine tabs knA_ok tab98_ok h (fun q => q) fun h => ?_
  refine tabs knA_ok tab48_ok h (fun q => q) fun h => ?_
  refine tabs knA_ok tab37_ok h (fun q => q) fun h => ?_
  refine tabs knA_ok tab31_ok h (fun q => q) fun h => ?_
  refine tabs knA_ok tab29_ok h (fun q => q) fun h => ?_
  refine tabs knA_ok tab19_ok h (fun q => q) fun h => ?_
  refine tabs knA_ok tab10_ok h (fun q => q) fun h => ?_
  refine tabs kn0_ok tab191_ok h (fun q => q) fun h => ?_
  simp at h
end Go.Eng
/- Part of the proof by the abstract machine that this seat's closed call answers true: tables of closed answers, the run. No condition. -/
set_option linter.unusedSectionVars false
namespace Go.Eng
open Go Go.Proofs
set_option maxRecDepth 100000
variable [Env]
noncomputable def ent0 : Ent := ⟨[.agg #[.int .i8 (1), .string ⟨#[]⟩, .string ⟨#[]⟩, .slice none 0 0, .int .i8 (0), .int .i64 (0), .int .i64 (0), .int .i64 (0), .int .i64 (0), .int .i8 (0), .int .i64 (0), .int .i64 (0), .int .i64 (0), .int .i64 (0), .int .i64 (0), .int .i64 (0), .int .i64 (0), .int .i64 (0), .int .i64 (0), .int .i8 (1), .int .i8 (0), .int .i8 (0), .string ⟨#[104, 105]⟩, .int .i8 (0), .int .i32 (0), .int .i32 (0), .int .u8 (0), .int .u8 (0), .slice none 0 0, .int .i64 (0), .int .i64 (0), .int .i64 (0), .int .i64 (0), .int .u8 (0)], .int .i64 (5), .int .i64 (3), .agg #[.int .i64 (-1), .slice none 0 0]], 20, [], .tuple #[.agg #[.int .i64 (5), .int .i64 (3), .slice (some ⟨323, 0, none⟩) 15 15, .int .i64 (0), .int .i64 (0), .bool false], .bool true], 2943, [(323, .cells [.string ⟨#[226, 148, 140]⟩, .int .i8 (1), .int .i32 (0), .int .i32 (0), .int .u8 (0), .string ⟨#[226, 148, 128]⟩, .int .i8 (1), .int .i32 (0), .int .i32 (0), .int .u8 (0), .string ⟨#[226, 148, 128]⟩, .int .i8 (1), .int .i32 (0), .int .i32 (0), .int .u8 (0), .string ⟨#[226, 148, 128]⟩, .int .i8 (1), .int .i32 (0), .int .i32 (0), .int .u8 (0), .string ⟨#[226, 148, 144]⟩, .int .i8 (1), .int .i32 (0), .int .i32 (0), .int .u8 (0), .string ⟨#[226, 148, 130]⟩, .int .i8 (1), .int .i32 (0), .int .i32 (0), .int .u8 (0), .string ⟨#[104]⟩, .int .i8 (1), .int .i32 (0), .int .i32 (0), .int .u8 (0), .string ⟨#[105]⟩, .int .i8 (1), .int .i32 (0), .int .i32 (0), .int .u8 (0), .string ⟨#[32]⟩, .int .i8 (1), .int .i32 (0), .int .i32 (0), .int .u8 (0), .string ⟨#[226, 148, 130]⟩, .int .i8 (1), .int .i32 (0), .int .i32 (0), .int .u8 (0), .string ⟨#[226, 148, 148]⟩, .int .i8 (1), .int .i32 (0), .int .i32 (0), .int .u8 (0), .string ⟨#[226, 148, 128]⟩, .int .i8 (1), .int .i32 (0), .int .i32 (0), .int .u8 (0), .string ⟨#[226, 148, 128]⟩, .int .i8 (1), .int .i32 (0), .int .i32 (0), .int .u8 (0), .string ⟨#[226, 148, 128]⟩, .int .i8 (1), .int .i32 (0), .int .i32 (0), .int .u8 (0), .string ⟨#[226, 148, 152]⟩, .int .i8 (1), .int .i32 (0), .int .i32 (0), .int .u8 (0)] 75 5 62 0 0)]⟩
noncomputable def ent1 : Ent := ⟨[.agg #[.int .i8 (7), .string ⟨#[]⟩, .string ⟨#[]⟩, .slice none 0 0, .int .i8 (0), .int .i64 (0), .int .i64 (0), .int .i64 (0), .int .i64 (0), .int .i8 (0), .int .i64 (0), .int .i64 (0), .int .i64 (0), .int .i64 (0), .int .i64 (0), .int .i64 (0), .int .i64 (0), .int .i64 (0), .int .i64 (0), .int .i8 (0), .int .i8 (0), .int .i8 (0), .string ⟨#[97, 98, 99, 100, 101, 102]⟩, .int .i8 (0), .int .i32 (0), .int .i32 (0), .int .u8 (0), .int .u8 (0), .slice none 0 0, .int .i64 (0), .int .i64 (0), .int .i64 (0), .int .i64 (0), .int .u8 (0)], .int .i64 (4), .int .i64 (1), .agg #[.int .i64 (0), .slice (some ⟨2944, 0, none⟩) 1 1]], 2945, [(2944, .cells [.int .i64 (0), .string ⟨#[97, 98, 99, 100, 101, 102]⟩, .int .i64 (4)] 3 3 41 0 0)], .tuple #[.agg #[.int .i64 (4), .int .i64 (1), .slice (some ⟨3248, 0, none⟩) 4 4, .int .i64 (3), .int .i64 (0), .bool true], .bool true], 4146, [(3248, .cells [.string ⟨#[98]⟩, .int .i8 (1), .int .i32 (0), .int .i32 (0), .int .u8 (0), .string ⟨#[99]⟩, .int .i8 (1), .int .i32 (0), .int .i32 (0), .int .u8 (0), .string ⟨#[100]⟩, .int .i8 (1), .int .i32 (0), .int .i32 (0), .int .u8 (0), .string ⟨#[101]⟩, .int .i8 (1), .int .i32 (0), .int .i32 (0), .int .u8 (0)] 20 5 62 0 0), (2944, .cells [.int .i64 (0), .string ⟨#[97, 98, 99, 100, 101, 102]⟩, .int .i64 (4)] 3 3 41 0 0)]⟩
noncomputable def ents5 : List Ent := [ent0, ent1]
noncomputable def kn3 : Kn := { kn := kn2.kn, ne := 279, mz := 280, u8 := 5, km := fun f a A => bif Nat.beq f 5 then kmLook 0 ents5 a A else none }
end Go.Eng
/- Part of the proof by the abstract machine that this seat's closed call answers true: tables of closed answers, the run. No condition. -/
set_option linter.unusedSectionVars false
namespace Go.Eng
open Go Go.Proofs
set_option maxRecDepth 100000
variable [Env]
theorem ent0_ok : entOk Tryz.prog kn2 100000 5 0 ent0 = true := by kernel_rfl
end Go.Eng
/- Part of the proof by the abstract machine that this seat's closed call answers true: tables of closed answers, the run. No condition. -/
set_option linter.unusedSectionVars false
namespace Go.Eng
open Go Go.Proofs
set_option maxRecDepth 100000
variable [Env]
theorem ent1_ok : entOk Tryz.prog kn2 100000 5 0 ent1 = true := by kernel_rfl
end Go.Eng
/- Part of the proof by the abstract machine that this seat's closed call answers true: tables of closed answers, the run. No condition. -/
set_option linter.unusedSectionVars false
namespace Go.Eng
open Go Go.Proofs
set_option maxRecDepth 100000
variable [Env]
theorem good5 : fnGood Tryz.prog 5 = true := by kernel_rfl
theorem ents5_ok : ∀ x ∈ ents5, entOk Tryz.prog kn2 100000 5 0 x = true := by
  intro x hx
  simp only [ents5, List.mem_cons, List.not_mem_nil, or_false] at hx
  rcases hx with rfl | rfl
  · exact ent0_ok
  · exact ent1_ok
theorem kn3_ok : KnOK Tryz.prog kn3 := by
  refine ⟨kn2_ok.kn, fun f args A v A1 h => ?_, kn0_ok.ne, kn0_ok.mz, fun c F A e F1 A1 h => by simp [kn3] at h⟩
  simp only [kn3] at h
  cases hb5 : Nat.beq f 5 with
  | true =>
    rw [hb5] at h
    obtain rfl := Nat.eq_of_beq_eq_true hb5
    exact km_ok kn2_ok mixed good5 ents5_ok h
  | false =>
  rw [hb5] at h
  simp only [cond_false] at h
  simp at h
end Go.Eng
/- Part of the proof by the abstract machine that this seat's closed call answers true: tables of closed answers, the run. No condition. -/
set_option linter.unusedSectionVars false
namespace Go.Eng
open Go Go.Proofs
set_option maxRecDepth 100000
variable [Env]
/-- The whole law, run: it answers true. -/
theorem law_run : okVal (.bool true) (ev Tryz.prog kn3 100001 (.call 4 [] (bare Tryz.prog))) = true := by kernel_rfl
end Go.Eng
/- Part of the proof by the abstract machine that this seat's closed call answers true: tables of closed answers, the run. No condition. -/
set_option linter.unusedSectionVars false
namespace Go.Eng
open Go Go.Proofs
set_option maxRecDepth 100000
variable [Env]
theorem good_law : fnGood Tryz.prog 4 = true := by kernel_rfl
theorem none_law : kn3.kn 4 [] = none := by kernel_rfl
theorem law_any (W : World) : Calls Tryz.prog 4 ⟨[]⟩ W fun e W1 => e = .returned (.bool true) ∧ W.heap.size ≤ W1.heap.size ∧ (∀ c, c < W.heap.size → W1.heap[c]? = W.heap[c]?) ∧ Rest W W1 :=
  (entry_ok kn3_ok mixed rfl rfl good_law none_law law_run).2.2.2.2 W
end Go.Eng
