/- Part of the proof of this seat's closed statement by the abstract machine: tables of closed answers, the start, the run. No condition. -/
import Derived.Test.YtpocgkijdllfbaaGreatDoorProg
import Derived.KernelRfl
import Derived.Test.YtpocgkijdllfbaaGreatDoorE29
namespace Go.Eng
open Go Go.Proofs
set_option maxRecDepth 100000
noncomputable def kn0 : Kn := ⟨fun _ _ => none, 84, 999998, 5⟩
noncomputable def tab29 : List (List Value × Value) := [([.agg #[.int .i64 (0), .int .i64 (0), .int .i64 (9), .int .i64 (4)]], .bool false),
  ([.agg #[.int .i64 (5), .int .i64 (0), .int .i64 (4), .int .i64 (4)]], .bool false)]
noncomputable def tab33 : List (List Value × Value) := [([.int .i64 (0), .int .i64 (0), .int .i64 (9), .int .i64 (4)], .agg #[.int .i64 (0), .int .i64 (0), .int .i64 (9), .int .i64 (4)]),
  ([.int .i64 (0), .int .i64 (0), .int .i64 (4), .int .i64 (4)], .agg #[.int .i64 (0), .int .i64 (0), .int .i64 (4), .int .i64 (4)]),
  ([.int .i64 (5), .int .i64 (0), .int .i64 (4), .int .i64 (4)], .agg #[.int .i64 (5), .int .i64 (0), .int .i64 (4), .int .i64 (4)])]
noncomputable def tab39 : List (List Value × Value) := [([.int .i64 (9), .int .i64 (4)], .bool true)]
noncomputable def tab41 : List (List Value × Value) := [([.agg #[.int .i8 (0), .int .i8 (0), .int .i8 (0), .int .i8 (0)]], .int .i32 (32)),
  ([.agg #[.int .i8 (1), .int .i8 (0), .int .i8 (1), .int .i8 (0)]], .int .i32 (9474))]
noncomputable def tab44 : List (List Value × Value) := [([.agg #[.int .i32 (0), .int .i32 (0), .int .u8 (0)], .slice none 0 0], .agg #[.int .i32 (0), .int .i32 (0), .int .u8 (0)])]
noncomputable def tab52 : List (List Value × Value) := [([.agg #[.int .i64 (0), .int .i64 (0), .int .i64 (9), .int .i64 (4)], .agg #[.int .i64 (0), .int .i64 (0), .int .i64 (9), .int .i64 (4)]], .agg #[.int .i64 (0), .int .i64 (0), .int .i64 (9), .int .i64 (4)])]
noncomputable def tab53 : List (List Value × Value) := [([.agg #[.int .i32 (0), .int .i32 (0), .int .u8 (0)]], .agg #[.string ⟨#[32]⟩, .int .i8 (1), .int .i32 (0), .int .i32 (0), .int .u8 (0)])]
noncomputable def tab56 : List (List Value × Value) := [([.agg #[.int .i8 (0), .int .i8 (0), .int .i8 (0), .int .i8 (0)]], .agg #[.int .i8 (0), .int .i8 (0), .int .i8 (0), .int .i8 (0)]),
  ([.agg #[.int .i8 (1), .int .i8 (0), .int .i8 (1), .int .i8 (0)]], .agg #[.int .i8 (1), .int .i8 (0), .int .i8 (1), .int .i8 (0)])]
noncomputable def tab64 : List (List Value × Value) := [([.int .i32 (32)], .bool false),
  ([.int .i32 (9474)], .bool false)]
noncomputable def tab65 : List (List Value × Value) := [([.int .i32 (32)], .int .i8 (9)),
  ([.int .i32 (9474)], .int .i8 (9))]
noncomputable def tab69 : List (List Value × Value) := [([.agg #[.string ⟨#[32]⟩, .int .i64 (1)]], .bool false),
  ([.agg #[.string ⟨#[226, 148, 130]⟩, .int .i64 (1)]], .bool false)]
noncomputable def tab70 : List (List Value × Value) := [([.agg #[.int .i64 (0), .int .i64 (0), .int .i64 (9), .int .i64 (4)], .int .i64 (0), .int .i64 (0)], .bool true),
  ([.agg #[.int .i64 (0), .int .i64 (0), .int .i64 (9), .int .i64 (4)], .int .i64 (1), .int .i64 (0)], .bool true),
  ([.agg #[.int .i64 (0), .int .i64 (0), .int .i64 (9), .int .i64 (4)], .int .i64 (2), .int .i64 (0)], .bool true),
  ([.agg #[.int .i64 (0), .int .i64 (0), .int .i64 (9), .int .i64 (4)], .int .i64 (3), .int .i64 (0)], .bool true),
  ([.agg #[.int .i64 (0), .int .i64 (0), .int .i64 (9), .int .i64 (4)], .int .i64 (4), .int .i64 (0)], .bool true),
  ([.agg #[.int .i64 (0), .int .i64 (0), .int .i64 (9), .int .i64 (4)], .int .i64 (5), .int .i64 (0)], .bool true),
  ([.agg #[.int .i64 (0), .int .i64 (0), .int .i64 (9), .int .i64 (4)], .int .i64 (6), .int .i64 (0)], .bool true),
  ([.agg #[.int .i64 (0), .int .i64 (0), .int .i64 (9), .int .i64 (4)], .int .i64 (7), .int .i64 (0)], .bool true),
  ([.agg #[.int .i64 (0), .int .i64 (0), .int .i64 (9), .int .i64 (4)], .int .i64 (8), .int .i64 (0)], .bool true),
  ([.agg #[.int .i64 (0), .int .i64 (0), .int .i64 (9), .int .i64 (4)], .int .i64 (0), .int .i64 (1)], .bool true),
  ([.agg #[.int .i64 (0), .int .i64 (0), .int .i64 (9), .int .i64 (4)], .int .i64 (1), .int .i64 (1)], .bool true),
  ([.agg #[.int .i64 (0), .int .i64 (0), .int .i64 (9), .int .i64 (4)], .int .i64 (2), .int .i64 (1)], .bool true),
  ([.agg #[.int .i64 (0), .int .i64 (0), .int .i64 (9), .int .i64 (4)], .int .i64 (3), .int .i64 (1)], .bool true),
  ([.agg #[.int .i64 (0), .int .i64 (0), .int .i64 (9), .int .i64 (4)], .int .i64 (4), .int .i64 (1)], .bool true),
  ([.agg #[.int .i64 (0), .int .i64 (0), .int .i64 (9), .int .i64 (4)], .int .i64 (5), .int .i64 (1)], .bool true),
  ([.agg #[.int .i64 (0), .int .i64 (0), .int .i64 (9), .int .i64 (4)], .int .i64 (6), .int .i64 (1)], .bool true),
  ([.agg #[.int .i64 (0), .int .i64 (0), .int .i64 (9), .int .i64 (4)], .int .i64 (7), .int .i64 (1)], .bool true),
  ([.agg #[.int .i64 (0), .int .i64 (0), .int .i64 (9), .int .i64 (4)], .int .i64 (8), .int .i64 (1)], .bool true),
  ([.agg #[.int .i64 (0), .int .i64 (0), .int .i64 (9), .int .i64 (4)], .int .i64 (0), .int .i64 (2)], .bool true),
  ([.agg #[.int .i64 (0), .int .i64 (0), .int .i64 (9), .int .i64 (4)], .int .i64 (1), .int .i64 (2)], .bool true),
  ([.agg #[.int .i64 (0), .int .i64 (0), .int .i64 (9), .int .i64 (4)], .int .i64 (2), .int .i64 (2)], .bool true),
  ([.agg #[.int .i64 (0), .int .i64 (0), .int .i64 (9), .int .i64 (4)], .int .i64 (3), .int .i64 (2)], .bool true),
  ([.agg #[.int .i64 (0), .int .i64 (0), .int .i64 (9), .int .i64 (4)], .int .i64 (4), .int .i64 (2)], .bool true),
  ([.agg #[.int .i64 (0), .int .i64 (0), .int .i64 (9), .int .i64 (4)], .int .i64 (5), .int .i64 (2)], .bool true),
  ([.agg #[.int .i64 (0), .int .i64 (0), .int .i64 (9), .int .i64 (4)], .int .i64 (6), .int .i64 (2)], .bool true),
  ([.agg #[.int .i64 (0), .int .i64 (0), .int .i64 (9), .int .i64 (4)], .int .i64 (7), .int .i64 (2)], .bool true),
  ([.agg #[.int .i64 (0), .int .i64 (0), .int .i64 (9), .int .i64 (4)], .int .i64 (8), .int .i64 (2)], .bool true),
  ([.agg #[.int .i64 (0), .int .i64 (0), .int .i64 (9), .int .i64 (4)], .int .i64 (0), .int .i64 (3)], .bool true),
  ([.agg #[.int .i64 (0), .int .i64 (0), .int .i64 (9), .int .i64 (4)], .int .i64 (1), .int .i64 (3)], .bool true),
  ([.agg #[.int .i64 (0), .int .i64 (0), .int .i64 (9), .int .i64 (4)], .int .i64 (2), .int .i64 (3)], .bool true),
  ([.agg #[.int .i64 (0), .int .i64 (0), .int .i64 (9), .int .i64 (4)], .int .i64 (3), .int .i64 (3)], .bool true),
  ([.agg #[.int .i64 (0), .int .i64 (0), .int .i64 (9), .int .i64 (4)], .int .i64 (4), .int .i64 (3)], .bool true),
  ([.agg #[.int .i64 (0), .int .i64 (0), .int .i64 (9), .int .i64 (4)], .int .i64 (5), .int .i64 (3)], .bool true),
  ([.agg #[.int .i64 (0), .int .i64 (0), .int .i64 (9), .int .i64 (4)], .int .i64 (6), .int .i64 (3)], .bool true),
  ([.agg #[.int .i64 (0), .int .i64 (0), .int .i64 (9), .int .i64 (4)], .int .i64 (7), .int .i64 (3)], .bool true),
  ([.agg #[.int .i64 (0), .int .i64 (0), .int .i64 (9), .int .i64 (4)], .int .i64 (8), .int .i64 (3)], .bool true)]
noncomputable def tab87 : List (List Value × Value) := [([.int .i8 (0)], .int .u8 (45)),
  ([.int .i8 (1)], .int .u8 (76))]
noncomputable def tab90 : List (List Value × Value) := [([.string ⟨#[32, 32, 32, 32, 226, 148, 130, 32, 32, 32, 32]⟩], .tuple #[.int .i32 (32), .int .i64 (1)]),
  ([.string ⟨#[32, 32, 32, 226, 148, 130, 32, 32, 32, 32]⟩], .tuple #[.int .i32 (32), .int .i64 (1)]),
  ([.string ⟨#[32, 32, 226, 148, 130, 32, 32, 32, 32]⟩], .tuple #[.int .i32 (32), .int .i64 (1)]),
  ([.string ⟨#[32, 226, 148, 130, 32, 32, 32, 32]⟩], .tuple #[.int .i32 (32), .int .i64 (1)]),
  ([.string ⟨#[226, 148, 130, 32, 32, 32, 32]⟩], .tuple #[.int .i32 (9474), .int .i64 (3)]),
  ([.string ⟨#[32, 32, 32, 32]⟩], .tuple #[.int .i32 (32), .int .i64 (1)]),
  ([.string ⟨#[32, 32, 32]⟩], .tuple #[.int .i32 (32), .int .i64 (1)]),
  ([.string ⟨#[32, 32]⟩], .tuple #[.int .i32 (32), .int .i64 (1)]),
  ([.string ⟨#[32]⟩], .tuple #[.int .i32 (32), .int .i64 (1)])]
noncomputable def tab97 : List (List Value × Value) := [([.string ⟨#[104, 105]⟩], .tuple #[.agg #[.string ⟨#[]⟩, .int .i64 (0)], .bool false]),
  ([.string ⟨#[104]⟩], .tuple #[.agg #[.string ⟨#[104]⟩, .int .i64 (1)], .bool true]),
  ([.string ⟨#[105]⟩], .tuple #[.agg #[.string ⟨#[105]⟩, .int .i64 (1)], .bool true]),
  ([.string ⟨#[32]⟩], .tuple #[.agg #[.string ⟨#[32]⟩, .int .i64 (1)], .bool true])]
noncomputable def tab119 : List (List Value × Value) := [([.int .u8 (104)], .tuple #[.int .i64 (1), .int .u8 (0), .int .u8 (0)]),
  ([.int .u8 (105)], .tuple #[.int .i64 (1), .int .u8 (0), .int .u8 (0)])]
noncomputable def tab122 : List (List Value × Value) := [([.string ⟨#[104]⟩], .int .i64 (1)),
  ([.string ⟨#[105]⟩], .int .i64 (1))]
noncomputable def tab153 : List (List Value × Value) := [([.int .i32 (32)], .int .i64 (1)),
  ([.int .i32 (9474)], .int .i64 (1))]
noncomputable def tab200 : List (List Value × Value) := [([.string ⟨#[45, 82, 76, 72, 68]⟩, .int .u8 (45)], .int .i64 (0)),
  ([.string ⟨#[45, 82, 76, 72, 68]⟩, .int .u8 (76)], .int .i64 (2))]
noncomputable def kn2 : Kn := ⟨fun f a => bif Nat.beq f 200 then look tab200 a else bif Nat.beq f 153 then look tab153 a else bif Nat.beq f 122 then look tab122 a else bif Nat.beq f 119 then look tab119 a else bif Nat.beq f 97 then look tab97 a else bif Nat.beq f 90 then look tab90 a else bif Nat.beq f 87 then look tab87 a else bif Nat.beq f 70 then look tab70 a else bif Nat.beq f 69 then look tab69 a else bif Nat.beq f 65 then look tab65 a else bif Nat.beq f 64 then look tab64 a else bif Nat.beq f 56 then look tab56 a else bif Nat.beq f 53 then look tab53 a else bif Nat.beq f 52 then look tab52 a else bif Nat.beq f 44 then look tab44 a else bif Nat.beq f 41 then look tab41 a else bif Nat.beq f 39 then look tab39 a else bif Nat.beq f 33 then look tab33 a else bif Nat.beq f 29 then look tab29 a else none, 84, 999998, 5⟩

theorem tab29_ok : tabOk Tryz.prog kn0 20000 29 tab29 = true := by kernel_rfl
theorem tab33_ok : tabOk Tryz.prog kn0 20000 33 tab33 = true := by kernel_rfl
theorem tab39_ok : tabOk Tryz.prog kn0 20000 39 tab39 = true := by kernel_rfl
theorem tab41_ok : tabOk Tryz.prog kn0 20000 41 tab41 = true := by kernel_rfl
theorem tab44_ok : tabOk Tryz.prog kn0 20000 44 tab44 = true := by kernel_rfl
theorem tab52_ok : tabOk Tryz.prog kn0 20000 52 tab52 = true := by kernel_rfl
theorem tab53_ok : tabOk Tryz.prog kn0 20000 53 tab53 = true := by kernel_rfl
theorem tab56_ok : tabOk Tryz.prog kn0 20000 56 tab56 = true := by kernel_rfl
theorem tab64_ok : tabOk Tryz.prog kn0 20000 64 tab64 = true := by kernel_rfl
theorem tab65_ok : tabOk Tryz.prog kn0 20000 65 tab65 = true := by kernel_rfl
end Go.Eng
