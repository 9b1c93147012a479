/- Part of the proof of this seat's closed statement by the abstract machine: tables of closed answers, the run. No condition. -/
import Derived.Test.YtdchgemnlcdomaaGreatDoorProg
import Derived.KernelRfl
import Derived.Test.YtdchgemnlcdomaaGreatDoorE30
namespace Go.Eng
open Go Go.Proofs
set_option maxRecDepth 100000
noncomputable def kn0 : Kn := { kn := fun _ _ => none, ne := 170, mz := 171, u8 := 5 }
noncomputable def tab92 : List (List Value × Value) := [([.int .i32 (97)], .int .i8 (9)),
  ([.int .i32 (98)], .int .i8 (9)),
  ([.int .i32 (32)], .int .i8 (9)),
  ([.int .i32 (99)], .int .i8 (9)),
  ([.int .i32 (100)], .int .i8 (9)),
  ([.int .i32 (101)], .int .i8 (9)),
  ([.int .i32 (120)], .int .i8 (9)),
  ([.int .i32 (8230)], .int .i8 (9))]
noncomputable def tab4 : List (List Value × Value) := [([.string ⟨#[97, 98, 32, 99, 100, 101]⟩], .agg #[.int .i8 (1), .string ⟨#[]⟩, .string ⟨#[]⟩, .slice none 0 0, .int .i8 (0), .int .i64 (0), .int .i64 (0), .int .i64 (0), .int .i64 (0), .int .i8 (0), .int .i64 (0), .int .i64 (0), .int .i64 (0), .int .i64 (0), .int .i64 (0), .int .i64 (0), .int .i64 (0), .int .i64 (0), .int .i64 (0), .int .i8 (0), .int .i8 (0), .int .i8 (0), .string ⟨#[97, 98, 32, 99, 100, 101]⟩, .int .i8 (0), .int .i32 (0), .int .i32 (0), .int .u8 (0), .int .u8 (0), .slice none 0 0, .int .i64 (0), .int .i64 (0), .int .i64 (0), .int .i64 (0), .int .u8 (0)]),
  ([.string ⟨#[120]⟩], .agg #[.int .i8 (1), .string ⟨#[]⟩, .string ⟨#[]⟩, .slice none 0 0, .int .i8 (0), .int .i64 (0), .int .i64 (0), .int .i64 (0), .int .i64 (0), .int .i8 (0), .int .i64 (0), .int .i64 (0), .int .i64 (0), .int .i64 (0), .int .i64 (0), .int .i64 (0), .int .i64 (0), .int .i64 (0), .int .i64 (0), .int .i8 (0), .int .i8 (0), .int .i8 (0), .string ⟨#[120]⟩, .int .i8 (0), .int .i32 (0), .int .i32 (0), .int .u8 (0), .int .u8 (0), .slice none 0 0, .int .i64 (0), .int .i64 (0), .int .i64 (0), .int .i64 (0), .int .u8 (0)]),
  ([.string ⟨#[97]⟩], .agg #[.int .i8 (1), .string ⟨#[]⟩, .string ⟨#[]⟩, .slice none 0 0, .int .i8 (0), .int .i64 (0), .int .i64 (0), .int .i64 (0), .int .i64 (0), .int .i8 (0), .int .i64 (0), .int .i64 (0), .int .i64 (0), .int .i64 (0), .int .i64 (0), .int .i64 (0), .int .i64 (0), .int .i64 (0), .int .i64 (0), .int .i8 (0), .int .i8 (0), .int .i8 (0), .string ⟨#[97]⟩, .int .i8 (0), .int .i32 (0), .int .i32 (0), .int .u8 (0), .int .u8 (0), .slice none 0 0, .int .i64 (0), .int .i64 (0), .int .i64 (0), .int .i64 (0), .int .u8 (0)]),
  ([.string ⟨#[98, 98]⟩], .agg #[.int .i8 (1), .string ⟨#[]⟩, .string ⟨#[]⟩, .slice none 0 0, .int .i8 (0), .int .i64 (0), .int .i64 (0), .int .i64 (0), .int .i64 (0), .int .i8 (0), .int .i64 (0), .int .i64 (0), .int .i64 (0), .int .i64 (0), .int .i64 (0), .int .i64 (0), .int .i64 (0), .int .i64 (0), .int .i64 (0), .int .i8 (0), .int .i8 (0), .int .i8 (0), .string ⟨#[98, 98]⟩, .int .i8 (0), .int .i32 (0), .int .i32 (0), .int .u8 (0), .int .u8 (0), .slice none 0 0, .int .i64 (0), .int .i64 (0), .int .i64 (0), .int .i64 (0), .int .u8 (0)]),
  ([.string ⟨#[99]⟩], .agg #[.int .i8 (1), .string ⟨#[]⟩, .string ⟨#[]⟩, .slice none 0 0, .int .i8 (0), .int .i64 (0), .int .i64 (0), .int .i64 (0), .int .i64 (0), .int .i8 (0), .int .i64 (0), .int .i64 (0), .int .i64 (0), .int .i64 (0), .int .i64 (0), .int .i64 (0), .int .i64 (0), .int .i64 (0), .int .i64 (0), .int .i8 (0), .int .i8 (0), .int .i8 (0), .string ⟨#[99]⟩, .int .i8 (0), .int .i32 (0), .int .i32 (0), .int .u8 (0), .int .u8 (0), .slice none 0 0, .int .i64 (0), .int .i64 (0), .int .i64 (0), .int .i64 (0), .int .u8 (0)])]
noncomputable def tab16 : List (List Value × Value) := [([.int .i64 (3)], .int .i64 (3)),
  ([.int .i64 (6)], .int .i64 (6)),
  ([.int .i64 (1)], .int .i64 (1)),
  ([.int .i64 (5)], .int .i64 (5)),
  ([.int .i64 (2)], .int .i64 (2)),
  ([.int .i64 (0)], .int .i64 (0)),
  ([.int .i64 (8)], .int .i64 (8)),
  ([.int .i64 (11)], .int .i64 (11)),
  ([.int .i64 (4)], .int .i64 (4)),
  ([.int .i64 (9)], .int .i64 (9)),
  ([.int .i64 (7)], .int .i64 (7)),
  ([.int .i64 (10)], .int .i64 (10))]
noncomputable def tab19 : List (List Value × Value) := [([.int .i8 (1)], .bool true),
  ([.int .i8 (2)], .bool false),
  ([.int .i8 (3)], .bool false),
  ([.int .i8 (5)], .bool false),
  ([.int .i8 (8)], .bool true),
  ([.int .i8 (4)], .bool false),
  ([.int .i8 (6)], .bool false),
  ([.int .i8 (10)], .bool true),
  ([.int .i8 (11)], .bool true),
  ([.int .i8 (7)], .bool true)]
noncomputable def tab36 : List (List Value × Value) := [([.string ⟨#[97, 98, 32, 99, 100, 101]⟩, .int .i8 (0)], .int .i64 (3)),
  ([.string ⟨#[120]⟩, .int .i8 (0)], .int .i64 (1)),
  ([.string ⟨#[97]⟩, .int .i8 (0)], .int .i64 (1)),
  ([.string ⟨#[98, 98]⟩, .int .i8 (0)], .int .i64 (2)),
  ([.string ⟨#[99]⟩, .int .i8 (0)], .int .i64 (1))]
noncomputable def tab38 : List (List Value × Value) := [([.string ⟨#[97, 98, 32, 99, 100, 101]⟩], .int .i64 (6)),
  ([.string ⟨#[120]⟩], .int .i64 (1)),
  ([.string ⟨#[97]⟩], .int .i64 (1)),
  ([.string ⟨#[98, 98]⟩], .int .i64 (2)),
  ([.string ⟨#[99]⟩], .int .i64 (1))]
noncomputable def tab40 : List (List Value × Value) := [([.string ⟨#[97, 98, 32, 99, 100, 101]⟩, .int .i64 (6), .int .i8 (0)], .int .i64 (1)),
  ([.string ⟨#[97, 98, 32, 99, 100, 101]⟩, .int .i64 (5), .int .i8 (0)], .int .i64 (2)),
  ([.string ⟨#[97, 98, 32, 99, 100, 101]⟩, .int .i64 (0), .int .i8 (0)], .int .i64 (0)),
  ([.string ⟨#[120]⟩, .int .i64 (1), .int .i8 (0)], .int .i64 (1)),
  ([.string ⟨#[97, 98, 32, 99, 100, 101]⟩, .int .i64 (3), .int .i8 (0)], .int .i64 (2)),
  ([.string ⟨#[97, 98, 32, 99, 100, 101]⟩, .int .i64 (2), .int .i8 (0)], .int .i64 (3)),
  ([.string ⟨#[120]⟩, .int .i64 (3), .int .i8 (0)], .int .i64 (1)),
  ([.string ⟨#[97]⟩, .int .i64 (1), .int .i8 (0)], .int .i64 (1)),
  ([.string ⟨#[98, 98]⟩, .int .i64 (7), .int .i8 (0)], .int .i64 (1)),
  ([.string ⟨#[99]⟩, .int .i64 (1), .int .i8 (0)], .int .i64 (1))]
noncomputable def tab65 : List (List Value × Value) := [([.string ⟨#[49, 32, 50, 32, 51]⟩], .int .i64 (3))]
noncomputable def tab66 : List (List Value × Value) := [([.agg #[.int .i8 (0), .int .i64 (0), .int .i64 (0), .int .i64 (0), .int .i64 (0)]], .bool true),
  ([.agg #[.int .i8 (1), .int .i64 (6), .int .i64 (0), .int .i64 (3), .int .i64 (0)]], .bool true),
  ([.agg #[.int .i8 (1), .int .i64 (1), .int .i64 (0), .int .i64 (1), .int .i64 (0)]], .bool true),
  ([.agg #[.int .i8 (1), .int .i64 (2), .int .i64 (0), .int .i64 (0), .int .i64 (0)]], .bool true),
  ([.agg #[.int .i8 (1), .int .i64 (3), .int .i64 (0), .int .i64 (1), .int .i64 (0)]], .bool true),
  ([.agg #[.int .i8 (3), .int .i64 (1), .int .i64 (0), .int .i64 (0), .int .i64 (0)]], .bool true),
  ([.agg #[.int .i8 (1), .int .i64 (1), .int .i64 (0), .int .i64 (0), .int .i64 (0)]], .bool true)]
noncomputable def tab67 : List (List Value × Value) := [([.int .i64 (0), .int .i64 (4096)], .bool true),
  ([.int .i64 (0), .int .i64 (4)], .bool true),
  ([.int .i64 (0), .int .i64 (5)], .bool true),
  ([.int .i64 (0), .int .i64 (2)], .bool true),
  ([.int .i64 (1), .int .i64 (4096)], .bool true),
  ([.int .i64 (2), .int .i64 (4096)], .bool true),
  ([.int .i64 (1), .int .i64 (4)], .bool true),
  ([.int .i64 (5), .int .i64 (5)], .bool true),
  ([.int .i64 (3), .int .i64 (4096)], .bool true)]
noncomputable def tab68 : List (List Value × Value) := [([.int .i32 (0)], .bool true)]
noncomputable def tab70 : List (List Value × Value) := [([.int .i64 (3), .agg #[.int .i8 (0), .int .i64 (0), .int .i64 (0), .int .i64 (0), .int .i64 (0)]], .int .i64 (3)),
  ([.int .i64 (1), .agg #[.int .i8 (0), .int .i64 (0), .int .i64 (0), .int .i64 (0), .int .i64 (0)]], .int .i64 (1)),
  ([.int .i64 (6), .agg #[.int .i8 (0), .int .i64 (0), .int .i64 (0), .int .i64 (0), .int .i64 (0)]], .int .i64 (6)),
  ([.int .i64 (2), .agg #[.int .i8 (0), .int .i64 (0), .int .i64 (0), .int .i64 (0), .int .i64 (0)]], .int .i64 (2)),
  ([.int .i64 (2), .agg #[.int .i8 (1), .int .i64 (2), .int .i64 (0), .int .i64 (0), .int .i64 (0)]], .int .i64 (2)),
  ([.int .i64 (1), .agg #[.int .i8 (3), .int .i64 (1), .int .i64 (0), .int .i64 (0), .int .i64 (0)]], .int .i64 (1))]
noncomputable def tab79 : List (List Value × Value) := [([.string ⟨#[97]⟩], .int .i64 (1)),
  ([.string ⟨#[98, 98, 98]⟩], .int .i64 (3)),
  ([.string ⟨#[98]⟩], .int .i64 (1))]
noncomputable def tab83 : List (List Value × Value) := [([.agg #[.int .i8 (0), .int .i8 (0), .int .i8 (0), .int .i8 (0)]], .int .i32 (32)),
  ([.agg #[.int .i8 (1), .int .i8 (0), .int .i8 (1), .int .i8 (0)]], .int .i32 (9474)),
  ([.agg #[.int .i8 (0), .int .i8 (1), .int .i8 (0), .int .i8 (1)]], .int .i32 (9472)),
  ([.agg #[.int .i8 (1), .int .i8 (1), .int .i8 (1), .int .i8 (1)]], .int .i32 (9532))]
noncomputable def tab85 : List (List Value × Value) := [([.string ⟨#[97]⟩, .int .i64 (1), .int .i8 (0)], .string ⟨#[97]⟩),
  ([.string ⟨#[98, 98, 98]⟩, .int .i64 (3), .int .i8 (0)], .string ⟨#[98, 98, 98]⟩),
  ([.string ⟨#[97]⟩, .int .i64 (5), .int .i8 (0)], .string ⟨#[97, 32, 32, 32, 32]⟩),
  ([.string ⟨#[]⟩, .int .i64 (0), .int .i8 (0)], .string ⟨#[]⟩)]
noncomputable def tab86 : List (List Value × Value) := [([.string ⟨#[97]⟩, .int .i64 (1), .string ⟨#[226, 128, 166]⟩, .int .i8 (1)], .string ⟨#[97]⟩),
  ([.string ⟨#[98, 98, 98]⟩, .int .i64 (3), .string ⟨#[226, 128, 166]⟩, .int .i8 (1)], .string ⟨#[98, 98, 98]⟩),
  ([.string ⟨#[97]⟩, .int .i64 (5), .string ⟨#[226, 128, 166]⟩, .int .i8 (1)], .string ⟨#[97]⟩),
  ([.string ⟨#[97]⟩, .int .i64 (0), .string ⟨#[226, 128, 166]⟩, .int .i8 (1)], .string ⟨#[]⟩),
  ([.string ⟨#[98]⟩, .int .i64 (0), .string ⟨#[226, 128, 166]⟩, .int .i8 (1)], .string ⟨#[]⟩)]
noncomputable def tab88 : List (List Value × Value) := [([.string ⟨#[226, 148, 128]⟩, .int .i64 (0)], .string ⟨#[]⟩)]
noncomputable def tab102 : List (List Value × Value) := [([.int .i64 (8)], .int .i64 (8)),
  ([.int .i64 (1)], .int .i64 (1)),
  ([.int .i64 (5)], .int .i64 (5)),
  ([.int .i64 (4096)], .int .i64 (4096)),
  ([.int .i64 (9)], .int .i64 (9)),
  ([.int .i64 (0)], .int .i64 (0))]
noncomputable def tab103 : List (List Value × Value) := [([.int .i64 (6), .agg #[.int .i8 (1), .int .i64 (6), .int .i64 (0), .int .i64 (3), .int .i64 (0)]], .int .i64 (6)),
  ([.int .i64 (1), .agg #[.int .i8 (1), .int .i64 (1), .int .i64 (0), .int .i64 (1), .int .i64 (0)]], .int .i64 (1)),
  ([.int .i64 (3), .agg #[.int .i8 (1), .int .i64 (3), .int .i64 (0), .int .i64 (1), .int .i64 (0)]], .int .i64 (3)),
  ([.int .i64 (1), .agg #[.int .i8 (1), .int .i64 (1), .int .i64 (0), .int .i64 (0), .int .i64 (0)]], .int .i64 (1)),
  ([.int .i64 (2), .agg #[.int .i8 (1), .int .i64 (2), .int .i64 (0), .int .i64 (0), .int .i64 (0)]], .int .i64 (2))]
noncomputable def tab108 : List (List Value × Value) := [([.int .i64 (2), .int .i64 (1), .int .i64 (64)], .int .i64 (2)),
  ([.int .i64 (0), .int .i64 (1), .int .i64 (2)], .int .i64 (1)),
  ([.int .i64 (0), .int .i64 (1), .int .i64 (4096)], .int .i64 (1)),
  ([.int .i64 (-1), .int .i64 (-1), .int .i64 (1)], .int .i64 (-1)),
  ([.int .i64 (-1), .int .i64 (-1), .int .i64 (4096)], .int .i64 (-1)),
  ([.int .i64 (1), .int .i64 (0), .int .i64 (4096)], .int .i64 (1)),
  ([.int .i64 (2), .int .i64 (0), .int .i64 (4096)], .int .i64 (2)),
  ([.int .i64 (4096), .int .i64 (0), .int .i64 (4096)], .int .i64 (4096)),
  ([.int .i64 (9), .int .i64 (0), .int .i64 (4096)], .int .i64 (9)),
  ([.int .i64 (7), .int .i64 (0), .int .i64 (4096)], .int .i64 (7))]
noncomputable def tab110 : List (List Value × Value) := [([.slice none 0 0, .func (.func 111) #[] #[]], .tuple #[])]
noncomputable def tab138 : List (List Value × Value) := [([.agg #[.int .i8 (3), .int .i64 (1), .int .i64 (0), .int .i64 (0), .int .i64 (0)]], .int .i64 (8192))]
noncomputable def tab144 : List (List Value × Value) := [([.string ⟨#[97, 9, 98, 98, 98]⟩, .string ⟨#[10]⟩], .int .i64 (0)),
  ([.string ⟨#[97, 9, 98, 98, 98]⟩, .string ⟨#[9]⟩], .int .i64 (1)),
  ([.string ⟨#[97, 10, 98]⟩, .string ⟨#[10]⟩], .int .i64 (1)),
  ([.string ⟨#[97]⟩, .string ⟨#[9]⟩], .int .i64 (0)),
  ([.string ⟨#[98]⟩, .string ⟨#[9]⟩], .int .i64 (0))]
noncomputable def tab145 : List (List Value × Value) := [([.string ⟨#[97, 9, 98, 98, 98]⟩, .string ⟨#[9]⟩], .int .i64 (1)),
  ([.string ⟨#[97, 10, 98]⟩, .string ⟨#[10]⟩], .int .i64 (1))]
noncomputable def knA : Kn := { kn := fun f a => bif Nat.beq f 92 then look tab92 a else none, ne := 170, mz := 171, u8 := 5 }
noncomputable def kn2 : Kn := { kn := fun f a => bif Nat.beq f 145 then look tab145 a else bif Nat.beq f 144 then look tab144 a else bif Nat.beq f 138 then look tab138 a else bif Nat.beq f 110 then look tab110 a else bif Nat.beq f 108 then look tab108 a else bif Nat.beq f 103 then look tab103 a else bif Nat.beq f 102 then look tab102 a else bif Nat.beq f 88 then look tab88 a else bif Nat.beq f 86 then look tab86 a else bif Nat.beq f 85 then look tab85 a else bif Nat.beq f 83 then look tab83 a else bif Nat.beq f 79 then look tab79 a else bif Nat.beq f 70 then look tab70 a else bif Nat.beq f 68 then look tab68 a else bif Nat.beq f 67 then look tab67 a else bif Nat.beq f 66 then look tab66 a else bif Nat.beq f 65 then look tab65 a else bif Nat.beq f 40 then look tab40 a else bif Nat.beq f 38 then look tab38 a else bif Nat.beq f 36 then look tab36 a else bif Nat.beq f 19 then look tab19 a else bif Nat.beq f 16 then look tab16 a else bif Nat.beq f 4 then look tab4 a else bif Nat.beq f 92 then look tab92 a else none, ne := 170, mz := 171, u8 := 5 }
end Go.Eng
