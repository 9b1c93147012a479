import Derived.Test.YtlenbcmgjancmaaGreatDoorMn21
import Derived.Deep.Upon
set_option linter.unusedVariables false
set_option linter.unusedSimpArgs false
namespace Go.Proofs.YtlenbcmgjancmaaGreatDoor
open Go.RowKit
def nodeL (kd:Int) (kids:Value) (gap p0 p1 p2 p3 bd md:Int) (t:ByteArray):List Value:=[.int .i8 kd,.string ⟨#[]⟩,.string ⟨#[]⟩,kids,.int .i8 0,.int .i64 0,.int .i64 0,.int .i64 0,.int .i64 0,.int .i8 0,.int .i64 0,.int .i64 0,.int .i64 0,.int .i64 0,.int .i64 gap,.int .i64 p0,.int .i64 p1,.int .i64 p2,.int .i64 p3,.int .i8 bd,.int .i8 0,.int .i8 0,.string t,.int .i8 md,.int .i32 0,.int .i32 0,.int .u8 0,.int .u8 0,.slice none 0 0,.int .i64 0,.int .i64 0,.int .i64 0,.int .i64 0,.int .u8 0]
theorem NodeAt.cells {w:World} {g o:Nat} {kd:Int} {kids:Value} {gap p0 p1 p2 p3 bd md:Int} {t:ByteArray} (h:NodeAt w g o kd kids gap p0 p1 p2 p3 bd md t):∀ (j:Nat) (u:Value),(nodeL kd kids gap p0 p1 p2 p3 bd md t)[j]?=some u→w.cell? ⟨g,o+j,none⟩=some u
 | 0,u,e=>by obtain rfl:=Option.some.inj e;exact h.kd
 | 1,u,e=>by obtain rfl:=Option.some.inj e;exact h.id
 | 2,u,e=>by obtain rfl:=Option.some.inj e;exact h.cl
 | 3,u,e=>by obtain rfl:=Option.some.inj e;exact h.kids
 | 4,u,e=>by obtain rfl:=Option.some.inj e;exact h.w0
 | 5,u,e=>by obtain rfl:=Option.some.inj e;exact h.w1
 | 6,u,e=>by obtain rfl:=Option.some.inj e;exact h.w2
 | 7,u,e=>by obtain rfl:=Option.some.inj e;exact h.w3
 | 8,u,e=>by obtain rfl:=Option.some.inj e;exact h.w4
 | 9,u,e=>by obtain rfl:=Option.some.inj e;exact h.h0
 | 10,u,e=>by obtain rfl:=Option.some.inj e;exact h.h1
 | 11,u,e=>by obtain rfl:=Option.some.inj e;exact h.h2
 | 12,u,e=>by obtain rfl:=Option.some.inj e;exact h.h3
 | 13,u,e=>by obtain rfl:=Option.some.inj e;exact h.h4
 | 14,u,e=>by obtain rfl:=Option.some.inj e;exact h.gap
 | 15,u,e=>by obtain rfl:=Option.some.inj e;exact h.p0
 | 16,u,e=>by obtain rfl:=Option.some.inj e;exact h.p1
 | 17,u,e=>by obtain rfl:=Option.some.inj e;exact h.p2
 | 18,u,e=>by obtain rfl:=Option.some.inj e;exact h.p3
 | 19,u,e=>by obtain rfl:=Option.some.inj e;exact h.bd
 | 20,u,e=>by obtain rfl:=Option.some.inj e;exact h.al
 | 21,u,e=>by obtain rfl:=Option.some.inj e;exact h.cr
 | 22,u,e=>by obtain rfl:=Option.some.inj e;exact h.tx
 | 23,u,e=>by obtain rfl:=Option.some.inj e;exact h.md
 | 24,u,e=>by obtain rfl:=Option.some.inj e;exact h.fg
 | 25,u,e=>by obtain rfl:=Option.some.inj e;exact h.bg
 | 26,u,e=>by obtain rfl:=Option.some.inj e;exact h.ad
 | 27,u,e=>by obtain rfl:=Option.some.inj e;exact h.dr
 | 28,u,e=>by obtain rfl:=Option.some.inj e;exact h.cols
 | 29,u,e=>by obtain rfl:=Option.some.inj e;exact h.x0
 | 30,u,e=>by obtain rfl:=Option.some.inj e;exact h.x1
 | 31,u,e=>by obtain rfl:=Option.some.inj e;exact h.x2
 | 32,u,e=>by obtain rfl:=Option.some.inj e;exact h.x3
 | 33,u,e=>by obtain rfl:=Option.some.inj e;exact h.fl
 |j+34,u,e=>by simp [nodeL] at e
theorem zeroNode:(Tryz.prog.info? 46).map (fun i=>(i.zero,i.size,i.bytes))=some (some (.agg (nodeL 0 (.slice none 0 0) 0 0 0 0 0 0 0 ⟨#[]⟩).toArray),34,288):=by kernel_rfl
end Go.Proofs.YtlenbcmgjancmaaGreatDoor
