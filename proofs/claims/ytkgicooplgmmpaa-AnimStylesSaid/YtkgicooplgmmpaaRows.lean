/-
  No cell of these rows narrows 'for every input' (looked for: loops, veiled, ifaces, maps, wideKeys, modest, calm, conditions, laid).
  DERIVED. THE GIVEN ROWS OF THIS SEAT. 10 by the template 'for every input the law returns true; each argument reads behind the call as it read before'; 0 by the template 'total and deterministic' (their statements: YtkgicooplgmmpaaTotals.lean).
  GIVEN WITH THE SEED: the statements are not yours to turn. If you find one false, say at which input.
  Laid BY PROGRAM, IN A SANDBOX (cutbox-rows.mjs): the forced cells as the released guide's own fill.sh prints them over the translation 05bd725871341f5e… (all of the seat's roots in one cut). By AI agents, Wed Nov 11 2026. No macro, syntax, notation, axiom, sorry.
-/
import Derived.Test.YtkgicooplgmmpaaChecked
import GoSem.Claim
import GoSem.ClaimJoined
import GoSem.ClaimMapViews
import Derived.JoinedTies
import Derived.KernelRfl
namespace Go.Proofs.Ytkgicooplgmmpaa
/- THE CELL 'sum', in the pinned program and in every row, IS THE sha256 OF THE DUMP (.gsa) THAT YtkgicooplgmmpaaProg.lean LOADS. Nothing in Lean hashes anything: it is a label: what it is worth is what the hold of that sum in a sandbox is worth. -/
noncomputable def Try.pinned : Pinned := { name := "ytkgicooplgmmpaa", sum := "05bd725871341f5ecfeed6468f0e826802760017635f1858d01007a87b8d7580", checked := Try.checked }
namespace Rows
def none {H : Type} : Left H := { results := [], args := [] }

/-- 'frescolaw24.AnimEase': WHATEVER THE INPUT: true; the input reads as it did. -/
def animEaseSpec : ChangeSpec := { name := "animEase", fn := fun _ => fun
  | [d1, d2] => { results := [.lit (.bool true)], args := [d1, d2] }
  | _ => none }
def animEaseRow : OpenClaim := { program := "ytkgicooplgmmpaa", sum := "05bd725871341f5ecfeed6468f0e826802760017635f1858d01007a87b8d7580", func := "fresco/frescolaw24.AnimEase", spec := "animEase", inPlace := ["math.archFloor", "math.Float64bits", "math.Float64frombits", "math.archTrunc"], unfollowed := true, recurses := true, apart := false }
def AnimEaseSaid : Prop := animEaseRow.holds Try.pinned (OpenSpec.ofChange animEaseSpec)

/-- ITS FALSE NEIGHBOUR: 'it returns false'. Refute it at one input. -/
def animEaseWrong : ChangeSpec := { name := "animEase", fn := fun _ => fun
  | [d1, d2] => { results := [.lit (.bool false)], args := [d1, d2] }
  | _ => none }
def AnimEaseWrongFalsely : Prop := animEaseRow.holds Try.pinned (OpenSpec.ofChange animEaseWrong)

/-- 'frescolaw24.AnimTween': WHATEVER THE INPUT: true; the input reads as it did. -/
def animTweenSpec : ChangeSpec := { name := "animTween", fn := fun _ => fun
  | [d1, d2, d3, d4] => { results := [.lit (.bool true)], args := [d1, d2, d3, d4] }
  | _ => none }
def animTweenRow : OpenClaim := { program := "ytkgicooplgmmpaa", sum := "05bd725871341f5ecfeed6468f0e826802760017635f1858d01007a87b8d7580", func := "fresco/frescolaw24.AnimTween", spec := "animTween", inPlace := ["math.archFloor", "math.Float64bits", "math.Float64frombits", "math.archTrunc"], unfollowed := true, recurses := true, apart := false }
def AnimTweenSaid : Prop := animTweenRow.holds Try.pinned (OpenSpec.ofChange animTweenSpec)

/-- ITS FALSE NEIGHBOUR: 'it returns false'. Refute it at one input. -/
def animTweenWrong : ChangeSpec := { name := "animTween", fn := fun _ => fun
  | [d1, d2, d3, d4] => { results := [.lit (.bool false)], args := [d1, d2, d3, d4] }
  | _ => none }
def AnimTweenWrongFalsely : Prop := animTweenRow.holds Try.pinned (OpenSpec.ofChange animTweenWrong)

/-- 'frescolaw24.AnimSwing': WHATEVER THE INPUT: true; the input reads as it did. -/
def animSwingSpec : ChangeSpec := { name := "animSwing", fn := fun _ => fun
  | [d1, d2] => { results := [.lit (.bool true)], args := [d1, d2] }
  | _ => none }
def animSwingRow : OpenClaim := { program := "ytkgicooplgmmpaa", sum := "05bd725871341f5ecfeed6468f0e826802760017635f1858d01007a87b8d7580", func := "fresco/frescolaw24.AnimSwing", spec := "animSwing", inPlace := ["math.Float64bits", "math.Float64frombits", "math.archFloor", "math.archTrunc"], unfollowed := true, recurses := true, apart := false }
def AnimSwingSaid : Prop := animSwingRow.holds Try.pinned (OpenSpec.ofChange animSwingSpec)

/-- ITS FALSE NEIGHBOUR: 'it returns false'. Refute it at one input. -/
def animSwingWrong : ChangeSpec := { name := "animSwing", fn := fun _ => fun
  | [d1, d2] => { results := [.lit (.bool false)], args := [d1, d2] }
  | _ => none }
def AnimSwingWrongFalsely : Prop := animSwingRow.holds Try.pinned (OpenSpec.ofChange animSwingWrong)

/-- 'frescolaw24.AnimRests': WHATEVER THE INPUT: true; the input reads as it did. -/
def animRestsSpec : ChangeSpec := { name := "animRests", fn := fun _ => fun
  | [d1, d2] => { results := [.lit (.bool true)], args := [d1, d2] }
  | _ => none }
def animRestsRow : OpenClaim := { program := "ytkgicooplgmmpaa", sum := "05bd725871341f5ecfeed6468f0e826802760017635f1858d01007a87b8d7580", func := "fresco/frescolaw24.AnimRests", spec := "animRests", inPlace := ["math.Float64bits", "math.Float64frombits", "math.archFloor", "math.archTrunc"], unfollowed := true, recurses := true, apart := false }
def AnimRestsSaid : Prop := animRestsRow.holds Try.pinned (OpenSpec.ofChange animRestsSpec)

/-- ITS FALSE NEIGHBOUR: 'it returns false'. Refute it at one input. -/
def animRestsWrong : ChangeSpec := { name := "animRests", fn := fun _ => fun
  | [d1, d2] => { results := [.lit (.bool false)], args := [d1, d2] }
  | _ => none }
def AnimRestsWrongFalsely : Prop := animRestsRow.holds Try.pinned (OpenSpec.ofChange animRestsWrong)

/-- 'frescolaw24.AnimChain': WHATEVER THE INPUT: true; the input reads as it did. -/
def animChainSpec : ChangeSpec := { name := "animChain", fn := fun _ => fun
  | [d1, d2] => { results := [.lit (.bool true)], args := [d1, d2] }
  | _ => none }
def animChainRow : OpenClaim := { program := "ytkgicooplgmmpaa", sum := "05bd725871341f5ecfeed6468f0e826802760017635f1858d01007a87b8d7580", func := "fresco/frescolaw24.AnimChain", spec := "animChain", inPlace := ["math.archFloor", "math.Float64bits", "math.Float64frombits", "math.archTrunc"], unfollowed := true, recurses := true, apart := false }
def AnimChainSaid : Prop := animChainRow.holds Try.pinned (OpenSpec.ofChange animChainSpec)

/-- ITS FALSE NEIGHBOUR: 'it returns false'. Refute it at one input. -/
def animChainWrong : ChangeSpec := { name := "animChain", fn := fun _ => fun
  | [d1, d2] => { results := [.lit (.bool false)], args := [d1, d2] }
  | _ => none }
def AnimChainWrongFalsely : Prop := animChainRow.holds Try.pinned (OpenSpec.ofChange animChainWrong)

/-- 'frescolaw24.AnimEnds': WHATEVER THE INPUT: true; the input reads as it did. -/
def animEndsSpec : ChangeSpec := { name := "animEnds", fn := fun _ => fun
  | [d1, d2, d3] => { results := [.lit (.bool true)], args := [d1, d2, d3] }
  | _ => none }
def animEndsRow : OpenClaim := { program := "ytkgicooplgmmpaa", sum := "05bd725871341f5ecfeed6468f0e826802760017635f1858d01007a87b8d7580", func := "fresco/frescolaw24.AnimEnds", spec := "animEnds", inPlace := ["math.archFloor", "math.Float64bits", "math.Float64frombits", "math.archTrunc"], unfollowed := true, recurses := true, apart := false }
def AnimEndsSaid : Prop := animEndsRow.holds Try.pinned (OpenSpec.ofChange animEndsSpec)

/-- ITS FALSE NEIGHBOUR: 'it returns false'. Refute it at one input. -/
def animEndsWrong : ChangeSpec := { name := "animEnds", fn := fun _ => fun
  | [d1, d2, d3] => { results := [.lit (.bool false)], args := [d1, d2, d3] }
  | _ => none }
def AnimEndsWrongFalsely : Prop := animEndsRow.holds Try.pinned (OpenSpec.ofChange animEndsWrong)

/-- 'frescolaw24.AnimRows': WHATEVER THE INPUT: true; the input reads as it did. -/
def animRowsSpec : ChangeSpec := { name := "animRows", fn := fun _ => fun
  | [d1, d2, d3, d4, d5, d6] => { results := [.lit (.bool true)], args := [d1, d2, d3, d4, d5, d6] }
  | _ => none }
def animRowsRow : OpenClaim := { program := "ytkgicooplgmmpaa", sum := "05bd725871341f5ecfeed6468f0e826802760017635f1858d01007a87b8d7580", func := "fresco/frescolaw24.AnimRows", spec := "animRows", inPlace := ["math.archFloor", "math.Float64bits", "math.Float64frombits", "math.archTrunc"], unfollowed := true, recurses := true, apart := false }
def AnimRowsSaid : Prop := animRowsRow.holds Try.pinned (OpenSpec.ofChange animRowsSpec)

/-- ITS FALSE NEIGHBOUR: 'it returns false'. Refute it at one input. -/
def animRowsWrong : ChangeSpec := { name := "animRows", fn := fun _ => fun
  | [d1, d2, d3, d4, d5, d6] => { results := [.lit (.bool false)], args := [d1, d2, d3, d4, d5, d6] }
  | _ => none }
def AnimRowsWrongFalsely : Prop := animRowsRow.holds Try.pinned (OpenSpec.ofChange animRowsWrong)

/-- 'frescolaw24.AnimBlend': WHATEVER THE INPUT: true; the input reads as it did. -/
def animBlendSpec : ChangeSpec := { name := "animBlend", fn := fun _ => fun
  | [d1, d2, d3] => { results := [.lit (.bool true)], args := [d1, d2, d3] }
  | _ => none }
def animBlendRow : OpenClaim := { program := "ytkgicooplgmmpaa", sum := "05bd725871341f5ecfeed6468f0e826802760017635f1858d01007a87b8d7580", func := "fresco/frescolaw24.AnimBlend", spec := "animBlend", inPlace := ["math.archFloor", "math.Float64bits", "math.Float64frombits", "math.archTrunc"], unfollowed := true, recurses := true, apart := false }
def AnimBlendSaid : Prop := animBlendRow.holds Try.pinned (OpenSpec.ofChange animBlendSpec)

/-- ITS FALSE NEIGHBOUR: 'it returns false'. Refute it at one input. -/
def animBlendWrong : ChangeSpec := { name := "animBlend", fn := fun _ => fun
  | [d1, d2, d3] => { results := [.lit (.bool false)], args := [d1, d2, d3] }
  | _ => none }
def AnimBlendWrongFalsely : Prop := animBlendRow.holds Try.pinned (OpenSpec.ofChange animBlendWrong)

/-- 'frescolaw24.AnimStyles': WHATEVER THE INPUT: true; the input reads as it did. -/
def animStylesSpec : ChangeSpec := { name := "animStyles", fn := fun _ => fun
  | [d1, d2, d3, d4, d5] => { results := [.lit (.bool true)], args := [d1, d2, d3, d4, d5] }
  | _ => none }
def animStylesRow : OpenClaim := { program := "ytkgicooplgmmpaa", sum := "05bd725871341f5ecfeed6468f0e826802760017635f1858d01007a87b8d7580", func := "fresco/frescolaw24.AnimStyles", spec := "animStyles", inPlace := ["math.archFloor", "math.Float64bits", "math.Float64frombits", "math.archTrunc"], unfollowed := true, recurses := true, apart := false }
def AnimStylesSaid : Prop := animStylesRow.holds Try.pinned (OpenSpec.ofChange animStylesSpec)

/-- ITS FALSE NEIGHBOUR: 'it returns false'. Refute it at one input. -/
def animStylesWrong : ChangeSpec := { name := "animStyles", fn := fun _ => fun
  | [d1, d2, d3, d4, d5] => { results := [.lit (.bool false)], args := [d1, d2, d3, d4, d5] }
  | _ => none }
def AnimStylesWrongFalsely : Prop := animStylesRow.holds Try.pinned (OpenSpec.ofChange animStylesWrong)

/-- 'frescolaw24.AnimKnown': WHATEVER THE INPUT: true; the input reads as it did. -/
def animKnownSpec : ChangeSpec := { name := "animKnown", fn := fun _ => fun
  | [] => { results := [.lit (.bool true)], args := [] }
  | _ => none }
def animKnownRow : OpenClaim := { program := "ytkgicooplgmmpaa", sum := "05bd725871341f5ecfeed6468f0e826802760017635f1858d01007a87b8d7580", func := "fresco/frescolaw24.AnimKnown", spec := "animKnown", inPlace := ["math.archFloor", "math.Float64bits", "math.Float64frombits", "math.archTrunc"], unfollowed := true, recurses := true, apart := false }
def AnimKnownSaid : Prop := animKnownRow.holds Try.pinned (OpenSpec.ofChange animKnownSpec)

/-- ITS FALSE NEIGHBOUR: 'it returns false'. Refute it at one input. -/
def animKnownWrong : ChangeSpec := { name := "animKnown", fn := fun _ => fun
  | [] => { results := [.lit (.bool false)], args := [] }
  | _ => none }
def AnimKnownWrongFalsely : Prop := animKnownRow.holds Try.pinned (OpenSpec.ofChange animKnownWrong)

/- THE SECOND FORM. 'bulk': how many values and letters a reading holds, each counted each time it is reached (what is shared counts as often as it is met; a slice's spare places count too). A statement '..UptoSaid' is the law's where the arguments, and the package variables that the reading takes, are together of bulk at most 1048576: NARROWER than '..Said'. Prove '..Said' where nothing that the law and all that it calls make is longer than what came in: it says more and counts as full. Else prove '..UptoSaid'. A law counts once. -/
mutual
def uptoBulk {H : Type} : DataW H → Nat
  | .lit (.string bytes) => bytes.length + 1
  | .lit _ => 1
  | .nil => 1
  | .ptr d => uptoBulk d + 1
  | .slice elems spare => uptoBulkAll elems + uptoBulkAll spare + 1
  | .agg parts => uptoBulkAll parts + 1
  | .iface _ d => uptoBulk d + 1
  | .map entries => uptoBulkEntries entries + 1
  | .held _ => 1
def uptoBulkAll {H : Type} : List (DataW H) → Nat
  | [] => 0
  | d :: r => uptoBulk d + uptoBulkAll r
def uptoBulkEntries {H : Type} : List (Lit × DataW H) → Nat
  | [] => 0
  | x :: r => uptoBulkEntry x + uptoBulkEntries r
def uptoBulkEntry {H : Type} : Lit × DataW H → Nat
  | (.string bytes, d) => bytes.length + uptoBulk d + 1
  | (_, d) => uptoBulk d + 1
 end
def uptoSmall : (H : Type) → List (DataW H) → Bool := fun _ ds => decide (uptoBulkAll ds ≤ 1048576)
def OpenSpec.upto (s : _root_.Go.ChangeSpec) : _root_.Go.OpenSpec := { _root_.Go.OpenSpec.ofChange s with cond := some uptoSmall }

/-- 'frescolaw24.AnimEase', WHERE WHAT IT READS IS OF BULK AT MOST 1048576: true; the input reads as it did. -/
def animEaseUptoRow : OpenClaim := { program := "ytkgicooplgmmpaa", sum := "05bd725871341f5ecfeed6468f0e826802760017635f1858d01007a87b8d7580", func := "fresco/frescolaw24.AnimEase", spec := "animEase", inPlace := ["math.archFloor", "math.Float64bits", "math.Float64frombits", "math.archTrunc"], unfollowed := true, recurses := true, apart := false, narrowed := true }
def AnimEaseUptoSaid : Prop := animEaseUptoRow.holds Try.pinned (OpenSpec.upto animEaseSpec)

/-- 'frescolaw24.AnimTween', WHERE WHAT IT READS IS OF BULK AT MOST 1048576: true; the input reads as it did. -/
def animTweenUptoRow : OpenClaim := { program := "ytkgicooplgmmpaa", sum := "05bd725871341f5ecfeed6468f0e826802760017635f1858d01007a87b8d7580", func := "fresco/frescolaw24.AnimTween", spec := "animTween", inPlace := ["math.archFloor", "math.Float64bits", "math.Float64frombits", "math.archTrunc"], unfollowed := true, recurses := true, apart := false, narrowed := true }
def AnimTweenUptoSaid : Prop := animTweenUptoRow.holds Try.pinned (OpenSpec.upto animTweenSpec)

/-- 'frescolaw24.AnimSwing', WHERE WHAT IT READS IS OF BULK AT MOST 1048576: true; the input reads as it did. -/
def animSwingUptoRow : OpenClaim := { program := "ytkgicooplgmmpaa", sum := "05bd725871341f5ecfeed6468f0e826802760017635f1858d01007a87b8d7580", func := "fresco/frescolaw24.AnimSwing", spec := "animSwing", inPlace := ["math.Float64bits", "math.Float64frombits", "math.archFloor", "math.archTrunc"], unfollowed := true, recurses := true, apart := false, narrowed := true }
def AnimSwingUptoSaid : Prop := animSwingUptoRow.holds Try.pinned (OpenSpec.upto animSwingSpec)

/-- 'frescolaw24.AnimRests', WHERE WHAT IT READS IS OF BULK AT MOST 1048576: true; the input reads as it did. -/
def animRestsUptoRow : OpenClaim := { program := "ytkgicooplgmmpaa", sum := "05bd725871341f5ecfeed6468f0e826802760017635f1858d01007a87b8d7580", func := "fresco/frescolaw24.AnimRests", spec := "animRests", inPlace := ["math.Float64bits", "math.Float64frombits", "math.archFloor", "math.archTrunc"], unfollowed := true, recurses := true, apart := false, narrowed := true }
def AnimRestsUptoSaid : Prop := animRestsUptoRow.holds Try.pinned (OpenSpec.upto animRestsSpec)

/-- 'frescolaw24.AnimChain', WHERE WHAT IT READS IS OF BULK AT MOST 1048576: true; the input reads as it did. -/
def animChainUptoRow : OpenClaim := { program := "ytkgicooplgmmpaa", sum := "05bd725871341f5ecfeed6468f0e826802760017635f1858d01007a87b8d7580", func := "fresco/frescolaw24.AnimChain", spec := "animChain", inPlace := ["math.archFloor", "math.Float64bits", "math.Float64frombits", "math.archTrunc"], unfollowed := true, recurses := true, apart := false, narrowed := true }
def AnimChainUptoSaid : Prop := animChainUptoRow.holds Try.pinned (OpenSpec.upto animChainSpec)

/-- 'frescolaw24.AnimEnds', WHERE WHAT IT READS IS OF BULK AT MOST 1048576: true; the input reads as it did. -/
def animEndsUptoRow : OpenClaim := { program := "ytkgicooplgmmpaa", sum := "05bd725871341f5ecfeed6468f0e826802760017635f1858d01007a87b8d7580", func := "fresco/frescolaw24.AnimEnds", spec := "animEnds", inPlace := ["math.archFloor", "math.Float64bits", "math.Float64frombits", "math.archTrunc"], unfollowed := true, recurses := true, apart := false, narrowed := true }
def AnimEndsUptoSaid : Prop := animEndsUptoRow.holds Try.pinned (OpenSpec.upto animEndsSpec)

/-- 'frescolaw24.AnimRows', WHERE WHAT IT READS IS OF BULK AT MOST 1048576: true; the input reads as it did. -/
def animRowsUptoRow : OpenClaim := { program := "ytkgicooplgmmpaa", sum := "05bd725871341f5ecfeed6468f0e826802760017635f1858d01007a87b8d7580", func := "fresco/frescolaw24.AnimRows", spec := "animRows", inPlace := ["math.archFloor", "math.Float64bits", "math.Float64frombits", "math.archTrunc"], unfollowed := true, recurses := true, apart := false, narrowed := true }
def AnimRowsUptoSaid : Prop := animRowsUptoRow.holds Try.pinned (OpenSpec.upto animRowsSpec)

/-- 'frescolaw24.AnimBlend', WHERE WHAT IT READS IS OF BULK AT MOST 1048576: true; the input reads as it did. -/
def animBlendUptoRow : OpenClaim := { program := "ytkgicooplgmmpaa", sum := "05bd725871341f5ecfeed6468f0e826802760017635f1858d01007a87b8d7580", func := "fresco/frescolaw24.AnimBlend", spec := "animBlend", inPlace := ["math.archFloor", "math.Float64bits", "math.Float64frombits", "math.archTrunc"], unfollowed := true, recurses := true, apart := false, narrowed := true }
def AnimBlendUptoSaid : Prop := animBlendUptoRow.holds Try.pinned (OpenSpec.upto animBlendSpec)

/-- 'frescolaw24.AnimStyles', WHERE WHAT IT READS IS OF BULK AT MOST 1048576: true; the input reads as it did. -/
def animStylesUptoRow : OpenClaim := { program := "ytkgicooplgmmpaa", sum := "05bd725871341f5ecfeed6468f0e826802760017635f1858d01007a87b8d7580", func := "fresco/frescolaw24.AnimStyles", spec := "animStyles", inPlace := ["math.archFloor", "math.Float64bits", "math.Float64frombits", "math.archTrunc"], unfollowed := true, recurses := true, apart := false, narrowed := true }
def AnimStylesUptoSaid : Prop := animStylesUptoRow.holds Try.pinned (OpenSpec.upto animStylesSpec)

/-- 'frescolaw24.AnimKnown', WHERE WHAT IT READS IS OF BULK AT MOST 1048576: true; the input reads as it did. -/
def animKnownUptoRow : OpenClaim := { program := "ytkgicooplgmmpaa", sum := "05bd725871341f5ecfeed6468f0e826802760017635f1858d01007a87b8d7580", func := "fresco/frescolaw24.AnimKnown", spec := "animKnown", inPlace := ["math.archFloor", "math.Float64bits", "math.Float64frombits", "math.archTrunc"], unfollowed := true, recurses := true, apart := false, narrowed := true }
def AnimKnownUptoSaid : Prop := animKnownUptoRow.holds Try.pinned (OpenSpec.upto animKnownSpec)

end Rows
end Go.Proofs.Ytkgicooplgmmpaa
