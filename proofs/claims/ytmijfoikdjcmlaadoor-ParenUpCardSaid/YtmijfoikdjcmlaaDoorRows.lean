/-
  NARROWER THAN 'FOR EVERY INPUT', by the rows' own cells (each row's printed sentence says how): ParenNone: laid · ParenRaw: laid · ParenPairs: laid · ParenSpans: laid · ParenAsks: laid · ParenDeep: laid · ParenWide: laid · ParenUp: laid.
  DERIVED. THE GIVEN ROWS OF THIS SEAT. 8 by the template 'for every input the law returns true; each argument reads behind the call as it read before'; 0 by the template 'total and deterministic' (their statements: YtmijfoikdjcmlaaDoorTotals.lean).
  GIVEN WITH THE SEED: the statements are not yours to turn. If you find one false, say at which input.
  Laid BY PROGRAM, IN A SANDBOX (cutbox-rows.mjs): the forced cells as the released guide's own fill.sh prints them over the translation 8983cc4e62c5904d… (all of the seat's roots in one cut). By AI agents, Wed Nov 11 2026. No macro, syntax, notation, axiom, sorry.
-/
import Derived.Test.YtmijfoikdjcmlaaDoorChecked
import GoSem.Claim
import GoSem.ClaimJoined
import GoSem.ClaimMapViews
import Derived.JoinedTies
import Derived.KernelRfl
namespace Go.Proofs.YtmijfoikdjcmlaaDoor
/- THE CELL 'sum', in the pinned program and in every row, IS THE sha256 OF THE DUMP (.gsa) THAT YtmijfoikdjcmlaaDoorProg.lean LOADS. Nothing in Lean hashes anything: it is a label: what it is worth is what the hold of that sum in a sandbox is worth. -/
noncomputable def Tryd.pinned : Pinned := { name := "ytmijfoikdjcmlaadoor", sum := "8983cc4e62c5904d1f8b03bb605341c4f44abc952cd7ae15f86c7340a9187d95", checked := Tryd.checked }
namespace Rows
def none {H : Type} : Left H := { results := [], args := [] }

/- WHAT THE LISTED PACKAGE-LEVEL VARIABLES READ AS WHEN THE CALL BEGINS. Each datum BY PROGRAM (the guide's laid-datum.mjs) off the statement by which the dump's own 'gosem.cut.vars' lays the variable. In a bare row this is a premise. The card (YtmijfoikdjcmlaaDoorCards.lean) ties it to the program's text. -/
def laid_math_bits_deBruijn64tab {H : Type} : DataW H := .agg [.lit (.int .u8 0), .lit (.int .u8 1), .lit (.int .u8 56), .lit (.int .u8 2), .lit (.int .u8 57), .lit (.int .u8 49), .lit (.int .u8 28), .lit (.int .u8 3), .lit (.int .u8 61), .lit (.int .u8 58), .lit (.int .u8 42), .lit (.int .u8 50), .lit (.int .u8 38), .lit (.int .u8 29), .lit (.int .u8 17), .lit (.int .u8 4), .lit (.int .u8 62), .lit (.int .u8 47), .lit (.int .u8 59), .lit (.int .u8 36), .lit (.int .u8 45), .lit (.int .u8 43), .lit (.int .u8 51), .lit (.int .u8 22), .lit (.int .u8 53), .lit (.int .u8 39), .lit (.int .u8 33), .lit (.int .u8 30), .lit (.int .u8 24), .lit (.int .u8 18), .lit (.int .u8 12), .lit (.int .u8 5), .lit (.int .u8 63), .lit (.int .u8 55), .lit (.int .u8 48), .lit (.int .u8 27), .lit (.int .u8 60), .lit (.int .u8 41), .lit (.int .u8 37), .lit (.int .u8 16), .lit (.int .u8 46), .lit (.int .u8 35), .lit (.int .u8 44), .lit (.int .u8 21), .lit (.int .u8 52), .lit (.int .u8 32), .lit (.int .u8 23), .lit (.int .u8 11), .lit (.int .u8 54), .lit (.int .u8 26), .lit (.int .u8 40), .lit (.int .u8 15), .lit (.int .u8 34), .lit (.int .u8 20), .lit (.int .u8 31), .lit (.int .u8 10), .lit (.int .u8 25), .lit (.int .u8 14), .lit (.int .u8 19), .lit (.int .u8 9), .lit (.int .u8 13), .lit (.int .u8 8), .lit (.int .u8 7), .lit (.int .u8 6)]

/-- 'brackenlaw5.ParenNone': WHATEVER THE INPUT: true; the input reads as it did. -/
def parenNoneSpec : ChangeSpec := { name := "parenNone", fn := fun _ => fun
  | [d1, d2] => { results := [.lit (.bool true)], args := [d1, d2] }
  | _ => none }
def parenNoneRow : OpenClaim := { program := "ytmijfoikdjcmlaadoor", sum := "8983cc4e62c5904d1f8b03bb605341c4f44abc952cd7ae15f86c7340a9187d95", func := "bracken/brackenlaw5.ParenNone", spec := "parenNone", named := ["math/bits.deBruijn64tab"], apart := false, laid := [("math/bits.deBruijn64tab", laid_math_bits_deBruijn64tab)] }
def ParenNoneSaid : Prop := parenNoneRow.holds Tryd.pinned (OpenSpec.ofChange parenNoneSpec)

/-- ITS FALSE NEIGHBOUR: 'it returns false'. Refute it at one input. -/
def parenNoneWrong : ChangeSpec := { name := "parenNone", fn := fun _ => fun
  | [d1, d2] => { results := [.lit (.bool false)], args := [d1, d2] }
  | _ => none }
def ParenNoneWrongFalsely : Prop := parenNoneRow.holds Tryd.pinned (OpenSpec.ofChange parenNoneWrong)

/-- 'brackenlaw5.ParenRaw': WHATEVER THE INPUT: true; the input reads as it did. -/
def parenRawSpec : ChangeSpec := { name := "parenRaw", fn := fun _ => fun
  | [d] => { results := [.lit (.bool true)], args := [d] }
  | _ => none }
def parenRawRow : OpenClaim := { program := "ytmijfoikdjcmlaadoor", sum := "8983cc4e62c5904d1f8b03bb605341c4f44abc952cd7ae15f86c7340a9187d95", func := "bracken/brackenlaw5.ParenRaw", spec := "parenRaw", named := ["math/bits.deBruijn64tab"], apart := false, laid := [("math/bits.deBruijn64tab", laid_math_bits_deBruijn64tab)] }
def ParenRawSaid : Prop := parenRawRow.holds Tryd.pinned (OpenSpec.ofChange parenRawSpec)

/-- ITS FALSE NEIGHBOUR: 'it returns false'. Refute it at one input. -/
def parenRawWrong : ChangeSpec := { name := "parenRaw", fn := fun _ => fun
  | [d] => { results := [.lit (.bool false)], args := [d] }
  | _ => none }
def ParenRawWrongFalsely : Prop := parenRawRow.holds Tryd.pinned (OpenSpec.ofChange parenRawWrong)

/-- 'brackenlaw5.ParenPairs': WHATEVER THE INPUT: true; the input reads as it did. -/
def parenPairsSpec : ChangeSpec := { name := "parenPairs", fn := fun _ => fun
  | [d] => { results := [.lit (.bool true)], args := [d] }
  | _ => none }
def parenPairsRow : OpenClaim := { program := "ytmijfoikdjcmlaadoor", sum := "8983cc4e62c5904d1f8b03bb605341c4f44abc952cd7ae15f86c7340a9187d95", func := "bracken/brackenlaw5.ParenPairs", spec := "parenPairs", named := ["math/bits.deBruijn64tab"], apart := false, laid := [("math/bits.deBruijn64tab", laid_math_bits_deBruijn64tab)] }
def ParenPairsSaid : Prop := parenPairsRow.holds Tryd.pinned (OpenSpec.ofChange parenPairsSpec)

/-- ITS FALSE NEIGHBOUR: 'it returns false'. Refute it at one input. -/
def parenPairsWrong : ChangeSpec := { name := "parenPairs", fn := fun _ => fun
  | [d] => { results := [.lit (.bool false)], args := [d] }
  | _ => none }
def ParenPairsWrongFalsely : Prop := parenPairsRow.holds Tryd.pinned (OpenSpec.ofChange parenPairsWrong)

/-- 'brackenlaw5.ParenSpans': WHATEVER THE INPUT: true; the input reads as it did. -/
def parenSpansSpec : ChangeSpec := { name := "parenSpans", fn := fun _ => fun
  | [d] => { results := [.lit (.bool true)], args := [d] }
  | _ => none }
def parenSpansRow : OpenClaim := { program := "ytmijfoikdjcmlaadoor", sum := "8983cc4e62c5904d1f8b03bb605341c4f44abc952cd7ae15f86c7340a9187d95", func := "bracken/brackenlaw5.ParenSpans", spec := "parenSpans", named := ["math/bits.deBruijn64tab"], apart := false, laid := [("math/bits.deBruijn64tab", laid_math_bits_deBruijn64tab)] }
def ParenSpansSaid : Prop := parenSpansRow.holds Tryd.pinned (OpenSpec.ofChange parenSpansSpec)

/-- ITS FALSE NEIGHBOUR: 'it returns false'. Refute it at one input. -/
def parenSpansWrong : ChangeSpec := { name := "parenSpans", fn := fun _ => fun
  | [d] => { results := [.lit (.bool false)], args := [d] }
  | _ => none }
def ParenSpansWrongFalsely : Prop := parenSpansRow.holds Tryd.pinned (OpenSpec.ofChange parenSpansWrong)

/-- 'brackenlaw5.ParenAsks': WHATEVER THE INPUT: true; the input reads as it did. -/
def parenAsksSpec : ChangeSpec := { name := "parenAsks", fn := fun _ => fun
  | [d1, d2, d3] => { results := [.lit (.bool true)], args := [d1, d2, d3] }
  | _ => none }
def parenAsksRow : OpenClaim := { program := "ytmijfoikdjcmlaadoor", sum := "8983cc4e62c5904d1f8b03bb605341c4f44abc952cd7ae15f86c7340a9187d95", func := "bracken/brackenlaw5.ParenAsks", spec := "parenAsks", named := ["math/bits.deBruijn64tab"], apart := false, laid := [("math/bits.deBruijn64tab", laid_math_bits_deBruijn64tab)] }
def ParenAsksSaid : Prop := parenAsksRow.holds Tryd.pinned (OpenSpec.ofChange parenAsksSpec)

/-- ITS FALSE NEIGHBOUR: 'it returns false'. Refute it at one input. -/
def parenAsksWrong : ChangeSpec := { name := "parenAsks", fn := fun _ => fun
  | [d1, d2, d3] => { results := [.lit (.bool false)], args := [d1, d2, d3] }
  | _ => none }
def ParenAsksWrongFalsely : Prop := parenAsksRow.holds Tryd.pinned (OpenSpec.ofChange parenAsksWrong)

/-- 'brackenlaw5.ParenDeep': WHATEVER THE INPUT: true; the input reads as it did. -/
def parenDeepSpec : ChangeSpec := { name := "parenDeep", fn := fun _ => fun
  | [d1, d2, d3] => { results := [.lit (.bool true)], args := [d1, d2, d3] }
  | _ => none }
def parenDeepRow : OpenClaim := { program := "ytmijfoikdjcmlaadoor", sum := "8983cc4e62c5904d1f8b03bb605341c4f44abc952cd7ae15f86c7340a9187d95", func := "bracken/brackenlaw5.ParenDeep", spec := "parenDeep", named := ["math/bits.deBruijn64tab"], apart := false, laid := [("math/bits.deBruijn64tab", laid_math_bits_deBruijn64tab)] }
def ParenDeepSaid : Prop := parenDeepRow.holds Tryd.pinned (OpenSpec.ofChange parenDeepSpec)

/-- ITS FALSE NEIGHBOUR: 'it returns false'. Refute it at one input. -/
def parenDeepWrong : ChangeSpec := { name := "parenDeep", fn := fun _ => fun
  | [d1, d2, d3] => { results := [.lit (.bool false)], args := [d1, d2, d3] }
  | _ => none }
def ParenDeepWrongFalsely : Prop := parenDeepRow.holds Tryd.pinned (OpenSpec.ofChange parenDeepWrong)

/-- 'brackenlaw5.ParenWide': WHATEVER THE INPUT: true; the input reads as it did. -/
def parenWideSpec : ChangeSpec := { name := "parenWide", fn := fun _ => fun
  | [d1, d2] => { results := [.lit (.bool true)], args := [d1, d2] }
  | _ => none }
def parenWideRow : OpenClaim := { program := "ytmijfoikdjcmlaadoor", sum := "8983cc4e62c5904d1f8b03bb605341c4f44abc952cd7ae15f86c7340a9187d95", func := "bracken/brackenlaw5.ParenWide", spec := "parenWide", named := ["math/bits.deBruijn64tab"], apart := false, laid := [("math/bits.deBruijn64tab", laid_math_bits_deBruijn64tab)] }
def ParenWideSaid : Prop := parenWideRow.holds Tryd.pinned (OpenSpec.ofChange parenWideSpec)

/-- ITS FALSE NEIGHBOUR: 'it returns false'. Refute it at one input. -/
def parenWideWrong : ChangeSpec := { name := "parenWide", fn := fun _ => fun
  | [d1, d2] => { results := [.lit (.bool false)], args := [d1, d2] }
  | _ => none }
def ParenWideWrongFalsely : Prop := parenWideRow.holds Tryd.pinned (OpenSpec.ofChange parenWideWrong)

/-- 'brackenlaw5.ParenUp': WHATEVER THE INPUT: true; the input reads as it did. -/
def parenUpSpec : ChangeSpec := { name := "parenUp", fn := fun _ => fun
  | [d1, d2] => { results := [.lit (.bool true)], args := [d1, d2] }
  | _ => none }
def parenUpRow : OpenClaim := { program := "ytmijfoikdjcmlaadoor", sum := "8983cc4e62c5904d1f8b03bb605341c4f44abc952cd7ae15f86c7340a9187d95", func := "bracken/brackenlaw5.ParenUp", spec := "parenUp", named := ["math/bits.deBruijn64tab"], apart := false, laid := [("math/bits.deBruijn64tab", laid_math_bits_deBruijn64tab)] }
def ParenUpSaid : Prop := parenUpRow.holds Tryd.pinned (OpenSpec.ofChange parenUpSpec)

/-- ITS FALSE NEIGHBOUR: 'it returns false'. Refute it at one input. -/
def parenUpWrong : ChangeSpec := { name := "parenUp", fn := fun _ => fun
  | [d1, d2] => { results := [.lit (.bool false)], args := [d1, d2] }
  | _ => none }
def ParenUpWrongFalsely : Prop := parenUpRow.holds Tryd.pinned (OpenSpec.ofChange parenUpWrong)

/- THE SECOND FORM. 'bulk': how many values and letters a reading holds, each counted each time it is reached (what is shared counts as often as it is met; a slice's spare places count too). A statement '..UptoSaid' is the law's where the arguments, and the package variables that the reading takes, are together of bulk at most 1048576: NARROWER than '..Said'. Prove '..Said' where nothing that the law and all that it calls make is longer than what came in: it says more and counts as full. Else prove '..UptoSaid'. A law counts once. -/
mutual
def uptoBulk {H : Type} : DataW H → Nat
  | .lit (.string bytes) => bytes.length + 1
  | .lit _ => 1
  | .nil => 1
  | .ptr d => uptoBulk d + 1
  | .slice elems spare => uptoBulkAll elems + uptoBulkAll spare + 1
  | .agg parts => uptoBulkAll parts + 1
  | .iface _ d => uptoBulk d + 1
  | .map entries => uptoBulkEntries entries + 1
  | .held _ => 1
def uptoBulkAll {H : Type} : List (DataW H) → Nat
  | [] => 0
  | d :: r => uptoBulk d + uptoBulkAll r
def uptoBulkEntries {H : Type} : List (Lit × DataW H) → Nat
  | [] => 0
  | x :: r => uptoBulkEntry x + uptoBulkEntries r
def uptoBulkEntry {H : Type} : Lit × DataW H → Nat
  | (.string bytes, d) => bytes.length + uptoBulk d + 1
  | (_, d) => uptoBulk d + 1
 end
def uptoSmall : (H : Type) → List (DataW H) → Bool := fun _ ds => decide (uptoBulkAll ds ≤ 1048576)
def OpenSpec.upto (s : _root_.Go.ChangeSpec) : _root_.Go.OpenSpec := { _root_.Go.OpenSpec.ofChange s with cond := some uptoSmall }

/-- 'brackenlaw5.ParenNone', WHERE WHAT IT READS IS OF BULK AT MOST 1048576: true; the input reads as it did. -/
def parenNoneUptoRow : OpenClaim := { program := "ytmijfoikdjcmlaadoor", sum := "8983cc4e62c5904d1f8b03bb605341c4f44abc952cd7ae15f86c7340a9187d95", func := "bracken/brackenlaw5.ParenNone", spec := "parenNone", named := ["math/bits.deBruijn64tab"], apart := false, laid := [("math/bits.deBruijn64tab", laid_math_bits_deBruijn64tab)], narrowed := true }
def ParenNoneUptoSaid : Prop := parenNoneUptoRow.holds Tryd.pinned (OpenSpec.upto parenNoneSpec)

/-- 'brackenlaw5.ParenRaw', WHERE WHAT IT READS IS OF BULK AT MOST 1048576: true; the input reads as it did. -/
def parenRawUptoRow : OpenClaim := { program := "ytmijfoikdjcmlaadoor", sum := "8983cc4e62c5904d1f8b03bb605341c4f44abc952cd7ae15f86c7340a9187d95", func := "bracken/brackenlaw5.ParenRaw", spec := "parenRaw", named := ["math/bits.deBruijn64tab"], apart := false, laid := [("math/bits.deBruijn64tab", laid_math_bits_deBruijn64tab)], narrowed := true }
def ParenRawUptoSaid : Prop := parenRawUptoRow.holds Tryd.pinned (OpenSpec.upto parenRawSpec)

/-- 'brackenlaw5.ParenPairs', WHERE WHAT IT READS IS OF BULK AT MOST 1048576: true; the input reads as it did. -/
def parenPairsUptoRow : OpenClaim := { program := "ytmijfoikdjcmlaadoor", sum := "8983cc4e62c5904d1f8b03bb605341c4f44abc952cd7ae15f86c7340a9187d95", func := "bracken/brackenlaw5.ParenPairs", spec := "parenPairs", named := ["math/bits.deBruijn64tab"], apart := false, laid := [("math/bits.deBruijn64tab", laid_math_bits_deBruijn64tab)], narrowed := true }
def ParenPairsUptoSaid : Prop := parenPairsUptoRow.holds Tryd.pinned (OpenSpec.upto parenPairsSpec)

/-- 'brackenlaw5.ParenSpans', WHERE WHAT IT READS IS OF BULK AT MOST 1048576: true; the input reads as it did. -/
def parenSpansUptoRow : OpenClaim := { program := "ytmijfoikdjcmlaadoor", sum := "8983cc4e62c5904d1f8b03bb605341c4f44abc952cd7ae15f86c7340a9187d95", func := "bracken/brackenlaw5.ParenSpans", spec := "parenSpans", named := ["math/bits.deBruijn64tab"], apart := false, laid := [("math/bits.deBruijn64tab", laid_math_bits_deBruijn64tab)], narrowed := true }
def ParenSpansUptoSaid : Prop := parenSpansUptoRow.holds Tryd.pinned (OpenSpec.upto parenSpansSpec)

/-- 'brackenlaw5.ParenAsks', WHERE WHAT IT READS IS OF BULK AT MOST 1048576: true; the input reads as it did. -/
def parenAsksUptoRow : OpenClaim := { program := "ytmijfoikdjcmlaadoor", sum := "8983cc4e62c5904d1f8b03bb605341c4f44abc952cd7ae15f86c7340a9187d95", func := "bracken/brackenlaw5.ParenAsks", spec := "parenAsks", named := ["math/bits.deBruijn64tab"], apart := false, laid := [("math/bits.deBruijn64tab", laid_math_bits_deBruijn64tab)], narrowed := true }
def ParenAsksUptoSaid : Prop := parenAsksUptoRow.holds Tryd.pinned (OpenSpec.upto parenAsksSpec)

/-- 'brackenlaw5.ParenDeep', WHERE WHAT IT READS IS OF BULK AT MOST 1048576: true; the input reads as it did. -/
def parenDeepUptoRow : OpenClaim := { program := "ytmijfoikdjcmlaadoor", sum := "8983cc4e62c5904d1f8b03bb605341c4f44abc952cd7ae15f86c7340a9187d95", func := "bracken/brackenlaw5.ParenDeep", spec := "parenDeep", named := ["math/bits.deBruijn64tab"], apart := false, laid := [("math/bits.deBruijn64tab", laid_math_bits_deBruijn64tab)], narrowed := true }
def ParenDeepUptoSaid : Prop := parenDeepUptoRow.holds Tryd.pinned (OpenSpec.upto parenDeepSpec)

/-- 'brackenlaw5.ParenWide', WHERE WHAT IT READS IS OF BULK AT MOST 1048576: true; the input reads as it did. -/
def parenWideUptoRow : OpenClaim := { program := "ytmijfoikdjcmlaadoor", sum := "8983cc4e62c5904d1f8b03bb605341c4f44abc952cd7ae15f86c7340a9187d95", func := "bracken/brackenlaw5.ParenWide", spec := "parenWide", named := ["math/bits.deBruijn64tab"], apart := false, laid := [("math/bits.deBruijn64tab", laid_math_bits_deBruijn64tab)], narrowed := true }
def ParenWideUptoSaid : Prop := parenWideUptoRow.holds Tryd.pinned (OpenSpec.upto parenWideSpec)

/-- 'brackenlaw5.ParenUp', WHERE WHAT IT READS IS OF BULK AT MOST 1048576: true; the input reads as it did. -/
def parenUpUptoRow : OpenClaim := { program := "ytmijfoikdjcmlaadoor", sum := "8983cc4e62c5904d1f8b03bb605341c4f44abc952cd7ae15f86c7340a9187d95", func := "bracken/brackenlaw5.ParenUp", spec := "parenUp", named := ["math/bits.deBruijn64tab"], apart := false, laid := [("math/bits.deBruijn64tab", laid_math_bits_deBruijn64tab)], narrowed := true }
def ParenUpUptoSaid : Prop := parenUpUptoRow.holds Tryd.pinned (OpenSpec.upto parenUpSpec)

end Rows
end Go.Proofs.YtmijfoikdjcmlaaDoor
