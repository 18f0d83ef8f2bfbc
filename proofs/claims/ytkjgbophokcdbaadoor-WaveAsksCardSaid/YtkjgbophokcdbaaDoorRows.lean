/-
  NARROWER THAN 'FOR EVERY INPUT', by the rows' own cells (each row's printed sentence says how): WaveRaw: laid · WaveParts: laid · WaveOne: laid · WaveSelects: laid · WaveAsks: laid.
  DERIVED. THE GIVEN ROWS OF THIS SEAT. 5 by the template 'for every input the law returns true; each argument reads behind the call as it read before'; 0 by the template 'total and deterministic' (their statements: YtkjgbophokcdbaaDoorTotals.lean).
  GIVEN WITH THE SEED: the statements are not yours to turn. If you find one false, say at which input.
  Laid BY PROGRAM, IN A SANDBOX (cutbox-rows.mjs): the forced cells as the released guide's own fill.sh prints them over the translation 0854ac7463ceec33… (all of the seat's roots in one cut). By AI agents, Wed Nov 11 2026. No macro, syntax, notation, axiom, sorry.
-/
import Derived.Test.YtkjgbophokcdbaaDoorChecked
import GoSem.Claim
import GoSem.ClaimJoined
import GoSem.ClaimMapViews
import Derived.JoinedTies
import Derived.KernelRfl
namespace Go.Proofs.YtkjgbophokcdbaaDoor
/- THE CELL 'sum', in the pinned program and in every row, IS THE sha256 OF THE DUMP (.gsa) THAT YtkjgbophokcdbaaDoorProg.lean LOADS. Nothing in Lean hashes anything: it is a label: what it is worth is what the hold of that sum in a sandbox is worth. -/
noncomputable def Tryd.pinned : Pinned := { name := "ytkjgbophokcdbaadoor", sum := "0854ac7463ceec335b75eb93e8d432b1839625a2346774840c32739937547963", checked := Tryd.checked }
namespace Rows
def none {H : Type} : Left H := { results := [], args := [] }

/- WHAT THE LISTED PACKAGE-LEVEL VARIABLES READ AS WHEN THE CALL BEGINS. Each datum BY PROGRAM (the guide's laid-datum.mjs) off the statement by which the dump's own 'gosem.cut.vars' lays the variable. In a bare row this is a premise. The card (YtkjgbophokcdbaaDoorCards.lean) ties it to the program's text. -/
def laid_math_bits_deBruijn64tab {H : Type} : DataW H := .agg [.lit (.int .u8 0), .lit (.int .u8 1), .lit (.int .u8 56), .lit (.int .u8 2), .lit (.int .u8 57), .lit (.int .u8 49), .lit (.int .u8 28), .lit (.int .u8 3), .lit (.int .u8 61), .lit (.int .u8 58), .lit (.int .u8 42), .lit (.int .u8 50), .lit (.int .u8 38), .lit (.int .u8 29), .lit (.int .u8 17), .lit (.int .u8 4), .lit (.int .u8 62), .lit (.int .u8 47), .lit (.int .u8 59), .lit (.int .u8 36), .lit (.int .u8 45), .lit (.int .u8 43), .lit (.int .u8 51), .lit (.int .u8 22), .lit (.int .u8 53), .lit (.int .u8 39), .lit (.int .u8 33), .lit (.int .u8 30), .lit (.int .u8 24), .lit (.int .u8 18), .lit (.int .u8 12), .lit (.int .u8 5), .lit (.int .u8 63), .lit (.int .u8 55), .lit (.int .u8 48), .lit (.int .u8 27), .lit (.int .u8 60), .lit (.int .u8 41), .lit (.int .u8 37), .lit (.int .u8 16), .lit (.int .u8 46), .lit (.int .u8 35), .lit (.int .u8 44), .lit (.int .u8 21), .lit (.int .u8 52), .lit (.int .u8 32), .lit (.int .u8 23), .lit (.int .u8 11), .lit (.int .u8 54), .lit (.int .u8 26), .lit (.int .u8 40), .lit (.int .u8 15), .lit (.int .u8 34), .lit (.int .u8 20), .lit (.int .u8 31), .lit (.int .u8 10), .lit (.int .u8 25), .lit (.int .u8 14), .lit (.int .u8 19), .lit (.int .u8 9), .lit (.int .u8 13), .lit (.int .u8 8), .lit (.int .u8 7), .lit (.int .u8 6)]

/-- 'brackenlaw6.WaveRaw': WHATEVER THE INPUT: true; the input reads as it did. -/
def waveRawSpec : ChangeSpec := { name := "waveRaw", fn := fun _ => fun
  | [d1, d2] => { results := [.lit (.bool true)], args := [d1, d2] }
  | _ => none }
def waveRawRow : OpenClaim := { program := "ytkjgbophokcdbaadoor", sum := "0854ac7463ceec335b75eb93e8d432b1839625a2346774840c32739937547963", func := "bracken/brackenlaw6.WaveRaw", spec := "waveRaw", named := ["math/bits.deBruijn64tab"], apart := false, laid := [("math/bits.deBruijn64tab", laid_math_bits_deBruijn64tab)] }
def WaveRawSaid : Prop := waveRawRow.holds Tryd.pinned (OpenSpec.ofChange waveRawSpec)

/-- ITS FALSE NEIGHBOUR: 'it returns false'. Refute it at one input. -/
def waveRawWrong : ChangeSpec := { name := "waveRaw", fn := fun _ => fun
  | [d1, d2] => { results := [.lit (.bool false)], args := [d1, d2] }
  | _ => none }
def WaveRawWrongFalsely : Prop := waveRawRow.holds Tryd.pinned (OpenSpec.ofChange waveRawWrong)

/-- 'brackenlaw6.WaveParts': WHATEVER THE INPUT: true; the input reads as it did. -/
def wavePartsSpec : ChangeSpec := { name := "waveParts", fn := fun _ => fun
  | [d1, d2, d3, d4] => { results := [.lit (.bool true)], args := [d1, d2, d3, d4] }
  | _ => none }
def wavePartsRow : OpenClaim := { program := "ytkjgbophokcdbaadoor", sum := "0854ac7463ceec335b75eb93e8d432b1839625a2346774840c32739937547963", func := "bracken/brackenlaw6.WaveParts", spec := "waveParts", named := ["math/bits.deBruijn64tab"], apart := false, laid := [("math/bits.deBruijn64tab", laid_math_bits_deBruijn64tab)] }
def WavePartsSaid : Prop := wavePartsRow.holds Tryd.pinned (OpenSpec.ofChange wavePartsSpec)

/-- ITS FALSE NEIGHBOUR: 'it returns false'. Refute it at one input. -/
def wavePartsWrong : ChangeSpec := { name := "waveParts", fn := fun _ => fun
  | [d1, d2, d3, d4] => { results := [.lit (.bool false)], args := [d1, d2, d3, d4] }
  | _ => none }
def WavePartsWrongFalsely : Prop := wavePartsRow.holds Tryd.pinned (OpenSpec.ofChange wavePartsWrong)

/-- 'brackenlaw6.WaveOne': WHATEVER THE INPUT: true; the input reads as it did. -/
def waveOneSpec : ChangeSpec := { name := "waveOne", fn := fun _ => fun
  | [d1, d2, d3] => { results := [.lit (.bool true)], args := [d1, d2, d3] }
  | _ => none }
def waveOneRow : OpenClaim := { program := "ytkjgbophokcdbaadoor", sum := "0854ac7463ceec335b75eb93e8d432b1839625a2346774840c32739937547963", func := "bracken/brackenlaw6.WaveOne", spec := "waveOne", named := ["math/bits.deBruijn64tab"], apart := false, laid := [("math/bits.deBruijn64tab", laid_math_bits_deBruijn64tab)] }
def WaveOneSaid : Prop := waveOneRow.holds Tryd.pinned (OpenSpec.ofChange waveOneSpec)

/-- ITS FALSE NEIGHBOUR: 'it returns false'. Refute it at one input. -/
def waveOneWrong : ChangeSpec := { name := "waveOne", fn := fun _ => fun
  | [d1, d2, d3] => { results := [.lit (.bool false)], args := [d1, d2, d3] }
  | _ => none }
def WaveOneWrongFalsely : Prop := waveOneRow.holds Tryd.pinned (OpenSpec.ofChange waveOneWrong)

/-- 'brackenlaw6.WaveSelects': WHATEVER THE INPUT: true; the input reads as it did. -/
def waveSelectsSpec : ChangeSpec := { name := "waveSelects", fn := fun _ => fun
  | [d1, d2] => { results := [.lit (.bool true)], args := [d1, d2] }
  | _ => none }
def waveSelectsRow : OpenClaim := { program := "ytkjgbophokcdbaadoor", sum := "0854ac7463ceec335b75eb93e8d432b1839625a2346774840c32739937547963", func := "bracken/brackenlaw6.WaveSelects", spec := "waveSelects", named := ["math/bits.deBruijn64tab"], apart := false, laid := [("math/bits.deBruijn64tab", laid_math_bits_deBruijn64tab)] }
def WaveSelectsSaid : Prop := waveSelectsRow.holds Tryd.pinned (OpenSpec.ofChange waveSelectsSpec)

/-- ITS FALSE NEIGHBOUR: 'it returns false'. Refute it at one input. -/
def waveSelectsWrong : ChangeSpec := { name := "waveSelects", fn := fun _ => fun
  | [d1, d2] => { results := [.lit (.bool false)], args := [d1, d2] }
  | _ => none }
def WaveSelectsWrongFalsely : Prop := waveSelectsRow.holds Tryd.pinned (OpenSpec.ofChange waveSelectsWrong)

/-- 'brackenlaw6.WaveAsks': WHATEVER THE INPUT: true; the input reads as it did. -/
def waveAsksSpec : ChangeSpec := { name := "waveAsks", fn := fun _ => fun
  | [d1, d2, d3, d4, d5, d6] => { results := [.lit (.bool true)], args := [d1, d2, d3, d4, d5, d6] }
  | _ => none }
def waveAsksRow : OpenClaim := { program := "ytkjgbophokcdbaadoor", sum := "0854ac7463ceec335b75eb93e8d432b1839625a2346774840c32739937547963", func := "bracken/brackenlaw6.WaveAsks", spec := "waveAsks", named := ["math/bits.deBruijn64tab"], apart := false, laid := [("math/bits.deBruijn64tab", laid_math_bits_deBruijn64tab)] }
def WaveAsksSaid : Prop := waveAsksRow.holds Tryd.pinned (OpenSpec.ofChange waveAsksSpec)

/-- ITS FALSE NEIGHBOUR: 'it returns false'. Refute it at one input. -/
def waveAsksWrong : ChangeSpec := { name := "waveAsks", fn := fun _ => fun
  | [d1, d2, d3, d4, d5, d6] => { results := [.lit (.bool false)], args := [d1, d2, d3, d4, d5, d6] }
  | _ => none }
def WaveAsksWrongFalsely : Prop := waveAsksRow.holds Tryd.pinned (OpenSpec.ofChange waveAsksWrong)

/- THE SECOND FORM. 'bulk': how many values and letters a reading holds, each counted each time it is reached (what is shared counts as often as it is met; a slice's spare places count too). A statement '..UptoSaid' is the law's where the arguments, and the package variables that the reading takes, are together of bulk at most 1048576: NARROWER than '..Said'. Prove '..Said' where nothing that the law and all that it calls make is longer than what came in: it says more and counts as full. Else prove '..UptoSaid'. A law counts once. -/
mutual
def uptoBulk {H : Type} : DataW H → Nat
  | .lit (.string bytes) => bytes.length + 1
  | .lit _ => 1
  | .nil => 1
  | .ptr d => uptoBulk d + 1
  | .slice elems spare => uptoBulkAll elems + uptoBulkAll spare + 1
  | .agg parts => uptoBulkAll parts + 1
  | .iface _ d => uptoBulk d + 1
  | .map entries => uptoBulkEntries entries + 1
  | .held _ => 1
def uptoBulkAll {H : Type} : List (DataW H) → Nat
  | [] => 0
  | d :: r => uptoBulk d + uptoBulkAll r
def uptoBulkEntries {H : Type} : List (Lit × DataW H) → Nat
  | [] => 0
  | x :: r => uptoBulkEntry x + uptoBulkEntries r
def uptoBulkEntry {H : Type} : Lit × DataW H → Nat
  | (.string bytes, d) => bytes.length + uptoBulk d + 1
  | (_, d) => uptoBulk d + 1
 end
def uptoSmall : (H : Type) → List (DataW H) → Bool := fun _ ds => decide (uptoBulkAll ds ≤ 1048576)
def OpenSpec.upto (s : _root_.Go.ChangeSpec) : _root_.Go.OpenSpec := { _root_.Go.OpenSpec.ofChange s with cond := some uptoSmall }

/-- 'brackenlaw6.WaveRaw', WHERE WHAT IT READS IS OF BULK AT MOST 1048576: true; the input reads as it did. -/
def waveRawUptoRow : OpenClaim := { program := "ytkjgbophokcdbaadoor", sum := "0854ac7463ceec335b75eb93e8d432b1839625a2346774840c32739937547963", func := "bracken/brackenlaw6.WaveRaw", spec := "waveRaw", named := ["math/bits.deBruijn64tab"], apart := false, laid := [("math/bits.deBruijn64tab", laid_math_bits_deBruijn64tab)], narrowed := true }
def WaveRawUptoSaid : Prop := waveRawUptoRow.holds Tryd.pinned (OpenSpec.upto waveRawSpec)

/-- 'brackenlaw6.WaveParts', WHERE WHAT IT READS IS OF BULK AT MOST 1048576: true; the input reads as it did. -/
def wavePartsUptoRow : OpenClaim := { program := "ytkjgbophokcdbaadoor", sum := "0854ac7463ceec335b75eb93e8d432b1839625a2346774840c32739937547963", func := "bracken/brackenlaw6.WaveParts", spec := "waveParts", named := ["math/bits.deBruijn64tab"], apart := false, laid := [("math/bits.deBruijn64tab", laid_math_bits_deBruijn64tab)], narrowed := true }
def WavePartsUptoSaid : Prop := wavePartsUptoRow.holds Tryd.pinned (OpenSpec.upto wavePartsSpec)

/-- 'brackenlaw6.WaveOne', WHERE WHAT IT READS IS OF BULK AT MOST 1048576: true; the input reads as it did. -/
def waveOneUptoRow : OpenClaim := { program := "ytkjgbophokcdbaadoor", sum := "0854ac7463ceec335b75eb93e8d432b1839625a2346774840c32739937547963", func := "bracken/brackenlaw6.WaveOne", spec := "waveOne", named := ["math/bits.deBruijn64tab"], apart := false, laid := [("math/bits.deBruijn64tab", laid_math_bits_deBruijn64tab)], narrowed := true }
def WaveOneUptoSaid : Prop := waveOneUptoRow.holds Tryd.pinned (OpenSpec.upto waveOneSpec)

/-- 'brackenlaw6.WaveSelects', WHERE WHAT IT READS IS OF BULK AT MOST 1048576: true; the input reads as it did. -/
def waveSelectsUptoRow : OpenClaim := { program := "ytkjgbophokcdbaadoor", sum := "0854ac7463ceec335b75eb93e8d432b1839625a2346774840c32739937547963", func := "bracken/brackenlaw6.WaveSelects", spec := "waveSelects", named := ["math/bits.deBruijn64tab"], apart := false, laid := [("math/bits.deBruijn64tab", laid_math_bits_deBruijn64tab)], narrowed := true }
def WaveSelectsUptoSaid : Prop := waveSelectsUptoRow.holds Tryd.pinned (OpenSpec.upto waveSelectsSpec)

/-- 'brackenlaw6.WaveAsks', WHERE WHAT IT READS IS OF BULK AT MOST 1048576: true; the input reads as it did. -/
def waveAsksUptoRow : OpenClaim := { program := "ytkjgbophokcdbaadoor", sum := "0854ac7463ceec335b75eb93e8d432b1839625a2346774840c32739937547963", func := "bracken/brackenlaw6.WaveAsks", spec := "waveAsks", named := ["math/bits.deBruijn64tab"], apart := false, laid := [("math/bits.deBruijn64tab", laid_math_bits_deBruijn64tab)], narrowed := true }
def WaveAsksUptoSaid : Prop := waveAsksUptoRow.holds Tryd.pinned (OpenSpec.upto waveAsksSpec)

end Rows
end Go.Proofs.YtkjgbophokcdbaaDoor
