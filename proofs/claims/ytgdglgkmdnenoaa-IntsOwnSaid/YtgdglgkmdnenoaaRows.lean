/-
  No cell of these rows narrows 'for every input' (looked for: loops, veiled, ifaces, maps, wideKeys, modest, calm, conditions, laid).
  DERIVED. THE GIVEN ROWS OF THIS SEAT. 4 by the template 'for every input the law returns true; each argument reads behind the call as it read before'; 0 by the template 'total and deterministic' (their statements: YtgdglgkmdnenoaaTotals.lean).
  GIVEN WITH THE SEED: the statements are not yours to turn. If you find one false, say at which input.
  Laid BY PROGRAM, IN A SANDBOX (cutbox-rows.mjs): the forced cells as the released guide's own fill.sh prints them over the translation 3ce29a35eead5f53… (all of the seat's roots in one cut). By AI agents, Wed Nov 11 2026. No macro, syntax, notation, axiom, sorry.
-/
import Derived.Test.YtgdglgkmdnenoaaChecked
import GoSem.Claim
import GoSem.ClaimJoined
import GoSem.ClaimMapViews
import Derived.JoinedTies
import Derived.KernelRfl
namespace Go.Proofs.Ytgdglgkmdnenoaa
/- THE CELL 'sum', in the pinned program and in every row, IS THE sha256 OF THE DUMP (.gsa) THAT YtgdglgkmdnenoaaProg.lean LOADS. Nothing in Lean hashes anything: it is a label: what it is worth is what the hold of that sum in a sandbox is worth. -/
noncomputable def Try.pinned : Pinned := { name := "ytgdglgkmdnenoaa", sum := "3ce29a35eead5f53dd8ec230b6ef55c0279d79e82ab285c957d12251cdf89930", checked := Try.checked }
namespace Rows
def none {H : Type} : Left H := { results := [], args := [] }

/-- 'brackenlaw4.IntsNoughts': WHATEVER THE INPUT: true; the input reads as it did. -/
def intsNoughtsSpec : ChangeSpec := { name := "intsNoughts", fn := fun _ => fun
  | [d1, d2] => { results := [.lit (.bool true)], args := [d1, d2] }
  | _ => none }
def intsNoughtsRow : OpenClaim := { program := "ytgdglgkmdnenoaa", sum := "3ce29a35eead5f53dd8ec230b6ef55c0279d79e82ab285c957d12251cdf89930", func := "bracken/brackenlaw4.IntsNoughts", spec := "intsNoughts", apart := false }
def IntsNoughtsSaid : Prop := intsNoughtsRow.holds Try.pinned (OpenSpec.ofChange intsNoughtsSpec)

/-- ITS FALSE NEIGHBOUR: 'it returns false'. Refute it at one input. -/
def intsNoughtsWrong : ChangeSpec := { name := "intsNoughts", fn := fun _ => fun
  | [d1, d2] => { results := [.lit (.bool false)], args := [d1, d2] }
  | _ => none }
def IntsNoughtsWrongFalsely : Prop := intsNoughtsRow.holds Try.pinned (OpenSpec.ofChange intsNoughtsWrong)

/-- 'brackenlaw4.IntsAsks': WHATEVER THE INPUT: true; the input reads as it did. -/
def intsAsksSpec : ChangeSpec := { name := "intsAsks", fn := fun _ => fun
  | [d1, d2] => { results := [.lit (.bool true)], args := [d1, d2] }
  | _ => none }
def intsAsksRow : OpenClaim := { program := "ytgdglgkmdnenoaa", sum := "3ce29a35eead5f53dd8ec230b6ef55c0279d79e82ab285c957d12251cdf89930", func := "bracken/brackenlaw4.IntsAsks", spec := "intsAsks", apart := false }
def IntsAsksSaid : Prop := intsAsksRow.holds Try.pinned (OpenSpec.ofChange intsAsksSpec)

/-- ITS FALSE NEIGHBOUR: 'it returns false'. Refute it at one input. -/
def intsAsksWrong : ChangeSpec := { name := "intsAsks", fn := fun _ => fun
  | [d1, d2] => { results := [.lit (.bool false)], args := [d1, d2] }
  | _ => none }
def IntsAsksWrongFalsely : Prop := intsAsksRow.holds Try.pinned (OpenSpec.ofChange intsAsksWrong)

/-- 'brackenlaw4.IntsWidths': WHATEVER THE INPUT: true; the input reads as it did. -/
def intsWidthsSpec : ChangeSpec := { name := "intsWidths", fn := fun _ => fun
  | [d] => { results := [.lit (.bool true)], args := [d] }
  | _ => none }
def intsWidthsRow : OpenClaim := { program := "ytgdglgkmdnenoaa", sum := "3ce29a35eead5f53dd8ec230b6ef55c0279d79e82ab285c957d12251cdf89930", func := "bracken/brackenlaw4.IntsWidths", spec := "intsWidths", apart := false }
def IntsWidthsSaid : Prop := intsWidthsRow.holds Try.pinned (OpenSpec.ofChange intsWidthsSpec)

/-- ITS FALSE NEIGHBOUR: 'it returns false'. Refute it at one input. -/
def intsWidthsWrong : ChangeSpec := { name := "intsWidths", fn := fun _ => fun
  | [d] => { results := [.lit (.bool false)], args := [d] }
  | _ => none }
def IntsWidthsWrongFalsely : Prop := intsWidthsRow.holds Try.pinned (OpenSpec.ofChange intsWidthsWrong)

/-- 'brackenlaw4.IntsOwn': WHATEVER THE INPUT: true; the input reads as it did. -/
def intsOwnSpec : ChangeSpec := { name := "intsOwn", fn := fun _ => fun
  | [d] => { results := [.lit (.bool true)], args := [d] }
  | _ => none }
def intsOwnRow : OpenClaim := { program := "ytgdglgkmdnenoaa", sum := "3ce29a35eead5f53dd8ec230b6ef55c0279d79e82ab285c957d12251cdf89930", func := "bracken/brackenlaw4.IntsOwn", spec := "intsOwn", apart := false }
def IntsOwnSaid : Prop := intsOwnRow.holds Try.pinned (OpenSpec.ofChange intsOwnSpec)

/-- ITS FALSE NEIGHBOUR: 'it returns false'. Refute it at one input. -/
def intsOwnWrong : ChangeSpec := { name := "intsOwn", fn := fun _ => fun
  | [d] => { results := [.lit (.bool false)], args := [d] }
  | _ => none }
def IntsOwnWrongFalsely : Prop := intsOwnRow.holds Try.pinned (OpenSpec.ofChange intsOwnWrong)

/- THE SECOND FORM. 'bulk': how many values and letters a reading holds, each counted each time it is reached (what is shared counts as often as it is met; a slice's spare places count too). A statement '..UptoSaid' is the law's where the arguments, and the package variables that the reading takes, are together of bulk at most 1048576: NARROWER than '..Said'. Prove '..Said' where nothing that the law and all that it calls make is longer than what came in: it says more and counts as full. Else prove '..UptoSaid'. A law counts once. -/
mutual
def uptoBulk {H : Type} : DataW H → Nat
  | .lit (.string bytes) => bytes.length + 1
  | .lit _ => 1
  | .nil => 1
  | .ptr d => uptoBulk d + 1
  | .slice elems spare => uptoBulkAll elems + uptoBulkAll spare + 1
  | .agg parts => uptoBulkAll parts + 1
  | .iface _ d => uptoBulk d + 1
  | .map entries => uptoBulkEntries entries + 1
  | .held _ => 1
def uptoBulkAll {H : Type} : List (DataW H) → Nat
  | [] => 0
  | d :: r => uptoBulk d + uptoBulkAll r
def uptoBulkEntries {H : Type} : List (Lit × DataW H) → Nat
  | [] => 0
  | x :: r => uptoBulkEntry x + uptoBulkEntries r
def uptoBulkEntry {H : Type} : Lit × DataW H → Nat
  | (.string bytes, d) => bytes.length + uptoBulk d + 1
  | (_, d) => uptoBulk d + 1
 end
def uptoSmall : (H : Type) → List (DataW H) → Bool := fun _ ds => decide (uptoBulkAll ds ≤ 1048576)
def OpenSpec.upto (s : _root_.Go.ChangeSpec) : _root_.Go.OpenSpec := { _root_.Go.OpenSpec.ofChange s with cond := some uptoSmall }

/-- 'brackenlaw4.IntsNoughts', WHERE WHAT IT READS IS OF BULK AT MOST 1048576: true; the input reads as it did. -/
def intsNoughtsUptoRow : OpenClaim := { program := "ytgdglgkmdnenoaa", sum := "3ce29a35eead5f53dd8ec230b6ef55c0279d79e82ab285c957d12251cdf89930", func := "bracken/brackenlaw4.IntsNoughts", spec := "intsNoughts", apart := false, narrowed := true }
def IntsNoughtsUptoSaid : Prop := intsNoughtsUptoRow.holds Try.pinned (OpenSpec.upto intsNoughtsSpec)

/-- 'brackenlaw4.IntsAsks', WHERE WHAT IT READS IS OF BULK AT MOST 1048576: true; the input reads as it did. -/
def intsAsksUptoRow : OpenClaim := { program := "ytgdglgkmdnenoaa", sum := "3ce29a35eead5f53dd8ec230b6ef55c0279d79e82ab285c957d12251cdf89930", func := "bracken/brackenlaw4.IntsAsks", spec := "intsAsks", apart := false, narrowed := true }
def IntsAsksUptoSaid : Prop := intsAsksUptoRow.holds Try.pinned (OpenSpec.upto intsAsksSpec)

/-- 'brackenlaw4.IntsWidths', WHERE WHAT IT READS IS OF BULK AT MOST 1048576: true; the input reads as it did. -/
def intsWidthsUptoRow : OpenClaim := { program := "ytgdglgkmdnenoaa", sum := "3ce29a35eead5f53dd8ec230b6ef55c0279d79e82ab285c957d12251cdf89930", func := "bracken/brackenlaw4.IntsWidths", spec := "intsWidths", apart := false, narrowed := true }
def IntsWidthsUptoSaid : Prop := intsWidthsUptoRow.holds Try.pinned (OpenSpec.upto intsWidthsSpec)

/-- 'brackenlaw4.IntsOwn', WHERE WHAT IT READS IS OF BULK AT MOST 1048576: true; the input reads as it did. -/
def intsOwnUptoRow : OpenClaim := { program := "ytgdglgkmdnenoaa", sum := "3ce29a35eead5f53dd8ec230b6ef55c0279d79e82ab285c957d12251cdf89930", func := "bracken/brackenlaw4.IntsOwn", spec := "intsOwn", apart := false, narrowed := true }
def IntsOwnUptoSaid : Prop := intsOwnUptoRow.holds Try.pinned (OpenSpec.upto intsOwnSpec)

end Rows
end Go.Proofs.Ytgdglgkmdnenoaa
