/-
  No cell of these rows narrows 'for every input' (looked for: loops, veiled, ifaces, maps, wideKeys, modest, calm, conditions, laid).
  DERIVED. THE GIVEN ROWS OF THIS SEAT. 4 by the template 'for every input the law returns true; each argument reads behind the call as it read before'; 0 by the template 'total and deterministic' (their statements: YtjakbglakhpbjaaTotals.lean).
  GIVEN WITH THE SEED: the statements are not yours to turn. If you find one false, say at which input.
  Laid BY PROGRAM, IN A SANDBOX (cutbox-rows.mjs): the forced cells as the released guide's own fill.sh prints them over the translation f22bf5bf58349aa4… (all of the seat's roots in one cut). By AI agents, Wed Nov 11 2026. No macro, syntax, notation, axiom, sorry.
-/
import Derived.Test.YtjakbglakhpbjaaChecked
import GoSem.Claim
import GoSem.ClaimJoined
import GoSem.ClaimMapViews
import Derived.JoinedTies
import Derived.KernelRfl
namespace Go.Proofs.Ytjakbglakhpbjaa
/- THE CELL 'sum', in the pinned program and in every row, IS THE sha256 OF THE DUMP (.gsa) THAT YtjakbglakhpbjaaProg.lean LOADS. Nothing in Lean hashes anything: it is a label: what it is worth is what the hold of that sum in a sandbox is worth. -/
noncomputable def Try.pinned : Pinned := { name := "ytjakbglakhpbjaa", sum := "f22bf5bf58349aa41a65da5563a8b650b65d8560d982bc7666d8ad3d0efe3553", checked := Try.checked }
namespace Rows
def none {H : Type} : Left H := { results := [], args := [] }

/-- 'brackenlaw9.InternHash': WHATEVER THE INPUT: true; the input reads as it did. -/
def internHashSpec : ChangeSpec := { name := "internHash", fn := fun _ => fun
  | [d1, d2] => { results := [.lit (.bool true)], args := [d1, d2] }
  | _ => none }
def internHashRow : OpenClaim := { program := "ytjakbglakhpbjaa", sum := "f22bf5bf58349aa41a65da5563a8b650b65d8560d982bc7666d8ad3d0efe3553", func := "bracken/brackenlaw9.InternHash", spec := "internHash", apart := false }
def InternHashSaid : Prop := internHashRow.holds Try.pinned (OpenSpec.ofChange internHashSpec)

/-- ITS FALSE NEIGHBOUR: 'it returns false'. Refute it at one input. -/
def internHashWrong : ChangeSpec := { name := "internHash", fn := fun _ => fun
  | [d1, d2] => { results := [.lit (.bool false)], args := [d1, d2] }
  | _ => none }
def InternHashWrongFalsely : Prop := internHashRow.holds Try.pinned (OpenSpec.ofChange internHashWrong)

/-- 'brackenlaw9.InternNumbers': WHATEVER THE INPUT: true; the input reads as it did. -/
def internNumbersSpec : ChangeSpec := { name := "internNumbers", fn := fun _ => fun
  | [d] => { results := [.lit (.bool true)], args := [d] }
  | _ => none }
def internNumbersRow : OpenClaim := { program := "ytjakbglakhpbjaa", sum := "f22bf5bf58349aa41a65da5563a8b650b65d8560d982bc7666d8ad3d0efe3553", func := "bracken/brackenlaw9.InternNumbers", spec := "internNumbers", apart := false }
def InternNumbersSaid : Prop := internNumbersRow.holds Try.pinned (OpenSpec.ofChange internNumbersSpec)

/-- ITS FALSE NEIGHBOUR: 'it returns false'. Refute it at one input. -/
def internNumbersWrong : ChangeSpec := { name := "internNumbers", fn := fun _ => fun
  | [d] => { results := [.lit (.bool false)], args := [d] }
  | _ => none }
def InternNumbersWrongFalsely : Prop := internNumbersRow.holds Try.pinned (OpenSpec.ofChange internNumbersWrong)

/-- 'brackenlaw9.InternPlays': WHATEVER THE INPUT: true; the input reads as it did. -/
def internPlaysSpec : ChangeSpec := { name := "internPlays", fn := fun _ => fun
  | [d1, d2] => { results := [.lit (.bool true)], args := [d1, d2] }
  | _ => none }
def internPlaysRow : OpenClaim := { program := "ytjakbglakhpbjaa", sum := "f22bf5bf58349aa41a65da5563a8b650b65d8560d982bc7666d8ad3d0efe3553", func := "bracken/brackenlaw9.InternPlays", spec := "internPlays", apart := false }
def InternPlaysSaid : Prop := internPlaysRow.holds Try.pinned (OpenSpec.ofChange internPlaysSpec)

/-- ITS FALSE NEIGHBOUR: 'it returns false'. Refute it at one input. -/
def internPlaysWrong : ChangeSpec := { name := "internPlays", fn := fun _ => fun
  | [d1, d2] => { results := [.lit (.bool false)], args := [d1, d2] }
  | _ => none }
def InternPlaysWrongFalsely : Prop := internPlaysRow.holds Try.pinned (OpenSpec.ofChange internPlaysWrong)

/-- 'brackenlaw9.InternMany': WHATEVER THE INPUT: true; the input reads as it did. -/
def internManySpec : ChangeSpec := { name := "internMany", fn := fun _ => fun
  | [d1, d2] => { results := [.lit (.bool true)], args := [d1, d2] }
  | _ => none }
def internManyRow : OpenClaim := { program := "ytjakbglakhpbjaa", sum := "f22bf5bf58349aa41a65da5563a8b650b65d8560d982bc7666d8ad3d0efe3553", func := "bracken/brackenlaw9.InternMany", spec := "internMany", apart := false }
def InternManySaid : Prop := internManyRow.holds Try.pinned (OpenSpec.ofChange internManySpec)

/-- ITS FALSE NEIGHBOUR: 'it returns false'. Refute it at one input. -/
def internManyWrong : ChangeSpec := { name := "internMany", fn := fun _ => fun
  | [d1, d2] => { results := [.lit (.bool false)], args := [d1, d2] }
  | _ => none }
def InternManyWrongFalsely : Prop := internManyRow.holds Try.pinned (OpenSpec.ofChange internManyWrong)

/- THE SECOND FORM. 'bulk': how many values and letters a reading holds, each counted each time it is reached (what is shared counts as often as it is met; a slice's spare places count too). A statement '..UptoSaid' is the law's where the arguments, and the package variables that the reading takes, are together of bulk at most 1048576: NARROWER than '..Said'. Prove '..Said' where nothing that the law and all that it calls make is longer than what came in: it says more and counts as full. Else prove '..UptoSaid'. A law counts once. -/
mutual
def uptoBulk {H : Type} : DataW H → Nat
  | .lit (.string bytes) => bytes.length + 1
  | .lit _ => 1
  | .nil => 1
  | .ptr d => uptoBulk d + 1
  | .slice elems spare => uptoBulkAll elems + uptoBulkAll spare + 1
  | .agg parts => uptoBulkAll parts + 1
  | .iface _ d => uptoBulk d + 1
  | .map entries => uptoBulkEntries entries + 1
  | .held _ => 1
def uptoBulkAll {H : Type} : List (DataW H) → Nat
  | [] => 0
  | d :: r => uptoBulk d + uptoBulkAll r
def uptoBulkEntries {H : Type} : List (Lit × DataW H) → Nat
  | [] => 0
  | x :: r => uptoBulkEntry x + uptoBulkEntries r
def uptoBulkEntry {H : Type} : Lit × DataW H → Nat
  | (.string bytes, d) => bytes.length + uptoBulk d + 1
  | (_, d) => uptoBulk d + 1
 end
def uptoSmall : (H : Type) → List (DataW H) → Bool := fun _ ds => decide (uptoBulkAll ds ≤ 1048576)
def OpenSpec.upto (s : _root_.Go.ChangeSpec) : _root_.Go.OpenSpec := { _root_.Go.OpenSpec.ofChange s with cond := some uptoSmall }

/-- 'brackenlaw9.InternHash', WHERE WHAT IT READS IS OF BULK AT MOST 1048576: true; the input reads as it did. -/
def internHashUptoRow : OpenClaim := { program := "ytjakbglakhpbjaa", sum := "f22bf5bf58349aa41a65da5563a8b650b65d8560d982bc7666d8ad3d0efe3553", func := "bracken/brackenlaw9.InternHash", spec := "internHash", apart := false, narrowed := true }
def InternHashUptoSaid : Prop := internHashUptoRow.holds Try.pinned (OpenSpec.upto internHashSpec)

/-- 'brackenlaw9.InternNumbers', WHERE WHAT IT READS IS OF BULK AT MOST 1048576: true; the input reads as it did. -/
def internNumbersUptoRow : OpenClaim := { program := "ytjakbglakhpbjaa", sum := "f22bf5bf58349aa41a65da5563a8b650b65d8560d982bc7666d8ad3d0efe3553", func := "bracken/brackenlaw9.InternNumbers", spec := "internNumbers", apart := false, narrowed := true }
def InternNumbersUptoSaid : Prop := internNumbersUptoRow.holds Try.pinned (OpenSpec.upto internNumbersSpec)

/-- 'brackenlaw9.InternPlays', WHERE WHAT IT READS IS OF BULK AT MOST 1048576: true; the input reads as it did. -/
def internPlaysUptoRow : OpenClaim := { program := "ytjakbglakhpbjaa", sum := "f22bf5bf58349aa41a65da5563a8b650b65d8560d982bc7666d8ad3d0efe3553", func := "bracken/brackenlaw9.InternPlays", spec := "internPlays", apart := false, narrowed := true }
def InternPlaysUptoSaid : Prop := internPlaysUptoRow.holds Try.pinned (OpenSpec.upto internPlaysSpec)

/-- 'brackenlaw9.InternMany', WHERE WHAT IT READS IS OF BULK AT MOST 1048576: true; the input reads as it did. -/
def internManyUptoRow : OpenClaim := { program := "ytjakbglakhpbjaa", sum := "f22bf5bf58349aa41a65da5563a8b650b65d8560d982bc7666d8ad3d0efe3553", func := "bracken/brackenlaw9.InternMany", spec := "internMany", apart := false, narrowed := true }
def InternManyUptoSaid : Prop := internManyUptoRow.holds Try.pinned (OpenSpec.upto internManySpec)

end Rows
end Go.Proofs.Ytjakbglakhpbjaa
