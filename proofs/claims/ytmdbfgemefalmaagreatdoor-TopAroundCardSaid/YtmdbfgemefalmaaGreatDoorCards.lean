/-
  DERIVED. GIVEN WITH THE SEED: THE CARDS: each row of YtmdbfgemefalmaaGreatDoorRows.lean that lists a variable, with what it lists TIED to the program's text (the seventh form; the later family's looks); each row that meets fmt, with fmt's text TOLD by the authors' own Lean function (tested against real Go, not proved from fmt's source: count such statements apart). THE CARD IS WHAT COUNTS. Prove the row's statement (the work); the ties are given (YtmdbfgemefalmaaGreatDoorTie.lean); close each card by the builder's one call (the guide's Derived/Test/ToyasCard.lean, 'card_holds'). Laid BY PROGRAM, IN A SANDBOX (cutbox-door.mjs). By AI agents, Wed Nov 11 2026. No macro, syntax, notation, axiom, sorry.
-/
import Derived.Test.YtmdbfgemefalmaaGreatDoorRows
import GoSem.ClaimSeven
namespace Go.Proofs.YtmdbfgemefalmaaGreatDoor
namespace Rows

/-- THE TIED CARD OF 'brackentop.TopMany'. -/
def topManyCard : Claim7 := { stood := { row := topManyRow, standIns := [], harness := (true, "74fb7dd89415cd04b538cf0cfa897cbe257506c771c62d9592dfd590cb617ed2"), looks := true }, kinds := [], alts := [], laidByText := true, laidKinds := [.pinned, .data, .data, .data, .pinned, .data, .data, .data, .sentinel, .sentinel], laidTests := true, laidLooks := .later }
def TopManyCardSaid : Prop := Claim7.holds Tryz.pinned (.plain (OpenSpec.ofChange topManySpec)) topManyCard

/-- THE TIED CARD OF 'brackentop.TopAround'. -/
def topAroundCard : Claim7 := { stood := { row := topAroundRow, standIns := [], harness := (true, "74fb7dd89415cd04b538cf0cfa897cbe257506c771c62d9592dfd590cb617ed2"), looks := true }, kinds := [], alts := [], laidByText := true, laidKinds := [.pinned, .data, .data, .data, .pinned, .data, .data, .data, .sentinel, .sentinel], laidTests := true, laidLooks := .later }
def TopAroundCardSaid : Prop := Claim7.holds Tryz.pinned (.plain (OpenSpec.ofChange topAroundSpec)) topAroundCard

/-- THE SECOND FORM's CARD OF 'brackentop.TopMany'. -/
def topManyUptoCard : Claim7 := { stood := { row := topManyUptoRow, standIns := [], harness := (true, "74fb7dd89415cd04b538cf0cfa897cbe257506c771c62d9592dfd590cb617ed2"), looks := true }, kinds := [], alts := [], laidByText := true, laidKinds := [.pinned, .data, .data, .data, .pinned, .data, .data, .data, .sentinel, .sentinel], laidTests := true, laidLooks := .later }
def TopManyUptoCardSaid : Prop := Claim7.holds Tryz.pinned (.plain (OpenSpec.upto topManySpec)) topManyUptoCard

/-- THE SECOND FORM's CARD OF 'brackentop.TopAround'. -/
def topAroundUptoCard : Claim7 := { stood := { row := topAroundUptoRow, standIns := [], harness := (true, "74fb7dd89415cd04b538cf0cfa897cbe257506c771c62d9592dfd590cb617ed2"), looks := true }, kinds := [], alts := [], laidByText := true, laidKinds := [.pinned, .data, .data, .data, .pinned, .data, .data, .data, .sentinel, .sentinel], laidTests := true, laidLooks := .later }
def TopAroundUptoCardSaid : Prop := Claim7.holds Tryz.pinned (.plain (OpenSpec.upto topAroundSpec)) topAroundUptoCard
end Rows
end Go.Proofs.YtmdbfgemefalmaaGreatDoor
