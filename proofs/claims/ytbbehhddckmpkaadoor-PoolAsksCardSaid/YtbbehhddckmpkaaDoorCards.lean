/-
  DERIVED. GIVEN WITH THE SEED: THE CARDS: each row of YtbbehhddckmpkaaDoorRows.lean that lists a variable, with what it lists TIED to the program's text (the seventh form; the later family's looks); each row that meets fmt, with fmt's text TOLD by the authors' own Lean function (tested against real Go, not proved from fmt's source: count such statements apart). THE CARD IS WHAT COUNTS. Prove the row's statement (the work); the ties are given (YtbbehhddckmpkaaDoorTie.lean); close each card by the builder's one call (the guide's Derived/Test/ToyasCard.lean, 'card_holds'). Laid BY PROGRAM, IN A SANDBOX (cutbox-door.mjs). By AI agents, Wed Nov 11 2026. No macro, syntax, notation, axiom, sorry.
-/
import Derived.Test.YtbbehhddckmpkaaDoorRows
import GoSem.ClaimSeven
namespace Go.Proofs.YtbbehhddckmpkaaDoor
namespace Rows

/-- THE TIED CARD OF 'brackenlaw8.PoolEmpty'. -/
def poolEmptyCard : Claim7 := { stood := { row := poolEmptyRow, standIns := [], harness := (true, "95ef46f0bf6e752f81bdc729f37901b439180aabdce72deeb33f286320f9ae42"), looks := true }, kinds := [], alts := [], laidByText := true, laidKinds := [.data], laidTests := true, laidLooks := .later }
def PoolEmptyCardSaid : Prop := Claim7.holds Tryd.pinned (.plain (OpenSpec.ofChange poolEmptySpec)) poolEmptyCard

/-- THE TIED CARD OF 'brackenlaw8.PoolRow'. -/
def poolRowCard : Claim7 := { stood := { row := poolRowRow, standIns := [], harness := (true, "95ef46f0bf6e752f81bdc729f37901b439180aabdce72deeb33f286320f9ae42"), looks := true }, kinds := [], alts := [], laidByText := true, laidKinds := [.data], laidTests := true, laidLooks := .later }
def PoolRowCardSaid : Prop := Claim7.holds Tryd.pinned (.plain (OpenSpec.ofChange poolRowSpec)) poolRowCard

/-- THE TIED CARD OF 'brackenlaw8.PoolSizes'. -/
def poolSizesCard : Claim7 := { stood := { row := poolSizesRow, standIns := [], harness := (true, "95ef46f0bf6e752f81bdc729f37901b439180aabdce72deeb33f286320f9ae42"), looks := true }, kinds := [], alts := [], laidByText := true, laidKinds := [.data], laidTests := true, laidLooks := .later }
def PoolSizesCardSaid : Prop := Claim7.holds Tryd.pinned (.plain (OpenSpec.ofChange poolSizesSpec)) poolSizesCard

/-- THE TIED CARD OF 'brackenlaw8.PoolAsks'. -/
def poolAsksCard : Claim7 := { stood := { row := poolAsksRow, standIns := [], harness := (true, "95ef46f0bf6e752f81bdc729f37901b439180aabdce72deeb33f286320f9ae42"), looks := true }, kinds := [], alts := [], laidByText := true, laidKinds := [.data], laidTests := true, laidLooks := .later }
def PoolAsksCardSaid : Prop := Claim7.holds Tryd.pinned (.plain (OpenSpec.ofChange poolAsksSpec)) poolAsksCard

/-- THE SECOND FORM's CARD OF 'brackenlaw8.PoolEmpty'. -/
def poolEmptyUptoCard : Claim7 := { stood := { row := poolEmptyUptoRow, standIns := [], harness := (true, "95ef46f0bf6e752f81bdc729f37901b439180aabdce72deeb33f286320f9ae42"), looks := true }, kinds := [], alts := [], laidByText := true, laidKinds := [.data], laidTests := true, laidLooks := .later }
def PoolEmptyUptoCardSaid : Prop := Claim7.holds Tryd.pinned (.plain (OpenSpec.upto poolEmptySpec)) poolEmptyUptoCard

/-- THE SECOND FORM's CARD OF 'brackenlaw8.PoolRow'. -/
def poolRowUptoCard : Claim7 := { stood := { row := poolRowUptoRow, standIns := [], harness := (true, "95ef46f0bf6e752f81bdc729f37901b439180aabdce72deeb33f286320f9ae42"), looks := true }, kinds := [], alts := [], laidByText := true, laidKinds := [.data], laidTests := true, laidLooks := .later }
def PoolRowUptoCardSaid : Prop := Claim7.holds Tryd.pinned (.plain (OpenSpec.upto poolRowSpec)) poolRowUptoCard

/-- THE SECOND FORM's CARD OF 'brackenlaw8.PoolSizes'. -/
def poolSizesUptoCard : Claim7 := { stood := { row := poolSizesUptoRow, standIns := [], harness := (true, "95ef46f0bf6e752f81bdc729f37901b439180aabdce72deeb33f286320f9ae42"), looks := true }, kinds := [], alts := [], laidByText := true, laidKinds := [.data], laidTests := true, laidLooks := .later }
def PoolSizesUptoCardSaid : Prop := Claim7.holds Tryd.pinned (.plain (OpenSpec.upto poolSizesSpec)) poolSizesUptoCard

/-- THE SECOND FORM's CARD OF 'brackenlaw8.PoolAsks'. -/
def poolAsksUptoCard : Claim7 := { stood := { row := poolAsksUptoRow, standIns := [], harness := (true, "95ef46f0bf6e752f81bdc729f37901b439180aabdce72deeb33f286320f9ae42"), looks := true }, kinds := [], alts := [], laidByText := true, laidKinds := [.data], laidTests := true, laidLooks := .later }
def PoolAsksUptoCardSaid : Prop := Claim7.holds Tryd.pinned (.plain (OpenSpec.upto poolAsksSpec)) poolAsksUptoCard
end Rows
end Go.Proofs.YtbbehhddckmpkaaDoor
