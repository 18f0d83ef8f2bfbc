/-
  DERIVED. GIVEN WITH THE SEED: THE CARDS: each row of YtickamfplpdmgaaDoorRows.lean that lists a variable, with what it lists TIED to the program's text (the seventh form; the later family's looks); each row that meets fmt, with fmt's text TOLD by the authors' own Lean function (tested against real Go, not proved from fmt's source: count such statements apart). THE CARD IS WHAT COUNTS. Prove the row's statement (the work); the ties are given (YtickamfplpdmgaaDoorTie.lean); close each card by the builder's one call (the guide's Derived/Test/ToyasCard.lean, 'card_holds'). Laid BY PROGRAM, IN A SANDBOX (cutbox-door.mjs). By AI agents, Wed Nov 11 2026. No macro, syntax, notation, axiom, sorry.
-/
import Derived.Test.YtickamfplpdmgaaDoorRows
import GoSem.ClaimSeven
namespace Go.Proofs.YtickamfplpdmgaaDoor
namespace Rows

/-- THE TIED CARD OF 'brackenlaw3.BitsAsks'. -/
def bitsAsksCard : Claim7 := { stood := { row := bitsAsksRow, standIns := [], harness := (true, "cfbab35533b769db8d0142aa7390d1417367e92189c2ee4e4053133e146b7c01"), looks := true }, kinds := [], alts := [], laidByText := true, laidKinds := [.data], laidTests := true, laidLooks := .later }
def BitsAsksCardSaid : Prop := Claim7.holds Tryd.pinned (.plain (OpenSpec.ofChange bitsAsksSpec)) bitsAsksCard

/-- THE TIED CARD OF 'brackenlaw3.BitsPlaces'. -/
def bitsPlacesCard : Claim7 := { stood := { row := bitsPlacesRow, standIns := [], harness := (true, "cfbab35533b769db8d0142aa7390d1417367e92189c2ee4e4053133e146b7c01"), looks := true }, kinds := [], alts := [], laidByText := true, laidKinds := [.data], laidTests := true, laidLooks := .later }
def BitsPlacesCardSaid : Prop := Claim7.holds Tryd.pinned (.plain (OpenSpec.ofChange bitsPlacesSpec)) bitsPlacesCard

/-- THE TIED CARD OF 'brackenlaw3.BitsSizes'. -/
def bitsSizesCard : Claim7 := { stood := { row := bitsSizesRow, standIns := [], harness := (true, "cfbab35533b769db8d0142aa7390d1417367e92189c2ee4e4053133e146b7c01"), looks := true }, kinds := [], alts := [], laidByText := true, laidKinds := [.data], laidTests := true, laidLooks := .later }
def BitsSizesCardSaid : Prop := Claim7.holds Tryd.pinned (.plain (OpenSpec.ofChange bitsSizesSpec)) bitsSizesCard

/-- THE TIED CARD OF 'brackenlaw3.BitsOwn'. -/
def bitsOwnCard : Claim7 := { stood := { row := bitsOwnRow, standIns := [], harness := (true, "cfbab35533b769db8d0142aa7390d1417367e92189c2ee4e4053133e146b7c01"), looks := true }, kinds := [], alts := [], laidByText := true, laidKinds := [.data], laidTests := true, laidLooks := .later }
def BitsOwnCardSaid : Prop := Claim7.holds Tryd.pinned (.plain (OpenSpec.ofChange bitsOwnSpec)) bitsOwnCard

/-- THE SECOND FORM's CARD OF 'brackenlaw3.BitsAsks'. -/
def bitsAsksUptoCard : Claim7 := { stood := { row := bitsAsksUptoRow, standIns := [], harness := (true, "cfbab35533b769db8d0142aa7390d1417367e92189c2ee4e4053133e146b7c01"), looks := true }, kinds := [], alts := [], laidByText := true, laidKinds := [.data], laidTests := true, laidLooks := .later }
def BitsAsksUptoCardSaid : Prop := Claim7.holds Tryd.pinned (.plain (OpenSpec.upto bitsAsksSpec)) bitsAsksUptoCard

/-- THE SECOND FORM's CARD OF 'brackenlaw3.BitsPlaces'. -/
def bitsPlacesUptoCard : Claim7 := { stood := { row := bitsPlacesUptoRow, standIns := [], harness := (true, "cfbab35533b769db8d0142aa7390d1417367e92189c2ee4e4053133e146b7c01"), looks := true }, kinds := [], alts := [], laidByText := true, laidKinds := [.data], laidTests := true, laidLooks := .later }
def BitsPlacesUptoCardSaid : Prop := Claim7.holds Tryd.pinned (.plain (OpenSpec.upto bitsPlacesSpec)) bitsPlacesUptoCard

/-- THE SECOND FORM's CARD OF 'brackenlaw3.BitsSizes'. -/
def bitsSizesUptoCard : Claim7 := { stood := { row := bitsSizesUptoRow, standIns := [], harness := (true, "cfbab35533b769db8d0142aa7390d1417367e92189c2ee4e4053133e146b7c01"), looks := true }, kinds := [], alts := [], laidByText := true, laidKinds := [.data], laidTests := true, laidLooks := .later }
def BitsSizesUptoCardSaid : Prop := Claim7.holds Tryd.pinned (.plain (OpenSpec.upto bitsSizesSpec)) bitsSizesUptoCard

/-- THE SECOND FORM's CARD OF 'brackenlaw3.BitsOwn'. -/
def bitsOwnUptoCard : Claim7 := { stood := { row := bitsOwnUptoRow, standIns := [], harness := (true, "cfbab35533b769db8d0142aa7390d1417367e92189c2ee4e4053133e146b7c01"), looks := true }, kinds := [], alts := [], laidByText := true, laidKinds := [.data], laidTests := true, laidLooks := .later }
def BitsOwnUptoCardSaid : Prop := Claim7.holds Tryd.pinned (.plain (OpenSpec.upto bitsOwnSpec)) bitsOwnUptoCard
end Rows
end Go.Proofs.YtickamfplpdmgaaDoor
