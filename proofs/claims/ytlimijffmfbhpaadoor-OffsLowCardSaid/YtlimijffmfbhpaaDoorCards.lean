/-
  DERIVED. GIVEN WITH THE SEED: THE CARDS: each row of YtlimijffmfbhpaaDoorRows.lean that lists a variable, with what it lists TIED to the program's text (the seventh form; the later family's looks); each row that meets fmt, with fmt's text TOLD by the authors' own Lean function (tested against real Go, not proved from fmt's source: count such statements apart). THE CARD IS WHAT COUNTS. Prove the row's statement (the work); the ties are given (YtlimijffmfbhpaaDoorTie.lean); close each card by the builder's one call (the guide's Derived/Test/ToyasCard.lean, 'card_holds'). Laid BY PROGRAM, IN A SANDBOX (cutbox-door.mjs). By AI agents, Wed Nov 11 2026. No macro, syntax, notation, axiom, sorry.
-/
import Derived.Test.YtlimijffmfbhpaaDoorRows
import GoSem.ClaimSeven
namespace Go.Proofs.YtlimijffmfbhpaaDoor
namespace Rows

/-- THE TIED CARD OF 'brackenlaw7.OffsAsks'. -/
def offsAsksCard : Claim7 := { stood := { row := offsAsksRow, standIns := [], harness := (true, "b43514a36178d51e3041759ed77c343e29b81ffe10a7439440cdf1e6d696d397"), looks := true }, kinds := [], alts := [], laidByText := true, laidKinds := [.data], laidTests := true, laidLooks := .later }
def OffsAsksCardSaid : Prop := Claim7.holds Tryd.pinned (.plain (OpenSpec.ofChange offsAsksSpec)) offsAsksCard

/-- THE TIED CARD OF 'brackenlaw7.OffsRise'. -/
def offsRiseCard : Claim7 := { stood := { row := offsRiseRow, standIns := [], harness := (true, "b43514a36178d51e3041759ed77c343e29b81ffe10a7439440cdf1e6d696d397"), looks := true }, kinds := [], alts := [], laidByText := true, laidKinds := [.data], laidTests := true, laidLooks := .later }
def OffsRiseCardSaid : Prop := Claim7.holds Tryd.pinned (.plain (OpenSpec.ofChange offsRiseSpec)) offsRiseCard

/-- THE TIED CARD OF 'brackenlaw7.OffsLow'. -/
def offsLowCard : Claim7 := { stood := { row := offsLowRow, standIns := [], harness := (true, "b43514a36178d51e3041759ed77c343e29b81ffe10a7439440cdf1e6d696d397"), looks := true }, kinds := [], alts := [], laidByText := true, laidKinds := [.data], laidTests := true, laidLooks := .later }
def OffsLowCardSaid : Prop := Claim7.holds Tryd.pinned (.plain (OpenSpec.ofChange offsLowSpec)) offsLowCard

/-- THE SECOND FORM's CARD OF 'brackenlaw7.OffsAsks'. -/
def offsAsksUptoCard : Claim7 := { stood := { row := offsAsksUptoRow, standIns := [], harness := (true, "b43514a36178d51e3041759ed77c343e29b81ffe10a7439440cdf1e6d696d397"), looks := true }, kinds := [], alts := [], laidByText := true, laidKinds := [.data], laidTests := true, laidLooks := .later }
def OffsAsksUptoCardSaid : Prop := Claim7.holds Tryd.pinned (.plain (OpenSpec.upto offsAsksSpec)) offsAsksUptoCard

/-- THE SECOND FORM's CARD OF 'brackenlaw7.OffsRise'. -/
def offsRiseUptoCard : Claim7 := { stood := { row := offsRiseUptoRow, standIns := [], harness := (true, "b43514a36178d51e3041759ed77c343e29b81ffe10a7439440cdf1e6d696d397"), looks := true }, kinds := [], alts := [], laidByText := true, laidKinds := [.data], laidTests := true, laidLooks := .later }
def OffsRiseUptoCardSaid : Prop := Claim7.holds Tryd.pinned (.plain (OpenSpec.upto offsRiseSpec)) offsRiseUptoCard

/-- THE SECOND FORM's CARD OF 'brackenlaw7.OffsLow'. -/
def offsLowUptoCard : Claim7 := { stood := { row := offsLowUptoRow, standIns := [], harness := (true, "b43514a36178d51e3041759ed77c343e29b81ffe10a7439440cdf1e6d696d397"), looks := true }, kinds := [], alts := [], laidByText := true, laidKinds := [.data], laidTests := true, laidLooks := .later }
def OffsLowUptoCardSaid : Prop := Claim7.holds Tryd.pinned (.plain (OpenSpec.upto offsLowSpec)) offsLowUptoCard
end Rows
end Go.Proofs.YtlimijffmfbhpaaDoor
