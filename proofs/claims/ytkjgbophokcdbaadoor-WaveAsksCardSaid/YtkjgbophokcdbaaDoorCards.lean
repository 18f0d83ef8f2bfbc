/-
  DERIVED. GIVEN WITH THE SEED: THE CARDS: each row of YtkjgbophokcdbaaDoorRows.lean that lists a variable, with what it lists TIED to the program's text (the seventh form; the later family's looks); each row that meets fmt, with fmt's text TOLD by the authors' own Lean function (tested against real Go, not proved from fmt's source: count such statements apart). THE CARD IS WHAT COUNTS. Prove the row's statement (the work); the ties are given (YtkjgbophokcdbaaDoorTie.lean); close each card by the builder's one call (the guide's Derived/Test/ToyasCard.lean, 'card_holds'). Laid BY PROGRAM, IN A SANDBOX (cutbox-door.mjs). By AI agents, Wed Nov 11 2026. No macro, syntax, notation, axiom, sorry.
-/
import Derived.Test.YtkjgbophokcdbaaDoorRows
import GoSem.ClaimSeven
namespace Go.Proofs.YtkjgbophokcdbaaDoor
namespace Rows

/-- THE TIED CARD OF 'brackenlaw6.WaveRaw'. -/
def waveRawCard : Claim7 := { stood := { row := waveRawRow, standIns := [], harness := (true, "c5fb8dc21caf84efcfcc91baf8aaa3e7aefd50e6b467470c44c87e0a213cc0d4"), looks := true }, kinds := [], alts := [], laidByText := true, laidKinds := [.data], laidTests := true, laidLooks := .later }
def WaveRawCardSaid : Prop := Claim7.holds Tryd.pinned (.plain (OpenSpec.ofChange waveRawSpec)) waveRawCard

/-- THE TIED CARD OF 'brackenlaw6.WaveParts'. -/
def wavePartsCard : Claim7 := { stood := { row := wavePartsRow, standIns := [], harness := (true, "c5fb8dc21caf84efcfcc91baf8aaa3e7aefd50e6b467470c44c87e0a213cc0d4"), looks := true }, kinds := [], alts := [], laidByText := true, laidKinds := [.data], laidTests := true, laidLooks := .later }
def WavePartsCardSaid : Prop := Claim7.holds Tryd.pinned (.plain (OpenSpec.ofChange wavePartsSpec)) wavePartsCard

/-- THE TIED CARD OF 'brackenlaw6.WaveOne'. -/
def waveOneCard : Claim7 := { stood := { row := waveOneRow, standIns := [], harness := (true, "c5fb8dc21caf84efcfcc91baf8aaa3e7aefd50e6b467470c44c87e0a213cc0d4"), looks := true }, kinds := [], alts := [], laidByText := true, laidKinds := [.data], laidTests := true, laidLooks := .later }
def WaveOneCardSaid : Prop := Claim7.holds Tryd.pinned (.plain (OpenSpec.ofChange waveOneSpec)) waveOneCard

/-- THE TIED CARD OF 'brackenlaw6.WaveSelects'. -/
def waveSelectsCard : Claim7 := { stood := { row := waveSelectsRow, standIns := [], harness := (true, "c5fb8dc21caf84efcfcc91baf8aaa3e7aefd50e6b467470c44c87e0a213cc0d4"), looks := true }, kinds := [], alts := [], laidByText := true, laidKinds := [.data], laidTests := true, laidLooks := .later }
def WaveSelectsCardSaid : Prop := Claim7.holds Tryd.pinned (.plain (OpenSpec.ofChange waveSelectsSpec)) waveSelectsCard

/-- THE TIED CARD OF 'brackenlaw6.WaveAsks'. -/
def waveAsksCard : Claim7 := { stood := { row := waveAsksRow, standIns := [], harness := (true, "c5fb8dc21caf84efcfcc91baf8aaa3e7aefd50e6b467470c44c87e0a213cc0d4"), looks := true }, kinds := [], alts := [], laidByText := true, laidKinds := [.data], laidTests := true, laidLooks := .later }
def WaveAsksCardSaid : Prop := Claim7.holds Tryd.pinned (.plain (OpenSpec.ofChange waveAsksSpec)) waveAsksCard

/-- THE SECOND FORM's CARD OF 'brackenlaw6.WaveRaw'. -/
def waveRawUptoCard : Claim7 := { stood := { row := waveRawUptoRow, standIns := [], harness := (true, "c5fb8dc21caf84efcfcc91baf8aaa3e7aefd50e6b467470c44c87e0a213cc0d4"), looks := true }, kinds := [], alts := [], laidByText := true, laidKinds := [.data], laidTests := true, laidLooks := .later }
def WaveRawUptoCardSaid : Prop := Claim7.holds Tryd.pinned (.plain (OpenSpec.upto waveRawSpec)) waveRawUptoCard

/-- THE SECOND FORM's CARD OF 'brackenlaw6.WaveParts'. -/
def wavePartsUptoCard : Claim7 := { stood := { row := wavePartsUptoRow, standIns := [], harness := (true, "c5fb8dc21caf84efcfcc91baf8aaa3e7aefd50e6b467470c44c87e0a213cc0d4"), looks := true }, kinds := [], alts := [], laidByText := true, laidKinds := [.data], laidTests := true, laidLooks := .later }
def WavePartsUptoCardSaid : Prop := Claim7.holds Tryd.pinned (.plain (OpenSpec.upto wavePartsSpec)) wavePartsUptoCard

/-- THE SECOND FORM's CARD OF 'brackenlaw6.WaveOne'. -/
def waveOneUptoCard : Claim7 := { stood := { row := waveOneUptoRow, standIns := [], harness := (true, "c5fb8dc21caf84efcfcc91baf8aaa3e7aefd50e6b467470c44c87e0a213cc0d4"), looks := true }, kinds := [], alts := [], laidByText := true, laidKinds := [.data], laidTests := true, laidLooks := .later }
def WaveOneUptoCardSaid : Prop := Claim7.holds Tryd.pinned (.plain (OpenSpec.upto waveOneSpec)) waveOneUptoCard

/-- THE SECOND FORM's CARD OF 'brackenlaw6.WaveSelects'. -/
def waveSelectsUptoCard : Claim7 := { stood := { row := waveSelectsUptoRow, standIns := [], harness := (true, "c5fb8dc21caf84efcfcc91baf8aaa3e7aefd50e6b467470c44c87e0a213cc0d4"), looks := true }, kinds := [], alts := [], laidByText := true, laidKinds := [.data], laidTests := true, laidLooks := .later }
def WaveSelectsUptoCardSaid : Prop := Claim7.holds Tryd.pinned (.plain (OpenSpec.upto waveSelectsSpec)) waveSelectsUptoCard

/-- THE SECOND FORM's CARD OF 'brackenlaw6.WaveAsks'. -/
def waveAsksUptoCard : Claim7 := { stood := { row := waveAsksUptoRow, standIns := [], harness := (true, "c5fb8dc21caf84efcfcc91baf8aaa3e7aefd50e6b467470c44c87e0a213cc0d4"), looks := true }, kinds := [], alts := [], laidByText := true, laidKinds := [.data], laidTests := true, laidLooks := .later }
def WaveAsksUptoCardSaid : Prop := Claim7.holds Tryd.pinned (.plain (OpenSpec.upto waveAsksSpec)) waveAsksUptoCard
end Rows
end Go.Proofs.YtkjgbophokcdbaaDoor
