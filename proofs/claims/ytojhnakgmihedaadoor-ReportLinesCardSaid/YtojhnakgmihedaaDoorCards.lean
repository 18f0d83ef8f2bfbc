/-
  DERIVED. GIVEN WITH THE SEED: THE CARDS: each row of YtojhnakgmihedaaDoorRows.lean that lists a variable, with what it lists TIED to the program's text (the seventh form; the later family's looks); each row that meets fmt, with fmt's text TOLD by the authors' own Lean function (tested against real Go, not proved from fmt's source: count such statements apart). THE CARD IS WHAT COUNTS. Prove the row's statement (the work); the ties are given (YtojhnakgmihedaaDoorTie.lean); close each card by the builder's one call (the guide's Derived/Test/ToyasCard.lean, 'card_holds'). Laid BY PROGRAM, IN A SANDBOX (cutbox-door.mjs). By AI agents, Wed Nov 11 2026. No macro, syntax, notation, axiom, sorry.
-/
import Derived.Test.YtojhnakgmihedaaDoorRows
import GoSem.ClaimSeven
namespace Go.Proofs.YtojhnakgmihedaaDoor
namespace Rows

/-- THE TIED CARD OF 'brackenlaw27.ReportCodes'. -/
def reportCodesCard : Claim7 := { stood := { row := reportCodesRow, standIns := [], harness := (true, "d19139fca3a1dfa2abb35593a432d05fba5c231331849e586765e739665a8614"), looks := true }, kinds := [], alts := [], laidByText := true, laidKinds := [.data, .data, .data], laidTests := true, laidLooks := .later }
def ReportCodesCardSaid : Prop := Claim7.holds Tryd.pinned (.plain (OpenSpec.ofChange reportCodesSpec)) reportCodesCard

/-- THE TIED CARD OF 'brackenlaw27.ReportAsks'. -/
def reportAsksCard : Claim7 := { stood := { row := reportAsksRow, standIns := [], harness := (true, "d19139fca3a1dfa2abb35593a432d05fba5c231331849e586765e739665a8614"), looks := true }, kinds := [], alts := [], laidByText := true, laidKinds := [.data, .data, .data], laidTests := true, laidLooks := .later }
def ReportAsksCardSaid : Prop := Claim7.holds Tryd.pinned (.plain (OpenSpec.ofChange reportAsksSpec)) reportAsksCard

/-- THE TIED CARD OF 'brackenlaw27.ReportLines'. -/
def reportLinesCard : Claim7 := { stood := { row := reportLinesRow, standIns := [], harness := (true, "d19139fca3a1dfa2abb35593a432d05fba5c231331849e586765e739665a8614"), looks := true }, kinds := [], alts := [], laidByText := true, laidKinds := [.data, .data, .data], laidTests := true, laidLooks := .later }
def ReportLinesCardSaid : Prop := Claim7.holds Tryd.pinned (.plain (OpenSpec.ofChange reportLinesSpec)) reportLinesCard

/-- THE SECOND FORM's CARD OF 'brackenlaw27.ReportCodes'. -/
def reportCodesUptoCard : Claim7 := { stood := { row := reportCodesUptoRow, standIns := [], harness := (true, "d19139fca3a1dfa2abb35593a432d05fba5c231331849e586765e739665a8614"), looks := true }, kinds := [], alts := [], laidByText := true, laidKinds := [.data, .data, .data], laidTests := true, laidLooks := .later }
def ReportCodesUptoCardSaid : Prop := Claim7.holds Tryd.pinned (.plain (OpenSpec.upto reportCodesSpec)) reportCodesUptoCard

/-- THE SECOND FORM's CARD OF 'brackenlaw27.ReportAsks'. -/
def reportAsksUptoCard : Claim7 := { stood := { row := reportAsksUptoRow, standIns := [], harness := (true, "d19139fca3a1dfa2abb35593a432d05fba5c231331849e586765e739665a8614"), looks := true }, kinds := [], alts := [], laidByText := true, laidKinds := [.data, .data, .data], laidTests := true, laidLooks := .later }
def ReportAsksUptoCardSaid : Prop := Claim7.holds Tryd.pinned (.plain (OpenSpec.upto reportAsksSpec)) reportAsksUptoCard

/-- THE SECOND FORM's CARD OF 'brackenlaw27.ReportLines'. -/
def reportLinesUptoCard : Claim7 := { stood := { row := reportLinesUptoRow, standIns := [], harness := (true, "d19139fca3a1dfa2abb35593a432d05fba5c231331849e586765e739665a8614"), looks := true }, kinds := [], alts := [], laidByText := true, laidKinds := [.data, .data, .data], laidTests := true, laidLooks := .later }
def ReportLinesUptoCardSaid : Prop := Claim7.holds Tryd.pinned (.plain (OpenSpec.upto reportLinesSpec)) reportLinesUptoCard
end Rows
end Go.Proofs.YtojhnakgmihedaaDoor
