/-
  DERIVED. GIVEN WITH THE SEED: THE CARDS: each row of YtmijfoikdjcmlaaDoorRows.lean that lists a variable, with what it lists TIED to the program's text (the seventh form; the later family's looks); each row that meets fmt, with fmt's text TOLD by the authors' own Lean function (tested against real Go, not proved from fmt's source: count such statements apart). THE CARD IS WHAT COUNTS. Prove the row's statement (the work); the ties are given (YtmijfoikdjcmlaaDoorTie.lean); close each card by the builder's one call (the guide's Derived/Test/ToyasCard.lean, 'card_holds'). Laid BY PROGRAM, IN A SANDBOX (cutbox-door.mjs). By AI agents, Wed Nov 11 2026. No macro, syntax, notation, axiom, sorry.
-/
import Derived.Test.YtmijfoikdjcmlaaDoorRows
import GoSem.ClaimSeven
namespace Go.Proofs.YtmijfoikdjcmlaaDoor
namespace Rows

/-- THE TIED CARD OF 'brackenlaw5.ParenNone'. -/
def parenNoneCard : Claim7 := { stood := { row := parenNoneRow, standIns := [], harness := (true, "261f3074be8e1c1a97b41be9fdd82bcc39320588dde01363456824e837274da8"), looks := true }, kinds := [], alts := [], laidByText := true, laidKinds := [.data], laidTests := true, laidLooks := .later }
def ParenNoneCardSaid : Prop := Claim7.holds Tryd.pinned (.plain (OpenSpec.ofChange parenNoneSpec)) parenNoneCard

/-- THE TIED CARD OF 'brackenlaw5.ParenRaw'. -/
def parenRawCard : Claim7 := { stood := { row := parenRawRow, standIns := [], harness := (true, "261f3074be8e1c1a97b41be9fdd82bcc39320588dde01363456824e837274da8"), looks := true }, kinds := [], alts := [], laidByText := true, laidKinds := [.data], laidTests := true, laidLooks := .later }
def ParenRawCardSaid : Prop := Claim7.holds Tryd.pinned (.plain (OpenSpec.ofChange parenRawSpec)) parenRawCard

/-- THE TIED CARD OF 'brackenlaw5.ParenPairs'. -/
def parenPairsCard : Claim7 := { stood := { row := parenPairsRow, standIns := [], harness := (true, "261f3074be8e1c1a97b41be9fdd82bcc39320588dde01363456824e837274da8"), looks := true }, kinds := [], alts := [], laidByText := true, laidKinds := [.data], laidTests := true, laidLooks := .later }
def ParenPairsCardSaid : Prop := Claim7.holds Tryd.pinned (.plain (OpenSpec.ofChange parenPairsSpec)) parenPairsCard

/-- THE TIED CARD OF 'brackenlaw5.ParenSpans'. -/
def parenSpansCard : Claim7 := { stood := { row := parenSpansRow, standIns := [], harness := (true, "261f3074be8e1c1a97b41be9fdd82bcc39320588dde01363456824e837274da8"), looks := true }, kinds := [], alts := [], laidByText := true, laidKinds := [.data], laidTests := true, laidLooks := .later }
def ParenSpansCardSaid : Prop := Claim7.holds Tryd.pinned (.plain (OpenSpec.ofChange parenSpansSpec)) parenSpansCard

/-- THE TIED CARD OF 'brackenlaw5.ParenAsks'. -/
def parenAsksCard : Claim7 := { stood := { row := parenAsksRow, standIns := [], harness := (true, "261f3074be8e1c1a97b41be9fdd82bcc39320588dde01363456824e837274da8"), looks := true }, kinds := [], alts := [], laidByText := true, laidKinds := [.data], laidTests := true, laidLooks := .later }
def ParenAsksCardSaid : Prop := Claim7.holds Tryd.pinned (.plain (OpenSpec.ofChange parenAsksSpec)) parenAsksCard

/-- THE TIED CARD OF 'brackenlaw5.ParenDeep'. -/
def parenDeepCard : Claim7 := { stood := { row := parenDeepRow, standIns := [], harness := (true, "261f3074be8e1c1a97b41be9fdd82bcc39320588dde01363456824e837274da8"), looks := true }, kinds := [], alts := [], laidByText := true, laidKinds := [.data], laidTests := true, laidLooks := .later }
def ParenDeepCardSaid : Prop := Claim7.holds Tryd.pinned (.plain (OpenSpec.ofChange parenDeepSpec)) parenDeepCard

/-- THE TIED CARD OF 'brackenlaw5.ParenWide'. -/
def parenWideCard : Claim7 := { stood := { row := parenWideRow, standIns := [], harness := (true, "261f3074be8e1c1a97b41be9fdd82bcc39320588dde01363456824e837274da8"), looks := true }, kinds := [], alts := [], laidByText := true, laidKinds := [.data], laidTests := true, laidLooks := .later }
def ParenWideCardSaid : Prop := Claim7.holds Tryd.pinned (.plain (OpenSpec.ofChange parenWideSpec)) parenWideCard

/-- THE TIED CARD OF 'brackenlaw5.ParenUp'. -/
def parenUpCard : Claim7 := { stood := { row := parenUpRow, standIns := [], harness := (true, "261f3074be8e1c1a97b41be9fdd82bcc39320588dde01363456824e837274da8"), looks := true }, kinds := [], alts := [], laidByText := true, laidKinds := [.data], laidTests := true, laidLooks := .later }
def ParenUpCardSaid : Prop := Claim7.holds Tryd.pinned (.plain (OpenSpec.ofChange parenUpSpec)) parenUpCard

/-- THE SECOND FORM's CARD OF 'brackenlaw5.ParenNone'. -/
def parenNoneUptoCard : Claim7 := { stood := { row := parenNoneUptoRow, standIns := [], harness := (true, "261f3074be8e1c1a97b41be9fdd82bcc39320588dde01363456824e837274da8"), looks := true }, kinds := [], alts := [], laidByText := true, laidKinds := [.data], laidTests := true, laidLooks := .later }
def ParenNoneUptoCardSaid : Prop := Claim7.holds Tryd.pinned (.plain (OpenSpec.upto parenNoneSpec)) parenNoneUptoCard

/-- THE SECOND FORM's CARD OF 'brackenlaw5.ParenRaw'. -/
def parenRawUptoCard : Claim7 := { stood := { row := parenRawUptoRow, standIns := [], harness := (true, "261f3074be8e1c1a97b41be9fdd82bcc39320588dde01363456824e837274da8"), looks := true }, kinds := [], alts := [], laidByText := true, laidKinds := [.data], laidTests := true, laidLooks := .later }
def ParenRawUptoCardSaid : Prop := Claim7.holds Tryd.pinned (.plain (OpenSpec.upto parenRawSpec)) parenRawUptoCard

/-- THE SECOND FORM's CARD OF 'brackenlaw5.ParenPairs'. -/
def parenPairsUptoCard : Claim7 := { stood := { row := parenPairsUptoRow, standIns := [], harness := (true, "261f3074be8e1c1a97b41be9fdd82bcc39320588dde01363456824e837274da8"), looks := true }, kinds := [], alts := [], laidByText := true, laidKinds := [.data], laidTests := true, laidLooks := .later }
def ParenPairsUptoCardSaid : Prop := Claim7.holds Tryd.pinned (.plain (OpenSpec.upto parenPairsSpec)) parenPairsUptoCard

/-- THE SECOND FORM's CARD OF 'brackenlaw5.ParenSpans'. -/
def parenSpansUptoCard : Claim7 := { stood := { row := parenSpansUptoRow, standIns := [], harness := (true, "261f3074be8e1c1a97b41be9fdd82bcc39320588dde01363456824e837274da8"), looks := true }, kinds := [], alts := [], laidByText := true, laidKinds := [.data], laidTests := true, laidLooks := .later }
def ParenSpansUptoCardSaid : Prop := Claim7.holds Tryd.pinned (.plain (OpenSpec.upto parenSpansSpec)) parenSpansUptoCard

/-- THE SECOND FORM's CARD OF 'brackenlaw5.ParenAsks'. -/
def parenAsksUptoCard : Claim7 := { stood := { row := parenAsksUptoRow, standIns := [], harness := (true, "261f3074be8e1c1a97b41be9fdd82bcc39320588dde01363456824e837274da8"), looks := true }, kinds := [], alts := [], laidByText := true, laidKinds := [.data], laidTests := true, laidLooks := .later }
def ParenAsksUptoCardSaid : Prop := Claim7.holds Tryd.pinned (.plain (OpenSpec.upto parenAsksSpec)) parenAsksUptoCard

/-- THE SECOND FORM's CARD OF 'brackenlaw5.ParenDeep'. -/
def parenDeepUptoCard : Claim7 := { stood := { row := parenDeepUptoRow, standIns := [], harness := (true, "261f3074be8e1c1a97b41be9fdd82bcc39320588dde01363456824e837274da8"), looks := true }, kinds := [], alts := [], laidByText := true, laidKinds := [.data], laidTests := true, laidLooks := .later }
def ParenDeepUptoCardSaid : Prop := Claim7.holds Tryd.pinned (.plain (OpenSpec.upto parenDeepSpec)) parenDeepUptoCard

/-- THE SECOND FORM's CARD OF 'brackenlaw5.ParenWide'. -/
def parenWideUptoCard : Claim7 := { stood := { row := parenWideUptoRow, standIns := [], harness := (true, "261f3074be8e1c1a97b41be9fdd82bcc39320588dde01363456824e837274da8"), looks := true }, kinds := [], alts := [], laidByText := true, laidKinds := [.data], laidTests := true, laidLooks := .later }
def ParenWideUptoCardSaid : Prop := Claim7.holds Tryd.pinned (.plain (OpenSpec.upto parenWideSpec)) parenWideUptoCard

/-- THE SECOND FORM's CARD OF 'brackenlaw5.ParenUp'. -/
def parenUpUptoCard : Claim7 := { stood := { row := parenUpUptoRow, standIns := [], harness := (true, "261f3074be8e1c1a97b41be9fdd82bcc39320588dde01363456824e837274da8"), looks := true }, kinds := [], alts := [], laidByText := true, laidKinds := [.data], laidTests := true, laidLooks := .later }
def ParenUpUptoCardSaid : Prop := Claim7.holds Tryd.pinned (.plain (OpenSpec.upto parenUpSpec)) parenUpUptoCard
end Rows
end Go.Proofs.YtmijfoikdjcmlaaDoor
