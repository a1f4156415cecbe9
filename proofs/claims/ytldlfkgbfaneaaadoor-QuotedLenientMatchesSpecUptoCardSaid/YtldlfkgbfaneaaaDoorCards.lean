/-
  DERIVED. GIVEN WITH THE SEED: THE CARDS: each row of YtldlfkgbfaneaaaDoorRows.lean that lists a variable, with what it lists TIED to the program's text (the seventh form; the later family's looks); each row that meets fmt, with fmt's text TOLD by the authors' own Lean function (tested against real Go, not proved from fmt's source: count such statements apart). THE CARD IS WHAT COUNTS. Prove the row's statement (the work); the ties are given (YtldlfkgbfaneaaaDoorTie.lean); close each card by the builder's one call (the guide's Derived/Test/ToyasCard.lean, 'card_holds'). Laid BY PROGRAM, IN A SANDBOX (cutbox-door.mjs). By AI agents, Wed Nov 11 2026. No macro, syntax, notation, axiom, sorry.
-/
import Derived.Test.YtldlfkgbfaneaaaDoorRows
import GoSem.ClaimSeven
namespace Go.Proofs.YtldlfkgbfaneaaaDoor
namespace Rows

/-- THE TIED CARD OF 'posthouselaw1.QuotedEncodeMatchesSpec'. -/
def quotedEncodeMatchesSpecCard : Claim7 := { stood := { row := quotedEncodeMatchesSpecRow, standIns := [], harness := (true, "f6801e59062f7745655c282e06117c370b6da58090e7c53d87ee005034e88ab0"), looks := false }, kinds := [], alts := [], laidByText := true, laidKinds := [.data, .pinned], laidTests := true, laidLooks := .later }
def QuotedEncodeMatchesSpecCardSaid : Prop := Claim7.holds Tryd.pinned (.plain (OpenSpec.ofChange quotedEncodeMatchesSpecSpec)) quotedEncodeMatchesSpecCard

/-- THE TIED CARD OF 'posthouselaw1.QuotedLenientMatchesSpec'. -/
def quotedLenientMatchesSpecCard : Claim7 := { stood := { row := quotedLenientMatchesSpecRow, standIns := [], harness := (true, "f6801e59062f7745655c282e06117c370b6da58090e7c53d87ee005034e88ab0"), looks := false }, kinds := [], alts := [], laidByText := true, laidKinds := [.data, .pinned], laidTests := true, laidLooks := .later }
def QuotedLenientMatchesSpecCardSaid : Prop := Claim7.holds Tryd.pinned (.plain (OpenSpec.ofChange quotedLenientMatchesSpecSpec)) quotedLenientMatchesSpecCard

/-- THE TIED CARD OF 'posthouselaw1.QuotedRoundTrip'. -/
def quotedRoundTripCard : Claim7 := { stood := { row := quotedRoundTripRow, standIns := [], harness := (true, "f6801e59062f7745655c282e06117c370b6da58090e7c53d87ee005034e88ab0"), looks := false }, kinds := [], alts := [], laidByText := true, laidKinds := [.data, .pinned], laidTests := true, laidLooks := .later }
def QuotedRoundTripCardSaid : Prop := Claim7.holds Tryd.pinned (.plain (OpenSpec.ofChange quotedRoundTripSpec)) quotedRoundTripCard

/-- THE TIED CARD OF 'posthouselaw1.QuotedUnique'. -/
def quotedUniqueCard : Claim7 := { stood := { row := quotedUniqueRow, standIns := [], harness := (true, "f6801e59062f7745655c282e06117c370b6da58090e7c53d87ee005034e88ab0"), looks := false }, kinds := [], alts := [], laidByText := true, laidKinds := [.data, .pinned], laidTests := true, laidLooks := .later }
def QuotedUniqueCardSaid : Prop := Claim7.holds Tryd.pinned (.plain (OpenSpec.ofChange quotedUniqueSpec)) quotedUniqueCard

/-- THE TIED CARD OF 'posthouselaw1.QuotedLines'. -/
def quotedLinesCard : Claim7 := { stood := { row := quotedLinesRow, standIns := [], harness := (true, "f6801e59062f7745655c282e06117c370b6da58090e7c53d87ee005034e88ab0"), looks := false }, kinds := [], alts := [], laidByText := true, laidKinds := [.data, .pinned], laidTests := true, laidLooks := .later }
def QuotedLinesCardSaid : Prop := Claim7.holds Tryd.pinned (.plain (OpenSpec.ofChange quotedLinesSpec)) quotedLinesCard

/-- THE SECOND FORM's CARD OF 'posthouselaw1.QuotedEncodeMatchesSpec'. -/
def quotedEncodeMatchesSpecUptoCard : Claim7 := { stood := { row := quotedEncodeMatchesSpecUptoRow, standIns := [], harness := (true, "f6801e59062f7745655c282e06117c370b6da58090e7c53d87ee005034e88ab0"), looks := false }, kinds := [], alts := [], laidByText := true, laidKinds := [.data, .pinned], laidTests := true, laidLooks := .later }
def QuotedEncodeMatchesSpecUptoCardSaid : Prop := Claim7.holds Tryd.pinned (.plain (OpenSpec.upto quotedEncodeMatchesSpecSpec)) quotedEncodeMatchesSpecUptoCard

/-- THE SECOND FORM's CARD OF 'posthouselaw1.QuotedLenientMatchesSpec'. -/
def quotedLenientMatchesSpecUptoCard : Claim7 := { stood := { row := quotedLenientMatchesSpecUptoRow, standIns := [], harness := (true, "f6801e59062f7745655c282e06117c370b6da58090e7c53d87ee005034e88ab0"), looks := false }, kinds := [], alts := [], laidByText := true, laidKinds := [.data, .pinned], laidTests := true, laidLooks := .later }
def QuotedLenientMatchesSpecUptoCardSaid : Prop := Claim7.holds Tryd.pinned (.plain (OpenSpec.upto quotedLenientMatchesSpecSpec)) quotedLenientMatchesSpecUptoCard

/-- THE SECOND FORM's CARD OF 'posthouselaw1.QuotedRoundTrip'. -/
def quotedRoundTripUptoCard : Claim7 := { stood := { row := quotedRoundTripUptoRow, standIns := [], harness := (true, "f6801e59062f7745655c282e06117c370b6da58090e7c53d87ee005034e88ab0"), looks := false }, kinds := [], alts := [], laidByText := true, laidKinds := [.data, .pinned], laidTests := true, laidLooks := .later }
def QuotedRoundTripUptoCardSaid : Prop := Claim7.holds Tryd.pinned (.plain (OpenSpec.upto quotedRoundTripSpec)) quotedRoundTripUptoCard

/-- THE SECOND FORM's CARD OF 'posthouselaw1.QuotedUnique'. -/
def quotedUniqueUptoCard : Claim7 := { stood := { row := quotedUniqueUptoRow, standIns := [], harness := (true, "f6801e59062f7745655c282e06117c370b6da58090e7c53d87ee005034e88ab0"), looks := false }, kinds := [], alts := [], laidByText := true, laidKinds := [.data, .pinned], laidTests := true, laidLooks := .later }
def QuotedUniqueUptoCardSaid : Prop := Claim7.holds Tryd.pinned (.plain (OpenSpec.upto quotedUniqueSpec)) quotedUniqueUptoCard

/-- THE SECOND FORM's CARD OF 'posthouselaw1.QuotedLines'. -/
def quotedLinesUptoCard : Claim7 := { stood := { row := quotedLinesUptoRow, standIns := [], harness := (true, "f6801e59062f7745655c282e06117c370b6da58090e7c53d87ee005034e88ab0"), looks := false }, kinds := [], alts := [], laidByText := true, laidKinds := [.data, .pinned], laidTests := true, laidLooks := .later }
def QuotedLinesUptoCardSaid : Prop := Claim7.holds Tryd.pinned (.plain (OpenSpec.upto quotedLinesSpec)) quotedLinesUptoCard
end Rows
end Go.Proofs.YtldlfkgbfaneaaaDoor
