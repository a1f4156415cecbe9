/-
  DERIVED. GIVEN WITH THE SEED: THE CARDS: each row of YtklllljgdabheaaDoorRows.lean that lists a variable, with what it lists TIED to the program's text (the seventh form; the later family's looks); each row that meets fmt, with fmt's text TOLD by the authors' own Lean function (tested against real Go, not proved from fmt's source: count such statements apart). THE CARD IS WHAT COUNTS. Prove the row's statement (the work); the ties are given (YtklllljgdabheaaDoorTie.lean); close each card by the builder's one call (the guide's Derived/Test/ToyasCard.lean, 'card_holds'). Laid BY PROGRAM, IN A SANDBOX (cutbox-door.mjs). By AI agents, Wed Nov 11 2026. No macro, syntax, notation, axiom, sorry.
-/
import Derived.Test.YtklllljgdabheaaDoorRows
import GoSem.ClaimSeven
namespace Go.Proofs.YtklllljgdabheaaDoor
namespace Rows

/-- THE TIED CARD OF 'posthouselaw1.CharsetDecodeMatchesSpec'. -/
def charsetDecodeMatchesSpecCard : Claim7 := { stood := { row := charsetDecodeMatchesSpecRow, standIns := [], harness := (true, "5290d24049bbcf8ce48380a009c38c6834aecb1755c408f016446c261bc3cff1"), looks := false }, kinds := [], alts := [], laidByText := true, laidKinds := [.data, .pinned], laidTests := true, laidLooks := .later }
def CharsetDecodeMatchesSpecCardSaid : Prop := Claim7.holds Tryd.pinned (.plain (OpenSpec.ofChange charsetDecodeMatchesSpecSpec)) charsetDecodeMatchesSpecCard

/-- THE TIED CARD OF 'posthouselaw1.CharsetEncodeMatchesSpec'. -/
def charsetEncodeMatchesSpecCard : Claim7 := { stood := { row := charsetEncodeMatchesSpecRow, standIns := [], harness := (true, "5290d24049bbcf8ce48380a009c38c6834aecb1755c408f016446c261bc3cff1"), looks := false }, kinds := [], alts := [], laidByText := true, laidKinds := [.data, .pinned], laidTests := true, laidLooks := .later }
def CharsetEncodeMatchesSpecCardSaid : Prop := Claim7.holds Tryd.pinned (.plain (OpenSpec.ofChange charsetEncodeMatchesSpecSpec)) charsetEncodeMatchesSpecCard

/-- THE TIED CARD OF 'posthouselaw1.CharsetRoundTrip'. -/
def charsetRoundTripCard : Claim7 := { stood := { row := charsetRoundTripRow, standIns := [], harness := (true, "5290d24049bbcf8ce48380a009c38c6834aecb1755c408f016446c261bc3cff1"), looks := false }, kinds := [], alts := [], laidByText := true, laidKinds := [.data, .pinned], laidTests := true, laidLooks := .later }
def CharsetRoundTripCardSaid : Prop := Claim7.holds Tryd.pinned (.plain (OpenSpec.ofChange charsetRoundTripSpec)) charsetRoundTripCard

/-- THE TIED CARD OF 'posthouselaw1.CharsetBestIsLeast'. -/
def charsetBestIsLeastCard : Claim7 := { stood := { row := charsetBestIsLeastRow, standIns := [], harness := (true, "5290d24049bbcf8ce48380a009c38c6834aecb1755c408f016446c261bc3cff1"), looks := false }, kinds := [], alts := [], laidByText := true, laidKinds := [.data, .pinned], laidTests := true, laidLooks := .later }
def CharsetBestIsLeastCardSaid : Prop := Claim7.holds Tryd.pinned (.plain (OpenSpec.ofChange charsetBestIsLeastSpec)) charsetBestIsLeastCard

/-- THE TIED CARD OF 'posthouselaw1.CharsetDecodesValid'. -/
def charsetDecodesValidCard : Claim7 := { stood := { row := charsetDecodesValidRow, standIns := [], harness := (true, "5290d24049bbcf8ce48380a009c38c6834aecb1755c408f016446c261bc3cff1"), looks := false }, kinds := [], alts := [], laidByText := true, laidKinds := [.data, .pinned], laidTests := true, laidLooks := .later }
def CharsetDecodesValidCardSaid : Prop := Claim7.holds Tryd.pinned (.plain (OpenSpec.ofChange charsetDecodesValidSpec)) charsetDecodesValidCard

/-- THE SECOND FORM's CARD OF 'posthouselaw1.CharsetDecodeMatchesSpec'. -/
def charsetDecodeMatchesSpecUptoCard : Claim7 := { stood := { row := charsetDecodeMatchesSpecUptoRow, standIns := [], harness := (true, "5290d24049bbcf8ce48380a009c38c6834aecb1755c408f016446c261bc3cff1"), looks := false }, kinds := [], alts := [], laidByText := true, laidKinds := [.data, .pinned], laidTests := true, laidLooks := .later }
def CharsetDecodeMatchesSpecUptoCardSaid : Prop := Claim7.holds Tryd.pinned (.plain (OpenSpec.upto charsetDecodeMatchesSpecSpec)) charsetDecodeMatchesSpecUptoCard

/-- THE SECOND FORM's CARD OF 'posthouselaw1.CharsetEncodeMatchesSpec'. -/
def charsetEncodeMatchesSpecUptoCard : Claim7 := { stood := { row := charsetEncodeMatchesSpecUptoRow, standIns := [], harness := (true, "5290d24049bbcf8ce48380a009c38c6834aecb1755c408f016446c261bc3cff1"), looks := false }, kinds := [], alts := [], laidByText := true, laidKinds := [.data, .pinned], laidTests := true, laidLooks := .later }
def CharsetEncodeMatchesSpecUptoCardSaid : Prop := Claim7.holds Tryd.pinned (.plain (OpenSpec.upto charsetEncodeMatchesSpecSpec)) charsetEncodeMatchesSpecUptoCard

/-- THE SECOND FORM's CARD OF 'posthouselaw1.CharsetRoundTrip'. -/
def charsetRoundTripUptoCard : Claim7 := { stood := { row := charsetRoundTripUptoRow, standIns := [], harness := (true, "5290d24049bbcf8ce48380a009c38c6834aecb1755c408f016446c261bc3cff1"), looks := false }, kinds := [], alts := [], laidByText := true, laidKinds := [.data, .pinned], laidTests := true, laidLooks := .later }
def CharsetRoundTripUptoCardSaid : Prop := Claim7.holds Tryd.pinned (.plain (OpenSpec.upto charsetRoundTripSpec)) charsetRoundTripUptoCard

/-- THE SECOND FORM's CARD OF 'posthouselaw1.CharsetBestIsLeast'. -/
def charsetBestIsLeastUptoCard : Claim7 := { stood := { row := charsetBestIsLeastUptoRow, standIns := [], harness := (true, "5290d24049bbcf8ce48380a009c38c6834aecb1755c408f016446c261bc3cff1"), looks := false }, kinds := [], alts := [], laidByText := true, laidKinds := [.data, .pinned], laidTests := true, laidLooks := .later }
def CharsetBestIsLeastUptoCardSaid : Prop := Claim7.holds Tryd.pinned (.plain (OpenSpec.upto charsetBestIsLeastSpec)) charsetBestIsLeastUptoCard

/-- THE SECOND FORM's CARD OF 'posthouselaw1.CharsetDecodesValid'. -/
def charsetDecodesValidUptoCard : Claim7 := { stood := { row := charsetDecodesValidUptoRow, standIns := [], harness := (true, "5290d24049bbcf8ce48380a009c38c6834aecb1755c408f016446c261bc3cff1"), looks := false }, kinds := [], alts := [], laidByText := true, laidKinds := [.data, .pinned], laidTests := true, laidLooks := .later }
def CharsetDecodesValidUptoCardSaid : Prop := Claim7.holds Tryd.pinned (.plain (OpenSpec.upto charsetDecodesValidSpec)) charsetDecodesValidUptoCard
end Rows
end Go.Proofs.YtklllljgdabheaaDoor
