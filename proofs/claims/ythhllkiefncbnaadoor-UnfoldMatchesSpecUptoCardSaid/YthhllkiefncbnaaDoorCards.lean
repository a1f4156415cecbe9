/-
  DERIVED. GIVEN WITH THE SEED: THE CARDS: each row of YthhllkiefncbnaaDoorRows.lean that lists a variable, with what it lists TIED to the program's text (the seventh form; the later family's looks); each row that meets fmt, with fmt's text TOLD by the authors' own Lean function (tested against real Go, not proved from fmt's source: count such statements apart). THE CARD IS WHAT COUNTS. Prove the row's statement (the work); the ties are given (YthhllkiefncbnaaDoorTie.lean); close each card by the builder's one call (the guide's Derived/Test/ToyasCard.lean, 'card_holds'). Laid BY PROGRAM, IN A SANDBOX (cutbox-door.mjs). By AI agents, Wed Nov 11 2026. No macro, syntax, notation, axiom, sorry.
-/
import Derived.Test.YthhllkiefncbnaaDoorRows
import GoSem.ClaimSeven
namespace Go.Proofs.YthhllkiefncbnaaDoor
namespace Rows

/-- THE TIED CARD OF 'posthouselaw1.FoldMatchesSpec'. -/
def foldMatchesSpecCard : Claim7 := { stood := { row := foldMatchesSpecRow, standIns := [], harness := (true, "0c488d4cb5853019fa7ee5990606429bee7977ec13ae38c4529f68d8611cb369"), looks := false }, kinds := [], alts := [], laidByText := true, laidKinds := [.data, .pinned], laidTests := true, laidLooks := .later }
def FoldMatchesSpecCardSaid : Prop := Claim7.holds Tryd.pinned (.plain (OpenSpec.ofChange foldMatchesSpecSpec)) foldMatchesSpecCard

/-- THE TIED CARD OF 'posthouselaw1.FoldRoundTrip'. -/
def foldRoundTripCard : Claim7 := { stood := { row := foldRoundTripRow, standIns := [], harness := (true, "0c488d4cb5853019fa7ee5990606429bee7977ec13ae38c4529f68d8611cb369"), looks := false }, kinds := [], alts := [], laidByText := true, laidKinds := [.data, .pinned], laidTests := true, laidLooks := .later }
def FoldRoundTripCardSaid : Prop := Claim7.holds Tryd.pinned (.plain (OpenSpec.ofChange foldRoundTripSpec)) foldRoundTripCard

/-- THE TIED CARD OF 'posthouselaw1.FoldShortLines'. -/
def foldShortLinesCard : Claim7 := { stood := { row := foldShortLinesRow, standIns := [], harness := (true, "0c488d4cb5853019fa7ee5990606429bee7977ec13ae38c4529f68d8611cb369"), looks := false }, kinds := [], alts := [], laidByText := true, laidKinds := [.data, .pinned], laidTests := true, laidLooks := .later }
def FoldShortLinesCardSaid : Prop := Claim7.holds Tryd.pinned (.plain (OpenSpec.ofChange foldShortLinesSpec)) foldShortLinesCard

/-- THE TIED CARD OF 'posthouselaw1.UnfoldMatchesSpec'. -/
def unfoldMatchesSpecCard : Claim7 := { stood := { row := unfoldMatchesSpecRow, standIns := [], harness := (true, "0c488d4cb5853019fa7ee5990606429bee7977ec13ae38c4529f68d8611cb369"), looks := false }, kinds := [], alts := [], laidByText := true, laidKinds := [.data, .pinned], laidTests := true, laidLooks := .later }
def UnfoldMatchesSpecCardSaid : Prop := Claim7.holds Tryd.pinned (.plain (OpenSpec.ofChange unfoldMatchesSpecSpec)) unfoldMatchesSpecCard

/-- THE SECOND FORM's CARD OF 'posthouselaw1.FoldMatchesSpec'. -/
def foldMatchesSpecUptoCard : Claim7 := { stood := { row := foldMatchesSpecUptoRow, standIns := [], harness := (true, "0c488d4cb5853019fa7ee5990606429bee7977ec13ae38c4529f68d8611cb369"), looks := false }, kinds := [], alts := [], laidByText := true, laidKinds := [.data, .pinned], laidTests := true, laidLooks := .later }
def FoldMatchesSpecUptoCardSaid : Prop := Claim7.holds Tryd.pinned (.plain (OpenSpec.upto foldMatchesSpecSpec)) foldMatchesSpecUptoCard

/-- THE SECOND FORM's CARD OF 'posthouselaw1.FoldRoundTrip'. -/
def foldRoundTripUptoCard : Claim7 := { stood := { row := foldRoundTripUptoRow, standIns := [], harness := (true, "0c488d4cb5853019fa7ee5990606429bee7977ec13ae38c4529f68d8611cb369"), looks := false }, kinds := [], alts := [], laidByText := true, laidKinds := [.data, .pinned], laidTests := true, laidLooks := .later }
def FoldRoundTripUptoCardSaid : Prop := Claim7.holds Tryd.pinned (.plain (OpenSpec.upto foldRoundTripSpec)) foldRoundTripUptoCard

/-- THE SECOND FORM's CARD OF 'posthouselaw1.FoldShortLines'. -/
def foldShortLinesUptoCard : Claim7 := { stood := { row := foldShortLinesUptoRow, standIns := [], harness := (true, "0c488d4cb5853019fa7ee5990606429bee7977ec13ae38c4529f68d8611cb369"), looks := false }, kinds := [], alts := [], laidByText := true, laidKinds := [.data, .pinned], laidTests := true, laidLooks := .later }
def FoldShortLinesUptoCardSaid : Prop := Claim7.holds Tryd.pinned (.plain (OpenSpec.upto foldShortLinesSpec)) foldShortLinesUptoCard

/-- THE SECOND FORM's CARD OF 'posthouselaw1.UnfoldMatchesSpec'. -/
def unfoldMatchesSpecUptoCard : Claim7 := { stood := { row := unfoldMatchesSpecUptoRow, standIns := [], harness := (true, "0c488d4cb5853019fa7ee5990606429bee7977ec13ae38c4529f68d8611cb369"), looks := false }, kinds := [], alts := [], laidByText := true, laidKinds := [.data, .pinned], laidTests := true, laidLooks := .later }
def UnfoldMatchesSpecUptoCardSaid : Prop := Claim7.holds Tryd.pinned (.plain (OpenSpec.upto unfoldMatchesSpecSpec)) unfoldMatchesSpecUptoCard
end Rows
end Go.Proofs.YthhllkiefncbnaaDoor
