/-
  DERIVED. GIVEN WITH THE SEED: THE CARDS: each row of YtagnebpehdonaaaDoorRows.lean that lists a variable, with what it lists TIED to the program's text (the seventh form; the later family's looks); each row that meets fmt, with fmt's text TOLD by the authors' own Lean function (tested against real Go, not proved from fmt's source: count such statements apart). THE CARD IS WHAT COUNTS. Prove the row's statement (the work); the ties are given (YtagnebpehdonaaaDoorTie.lean); close each card by the builder's one call (the guide's Derived/Test/ToyasCard.lean, 'card_holds'). Laid BY PROGRAM, IN A SANDBOX (cutbox-door.mjs). By AI agents, Wed Nov 11 2026. No macro, syntax, notation, axiom, sorry.
-/
import Derived.Test.YtagnebpehdonaaaDoorRows
import GoSem.ClaimSeven
namespace Go.Proofs.YtagnebpehdonaaaDoor
namespace Rows

/-- THE TIED CARD OF 'posthouselaw1.GraphemeSplitMatchesSpec'. -/
def graphemeSplitMatchesSpecCard : Claim7 := { stood := { row := graphemeSplitMatchesSpecRow, standIns := [], harness := (true, "7a6a890dcaa337b944cb2134574cf3c747c67999341de8a54311f2027a00a232"), looks := false }, kinds := [], alts := [], laidByText := true, laidKinds := [.data, .data, .data, .pinned], laidTests := true, laidLooks := .later }
def GraphemeSplitMatchesSpecCardSaid : Prop := Claim7.holds Tryd.pinned (.plain (OpenSpec.ofChange graphemeSplitMatchesSpecSpec)) graphemeSplitMatchesSpecCard

/-- THE TIED CARD OF 'posthouselaw1.GraphemeJoins'. -/
def graphemeJoinsCard : Claim7 := { stood := { row := graphemeJoinsRow, standIns := [], harness := (true, "7a6a890dcaa337b944cb2134574cf3c747c67999341de8a54311f2027a00a232"), looks := false }, kinds := [], alts := [], laidByText := true, laidKinds := [.data, .data, .data, .pinned], laidTests := true, laidLooks := .later }
def GraphemeJoinsCardSaid : Prop := Claim7.holds Tryd.pinned (.plain (OpenSpec.ofChange graphemeJoinsSpec)) graphemeJoinsCard

/-- THE TIED CARD OF 'posthouselaw1.GraphemeCutMatchesSpec'. -/
def graphemeCutMatchesSpecCard : Claim7 := { stood := { row := graphemeCutMatchesSpecRow, standIns := [], harness := (true, "7a6a890dcaa337b944cb2134574cf3c747c67999341de8a54311f2027a00a232"), looks := false }, kinds := [], alts := [], laidByText := true, laidKinds := [.data, .data, .data, .pinned], laidTests := true, laidLooks := .later }
def GraphemeCutMatchesSpecCardSaid : Prop := Claim7.holds Tryd.pinned (.plain (OpenSpec.ofChange graphemeCutMatchesSpecSpec)) graphemeCutMatchesSpecCard

/-- THE TIED CARD OF 'posthouselaw1.GraphemeWidthMatchesSpec'. -/
def graphemeWidthMatchesSpecCard : Claim7 := { stood := { row := graphemeWidthMatchesSpecRow, standIns := [], harness := (true, "7a6a890dcaa337b944cb2134574cf3c747c67999341de8a54311f2027a00a232"), looks := false }, kinds := [], alts := [], laidByText := true, laidKinds := [.data, .data, .data, .pinned], laidTests := true, laidLooks := .later }
def GraphemeWidthMatchesSpecCardSaid : Prop := Claim7.holds Tryd.pinned (.plain (OpenSpec.ofChange graphemeWidthMatchesSpecSpec)) graphemeWidthMatchesSpecCard

/-- THE TIED CARD OF 'posthouselaw1.GraphemeCutTwice'. -/
def graphemeCutTwiceCard : Claim7 := { stood := { row := graphemeCutTwiceRow, standIns := [], harness := (true, "7a6a890dcaa337b944cb2134574cf3c747c67999341de8a54311f2027a00a232"), looks := false }, kinds := [], alts := [], laidByText := true, laidKinds := [.data, .data, .data, .pinned], laidTests := true, laidLooks := .later }
def GraphemeCutTwiceCardSaid : Prop := Claim7.holds Tryd.pinned (.plain (OpenSpec.ofChange graphemeCutTwiceSpec)) graphemeCutTwiceCard

/-- THE SECOND FORM's CARD OF 'posthouselaw1.GraphemeSplitMatchesSpec'. -/
def graphemeSplitMatchesSpecUptoCard : Claim7 := { stood := { row := graphemeSplitMatchesSpecUptoRow, standIns := [], harness := (true, "7a6a890dcaa337b944cb2134574cf3c747c67999341de8a54311f2027a00a232"), looks := false }, kinds := [], alts := [], laidByText := true, laidKinds := [.data, .data, .data, .pinned], laidTests := true, laidLooks := .later }
def GraphemeSplitMatchesSpecUptoCardSaid : Prop := Claim7.holds Tryd.pinned (.plain (OpenSpec.upto graphemeSplitMatchesSpecSpec)) graphemeSplitMatchesSpecUptoCard

/-- THE SECOND FORM's CARD OF 'posthouselaw1.GraphemeJoins'. -/
def graphemeJoinsUptoCard : Claim7 := { stood := { row := graphemeJoinsUptoRow, standIns := [], harness := (true, "7a6a890dcaa337b944cb2134574cf3c747c67999341de8a54311f2027a00a232"), looks := false }, kinds := [], alts := [], laidByText := true, laidKinds := [.data, .data, .data, .pinned], laidTests := true, laidLooks := .later }
def GraphemeJoinsUptoCardSaid : Prop := Claim7.holds Tryd.pinned (.plain (OpenSpec.upto graphemeJoinsSpec)) graphemeJoinsUptoCard

/-- THE SECOND FORM's CARD OF 'posthouselaw1.GraphemeCutMatchesSpec'. -/
def graphemeCutMatchesSpecUptoCard : Claim7 := { stood := { row := graphemeCutMatchesSpecUptoRow, standIns := [], harness := (true, "7a6a890dcaa337b944cb2134574cf3c747c67999341de8a54311f2027a00a232"), looks := false }, kinds := [], alts := [], laidByText := true, laidKinds := [.data, .data, .data, .pinned], laidTests := true, laidLooks := .later }
def GraphemeCutMatchesSpecUptoCardSaid : Prop := Claim7.holds Tryd.pinned (.plain (OpenSpec.upto graphemeCutMatchesSpecSpec)) graphemeCutMatchesSpecUptoCard

/-- THE SECOND FORM's CARD OF 'posthouselaw1.GraphemeWidthMatchesSpec'. -/
def graphemeWidthMatchesSpecUptoCard : Claim7 := { stood := { row := graphemeWidthMatchesSpecUptoRow, standIns := [], harness := (true, "7a6a890dcaa337b944cb2134574cf3c747c67999341de8a54311f2027a00a232"), looks := false }, kinds := [], alts := [], laidByText := true, laidKinds := [.data, .data, .data, .pinned], laidTests := true, laidLooks := .later }
def GraphemeWidthMatchesSpecUptoCardSaid : Prop := Claim7.holds Tryd.pinned (.plain (OpenSpec.upto graphemeWidthMatchesSpecSpec)) graphemeWidthMatchesSpecUptoCard

/-- THE SECOND FORM's CARD OF 'posthouselaw1.GraphemeCutTwice'. -/
def graphemeCutTwiceUptoCard : Claim7 := { stood := { row := graphemeCutTwiceUptoRow, standIns := [], harness := (true, "7a6a890dcaa337b944cb2134574cf3c747c67999341de8a54311f2027a00a232"), looks := false }, kinds := [], alts := [], laidByText := true, laidKinds := [.data, .data, .data, .pinned], laidTests := true, laidLooks := .later }
def GraphemeCutTwiceUptoCardSaid : Prop := Claim7.holds Tryd.pinned (.plain (OpenSpec.upto graphemeCutTwiceSpec)) graphemeCutTwiceUptoCard
end Rows
end Go.Proofs.YtagnebpehdonaaaDoor
