/-
  NARROWER THAN 'FOR EVERY INPUT', by the rows' own cells (each row's printed sentence says how): CharsetDecodeMatchesSpec: laid · CharsetEncodeMatchesSpec: laid · CharsetRoundTrip: laid · CharsetBestIsLeast: laid · CharsetDecodesValid: laid.
  DERIVED. THE GIVEN ROWS OF THIS SEAT. 5 by the template 'for every input the law returns true; each argument reads behind the call as it read before'; 0 by the template 'total and deterministic' (their statements: YtklllljgdabheaaDoorTotals.lean).
  GIVEN WITH THE SEED: the statements are not yours to turn. If you find one false, say at which input.
  Laid BY PROGRAM, IN A SANDBOX (cutbox-rows.mjs): the forced cells as the released guide's own fill.sh prints them over the translation 4dfe24c33f0379e5… (all of the seat's roots in one cut). By AI agents, Wed Nov 11 2026. No macro, syntax, notation, axiom, sorry.
-/
import Derived.Test.YtklllljgdabheaaDoorChecked
import GoSem.PinnedTables
import GoSem.Claim
import GoSem.ClaimJoined
import GoSem.ClaimMapViews
import Derived.JoinedTies
import Derived.KernelRfl
namespace Go.Proofs.YtklllljgdabheaaDoor
/- THE CELL 'sum', in the pinned program and in every row, IS THE sha256 OF THE DUMP (.gsa) THAT YtklllljgdabheaaDoorProg.lean LOADS. Nothing in Lean hashes anything: it is a label: what it is worth is what the hold of that sum in a sandbox is worth. -/
noncomputable def Tryd.pinned : Pinned := { name := "ytklllljgdabheaadoor", sum := "4dfe24c33f0379e53358c33179a2dc25b53464bde3e4a057996c691f02515216", checked := Tryd.checked }
namespace Rows
def none {H : Type} : Left H := { results := [], args := [] }

/- WHAT THE LISTED PACKAGE-LEVEL VARIABLES READ AS WHEN THE CALL BEGINS. Each datum BY PROGRAM (the guide's laid-datum.mjs) off the statement by which the dump's own 'gosem.cut.vars' lays the variable. In a bare row this is a premise. The card (YtklllljgdabheaaDoorCards.lean) ties it to the program's text. -/
def laid_unicode_utf8_acceptRanges {H : Type} : DataW H := .agg [.agg [.lit (.int .u8 128), .lit (.int .u8 191)], .agg [.lit (.int .u8 160), .lit (.int .u8 191)], .agg [.lit (.int .u8 128), .lit (.int .u8 159)], .agg [.lit (.int .u8 144), .lit (.int .u8 191)], .agg [.lit (.int .u8 128), .lit (.int .u8 143)], .agg [.lit (.int .u8 0), .lit (.int .u8 0)], .agg [.lit (.int .u8 0), .lit (.int .u8 0)], .agg [.lit (.int .u8 0), .lit (.int .u8 0)], .agg [.lit (.int .u8 0), .lit (.int .u8 0)], .agg [.lit (.int .u8 0), .lit (.int .u8 0)], .agg [.lit (.int .u8 0), .lit (.int .u8 0)], .agg [.lit (.int .u8 0), .lit (.int .u8 0)], .agg [.lit (.int .u8 0), .lit (.int .u8 0)], .agg [.lit (.int .u8 0), .lit (.int .u8 0)], .agg [.lit (.int .u8 0), .lit (.int .u8 0)], .agg [.lit (.int .u8 0), .lit (.int .u8 0)]]
/-- One of Go's own tables, pinned by name: the form's constant. -/
def laid_unicode_utf8_first : DataW Unit := Go.Pinned.utf8First

/-- 'posthouselaw1.CharsetDecodeMatchesSpec': WHATEVER THE INPUT: true; the input reads as it did. -/
def charsetDecodeMatchesSpecSpec : ChangeSpec := { name := "charsetDecodeMatchesSpec", fn := fun _ => fun
  | [d1, d2] => { results := [.lit (.bool true)], args := [d1, d2] }
  | _ => none }
def charsetDecodeMatchesSpecRow : OpenClaim := { program := "ytklllljgdabheaadoor", sum := "4dfe24c33f0379e53358c33179a2dc25b53464bde3e4a057996c691f02515216", func := "posthouse/posthouselaw1.CharsetDecodeMatchesSpec", spec := "charsetDecodeMatchesSpec", unfollowed := true, recurses := true, named := ["unicode/utf8.first", "unicode/utf8.acceptRanges"], apart := false, laid := [("unicode/utf8.acceptRanges", laid_unicode_utf8_acceptRanges), ("unicode/utf8.first", laid_unicode_utf8_first)] }
def CharsetDecodeMatchesSpecSaid : Prop := charsetDecodeMatchesSpecRow.holds Tryd.pinned (OpenSpec.ofChange charsetDecodeMatchesSpecSpec)

/-- ITS FALSE NEIGHBOUR: 'it returns false'. Refute it at one input. -/
def charsetDecodeMatchesSpecWrong : ChangeSpec := { name := "charsetDecodeMatchesSpec", fn := fun _ => fun
  | [d1, d2] => { results := [.lit (.bool false)], args := [d1, d2] }
  | _ => none }
def CharsetDecodeMatchesSpecWrongFalsely : Prop := charsetDecodeMatchesSpecRow.holds Tryd.pinned (OpenSpec.ofChange charsetDecodeMatchesSpecWrong)

/-- 'posthouselaw1.CharsetEncodeMatchesSpec': WHATEVER THE INPUT: true; the input reads as it did. -/
def charsetEncodeMatchesSpecSpec : ChangeSpec := { name := "charsetEncodeMatchesSpec", fn := fun _ => fun
  | [d1, d2] => { results := [.lit (.bool true)], args := [d1, d2] }
  | _ => none }
def charsetEncodeMatchesSpecRow : OpenClaim := { program := "ytklllljgdabheaadoor", sum := "4dfe24c33f0379e53358c33179a2dc25b53464bde3e4a057996c691f02515216", func := "posthouse/posthouselaw1.CharsetEncodeMatchesSpec", spec := "charsetEncodeMatchesSpec", unfollowed := true, recurses := true, named := ["unicode/utf8.first", "unicode/utf8.acceptRanges"], apart := false, laid := [("unicode/utf8.acceptRanges", laid_unicode_utf8_acceptRanges), ("unicode/utf8.first", laid_unicode_utf8_first)] }
def CharsetEncodeMatchesSpecSaid : Prop := charsetEncodeMatchesSpecRow.holds Tryd.pinned (OpenSpec.ofChange charsetEncodeMatchesSpecSpec)

/-- ITS FALSE NEIGHBOUR: 'it returns false'. Refute it at one input. -/
def charsetEncodeMatchesSpecWrong : ChangeSpec := { name := "charsetEncodeMatchesSpec", fn := fun _ => fun
  | [d1, d2] => { results := [.lit (.bool false)], args := [d1, d2] }
  | _ => none }
def CharsetEncodeMatchesSpecWrongFalsely : Prop := charsetEncodeMatchesSpecRow.holds Tryd.pinned (OpenSpec.ofChange charsetEncodeMatchesSpecWrong)

/-- 'posthouselaw1.CharsetRoundTrip': WHATEVER THE INPUT: true; the input reads as it did. -/
def charsetRoundTripSpec : ChangeSpec := { name := "charsetRoundTrip", fn := fun _ => fun
  | [d1, d2] => { results := [.lit (.bool true)], args := [d1, d2] }
  | _ => none }
def charsetRoundTripRow : OpenClaim := { program := "ytklllljgdabheaadoor", sum := "4dfe24c33f0379e53358c33179a2dc25b53464bde3e4a057996c691f02515216", func := "posthouse/posthouselaw1.CharsetRoundTrip", spec := "charsetRoundTrip", unfollowed := true, recurses := true, named := ["unicode/utf8.first", "unicode/utf8.acceptRanges"], apart := false, laid := [("unicode/utf8.acceptRanges", laid_unicode_utf8_acceptRanges), ("unicode/utf8.first", laid_unicode_utf8_first)] }
def CharsetRoundTripSaid : Prop := charsetRoundTripRow.holds Tryd.pinned (OpenSpec.ofChange charsetRoundTripSpec)

/-- ITS FALSE NEIGHBOUR: 'it returns false'. Refute it at one input. -/
def charsetRoundTripWrong : ChangeSpec := { name := "charsetRoundTrip", fn := fun _ => fun
  | [d1, d2] => { results := [.lit (.bool false)], args := [d1, d2] }
  | _ => none }
def CharsetRoundTripWrongFalsely : Prop := charsetRoundTripRow.holds Tryd.pinned (OpenSpec.ofChange charsetRoundTripWrong)

/-- 'posthouselaw1.CharsetBestIsLeast': WHATEVER THE INPUT: true; the input reads as it did. -/
def charsetBestIsLeastSpec : ChangeSpec := { name := "charsetBestIsLeast", fn := fun _ => fun
  | [d] => { results := [.lit (.bool true)], args := [d] }
  | _ => none }
def charsetBestIsLeastRow : OpenClaim := { program := "ytklllljgdabheaadoor", sum := "4dfe24c33f0379e53358c33179a2dc25b53464bde3e4a057996c691f02515216", func := "posthouse/posthouselaw1.CharsetBestIsLeast", spec := "charsetBestIsLeast", unfollowed := true, recurses := true, named := ["unicode/utf8.first", "unicode/utf8.acceptRanges"], apart := false, laid := [("unicode/utf8.acceptRanges", laid_unicode_utf8_acceptRanges), ("unicode/utf8.first", laid_unicode_utf8_first)] }
def CharsetBestIsLeastSaid : Prop := charsetBestIsLeastRow.holds Tryd.pinned (OpenSpec.ofChange charsetBestIsLeastSpec)

/-- ITS FALSE NEIGHBOUR: 'it returns false'. Refute it at one input. -/
def charsetBestIsLeastWrong : ChangeSpec := { name := "charsetBestIsLeast", fn := fun _ => fun
  | [d] => { results := [.lit (.bool false)], args := [d] }
  | _ => none }
def CharsetBestIsLeastWrongFalsely : Prop := charsetBestIsLeastRow.holds Tryd.pinned (OpenSpec.ofChange charsetBestIsLeastWrong)

/-- 'posthouselaw1.CharsetDecodesValid': WHATEVER THE INPUT: true; the input reads as it did. -/
def charsetDecodesValidSpec : ChangeSpec := { name := "charsetDecodesValid", fn := fun _ => fun
  | [d1, d2, d3] => { results := [.lit (.bool true)], args := [d1, d2, d3] }
  | _ => none }
def charsetDecodesValidRow : OpenClaim := { program := "ytklllljgdabheaadoor", sum := "4dfe24c33f0379e53358c33179a2dc25b53464bde3e4a057996c691f02515216", func := "posthouse/posthouselaw1.CharsetDecodesValid", spec := "charsetDecodesValid", unfollowed := true, recurses := true, named := ["unicode/utf8.first", "unicode/utf8.acceptRanges"], apart := false, laid := [("unicode/utf8.acceptRanges", laid_unicode_utf8_acceptRanges), ("unicode/utf8.first", laid_unicode_utf8_first)] }
def CharsetDecodesValidSaid : Prop := charsetDecodesValidRow.holds Tryd.pinned (OpenSpec.ofChange charsetDecodesValidSpec)

/-- ITS FALSE NEIGHBOUR: 'it returns false'. Refute it at one input. -/
def charsetDecodesValidWrong : ChangeSpec := { name := "charsetDecodesValid", fn := fun _ => fun
  | [d1, d2, d3] => { results := [.lit (.bool false)], args := [d1, d2, d3] }
  | _ => none }
def CharsetDecodesValidWrongFalsely : Prop := charsetDecodesValidRow.holds Tryd.pinned (OpenSpec.ofChange charsetDecodesValidWrong)

/- THE SECOND FORM. 'bulk': how many values and letters a reading holds, each counted each time it is reached (what is shared counts as often as it is met; a slice's spare places count too). A statement '..UptoSaid' is the law's where the arguments, and the package variables that the reading takes, are together of bulk at most 1048576: NARROWER than '..Said'. Prove '..Said' where nothing that the law and all that it calls make is longer than what came in: it says more and counts as full. Else prove '..UptoSaid'. A law counts once. -/
mutual
def uptoBulk {H : Type} : DataW H → Nat
  | .lit (.string bytes) => bytes.length + 1
  | .lit _ => 1
  | .nil => 1
  | .ptr d => uptoBulk d + 1
  | .slice elems spare => uptoBulkAll elems + uptoBulkAll spare + 1
  | .agg parts => uptoBulkAll parts + 1
  | .iface _ d => uptoBulk d + 1
  | .map entries => uptoBulkEntries entries + 1
  | .held _ => 1
def uptoBulkAll {H : Type} : List (DataW H) → Nat
  | [] => 0
  | d :: r => uptoBulk d + uptoBulkAll r
def uptoBulkEntries {H : Type} : List (Lit × DataW H) → Nat
  | [] => 0
  | x :: r => uptoBulkEntry x + uptoBulkEntries r
def uptoBulkEntry {H : Type} : Lit × DataW H → Nat
  | (.string bytes, d) => bytes.length + uptoBulk d + 1
  | (_, d) => uptoBulk d + 1
 end
def uptoSmall : (H : Type) → List (DataW H) → Bool := fun _ ds => decide (uptoBulkAll ds ≤ 1048576)
def OpenSpec.upto (s : _root_.Go.ChangeSpec) : _root_.Go.OpenSpec := { _root_.Go.OpenSpec.ofChange s with cond := some uptoSmall }

/-- 'posthouselaw1.CharsetDecodeMatchesSpec', WHERE WHAT IT READS IS OF BULK AT MOST 1048576: true; the input reads as it did. -/
def charsetDecodeMatchesSpecUptoRow : OpenClaim := { program := "ytklllljgdabheaadoor", sum := "4dfe24c33f0379e53358c33179a2dc25b53464bde3e4a057996c691f02515216", func := "posthouse/posthouselaw1.CharsetDecodeMatchesSpec", spec := "charsetDecodeMatchesSpec", unfollowed := true, recurses := true, named := ["unicode/utf8.first", "unicode/utf8.acceptRanges"], apart := false, laid := [("unicode/utf8.acceptRanges", laid_unicode_utf8_acceptRanges), ("unicode/utf8.first", laid_unicode_utf8_first)], narrowed := true }
def CharsetDecodeMatchesSpecUptoSaid : Prop := charsetDecodeMatchesSpecUptoRow.holds Tryd.pinned (OpenSpec.upto charsetDecodeMatchesSpecSpec)

/-- 'posthouselaw1.CharsetEncodeMatchesSpec', WHERE WHAT IT READS IS OF BULK AT MOST 1048576: true; the input reads as it did. -/
def charsetEncodeMatchesSpecUptoRow : OpenClaim := { program := "ytklllljgdabheaadoor", sum := "4dfe24c33f0379e53358c33179a2dc25b53464bde3e4a057996c691f02515216", func := "posthouse/posthouselaw1.CharsetEncodeMatchesSpec", spec := "charsetEncodeMatchesSpec", unfollowed := true, recurses := true, named := ["unicode/utf8.first", "unicode/utf8.acceptRanges"], apart := false, laid := [("unicode/utf8.acceptRanges", laid_unicode_utf8_acceptRanges), ("unicode/utf8.first", laid_unicode_utf8_first)], narrowed := true }
def CharsetEncodeMatchesSpecUptoSaid : Prop := charsetEncodeMatchesSpecUptoRow.holds Tryd.pinned (OpenSpec.upto charsetEncodeMatchesSpecSpec)

/-- 'posthouselaw1.CharsetRoundTrip', WHERE WHAT IT READS IS OF BULK AT MOST 1048576: true; the input reads as it did. -/
def charsetRoundTripUptoRow : OpenClaim := { program := "ytklllljgdabheaadoor", sum := "4dfe24c33f0379e53358c33179a2dc25b53464bde3e4a057996c691f02515216", func := "posthouse/posthouselaw1.CharsetRoundTrip", spec := "charsetRoundTrip", unfollowed := true, recurses := true, named := ["unicode/utf8.first", "unicode/utf8.acceptRanges"], apart := false, laid := [("unicode/utf8.acceptRanges", laid_unicode_utf8_acceptRanges), ("unicode/utf8.first", laid_unicode_utf8_first)], narrowed := true }
def CharsetRoundTripUptoSaid : Prop := charsetRoundTripUptoRow.holds Tryd.pinned (OpenSpec.upto charsetRoundTripSpec)

/-- 'posthouselaw1.CharsetBestIsLeast', WHERE WHAT IT READS IS OF BULK AT MOST 1048576: true; the input reads as it did. -/
def charsetBestIsLeastUptoRow : OpenClaim := { program := "ytklllljgdabheaadoor", sum := "4dfe24c33f0379e53358c33179a2dc25b53464bde3e4a057996c691f02515216", func := "posthouse/posthouselaw1.CharsetBestIsLeast", spec := "charsetBestIsLeast", unfollowed := true, recurses := true, named := ["unicode/utf8.first", "unicode/utf8.acceptRanges"], apart := false, laid := [("unicode/utf8.acceptRanges", laid_unicode_utf8_acceptRanges), ("unicode/utf8.first", laid_unicode_utf8_first)], narrowed := true }
def CharsetBestIsLeastUptoSaid : Prop := charsetBestIsLeastUptoRow.holds Tryd.pinned (OpenSpec.upto charsetBestIsLeastSpec)

/-- 'posthouselaw1.CharsetDecodesValid', WHERE WHAT IT READS IS OF BULK AT MOST 1048576: true; the input reads as it did. -/
def charsetDecodesValidUptoRow : OpenClaim := { program := "ytklllljgdabheaadoor", sum := "4dfe24c33f0379e53358c33179a2dc25b53464bde3e4a057996c691f02515216", func := "posthouse/posthouselaw1.CharsetDecodesValid", spec := "charsetDecodesValid", unfollowed := true, recurses := true, named := ["unicode/utf8.first", "unicode/utf8.acceptRanges"], apart := false, laid := [("unicode/utf8.acceptRanges", laid_unicode_utf8_acceptRanges), ("unicode/utf8.first", laid_unicode_utf8_first)], narrowed := true }
def CharsetDecodesValidUptoSaid : Prop := charsetDecodesValidUptoRow.holds Tryd.pinned (OpenSpec.upto charsetDecodesValidSpec)

end Rows
end Go.Proofs.YtklllljgdabheaaDoor
