/-
  NARROWER THAN 'FOR EVERY INPUT', by the rows' own cells (each row's printed sentence says how): GraphemeSplitMatchesSpec: laid · GraphemeJoins: laid · GraphemeCutMatchesSpec: laid · GraphemeWidthMatchesSpec: laid · GraphemeCutTwice: laid.
  DERIVED. THE GIVEN ROWS OF THIS SEAT. 5 by the template 'for every input the law returns true; each argument reads behind the call as it read before'; 0 by the template 'total and deterministic' (their statements: YtagnebpehdonaaaDoorTotals.lean).
  GIVEN WITH THE SEED: the statements are not yours to turn. If you find one false, say at which input.
  Laid BY PROGRAM, IN A SANDBOX (cutbox-rows.mjs): the forced cells as the released guide's own fill.sh prints them over the translation 969c6a957ff25192… (all of the seat's roots in one cut). By AI agents, Wed Nov 11 2026. No macro, syntax, notation, axiom, sorry.
-/
import Derived.Test.YtagnebpehdonaaaDoorChecked
import GoSem.PinnedTables
import GoSem.Claim
import GoSem.ClaimJoined
import GoSem.ClaimMapViews
import Derived.JoinedTies
import Derived.KernelRfl
namespace Go.Proofs.YtagnebpehdonaaaDoor
/- THE CELL 'sum', in the pinned program and in every row, IS THE sha256 OF THE DUMP (.gsa) THAT YtagnebpehdonaaaDoorProg.lean LOADS. Nothing in Lean hashes anything: it is a label: what it is worth is what the hold of that sum in a sandbox is worth. -/
noncomputable def Tryd.pinned : Pinned := { name := "ytagnebpehdonaaadoor", sum := "969c6a957ff25192da188e0caf70fa48930e21b447cb153937cd3e62c4ae4307", checked := Tryd.checked }
namespace Rows
def none {H : Type} : Left H := { results := [], args := [] }

/- WHAT THE LISTED PACKAGE-LEVEL VARIABLES READ AS WHEN THE CALL BEGINS. Each datum BY PROGRAM (the guide's laid-datum.mjs) off the statement by which the dump's own 'gosem.cut.vars' lays the variable. In a bare row this is a premise. The card (YtagnebpehdonaaaDoorCards.lean) ties it to the program's text. -/
def laid_unicode_utf8_acceptRanges {H : Type} : DataW H := .agg [.agg [.lit (.int .u8 128), .lit (.int .u8 191)], .agg [.lit (.int .u8 160), .lit (.int .u8 191)], .agg [.lit (.int .u8 128), .lit (.int .u8 159)], .agg [.lit (.int .u8 144), .lit (.int .u8 191)], .agg [.lit (.int .u8 128), .lit (.int .u8 143)], .agg [.lit (.int .u8 0), .lit (.int .u8 0)], .agg [.lit (.int .u8 0), .lit (.int .u8 0)], .agg [.lit (.int .u8 0), .lit (.int .u8 0)], .agg [.lit (.int .u8 0), .lit (.int .u8 0)], .agg [.lit (.int .u8 0), .lit (.int .u8 0)], .agg [.lit (.int .u8 0), .lit (.int .u8 0)], .agg [.lit (.int .u8 0), .lit (.int .u8 0)], .agg [.lit (.int .u8 0), .lit (.int .u8 0)], .agg [.lit (.int .u8 0), .lit (.int .u8 0)], .agg [.lit (.int .u8 0), .lit (.int .u8 0)], .agg [.lit (.int .u8 0), .lit (.int .u8 0)]]
def laid_posthouse_grapheme_spans {H : Type} : DataW H := .agg [.agg [.lit (.int .i32 13), .lit (.int .i32 13), .lit (.int .i64 1)], .agg [.lit (.int .i32 10), .lit (.int .i32 10), .lit (.int .i64 2)], .agg [.lit (.int .i32 0), .lit (.int .i32 31), .lit (.int .i64 3)], .agg [.lit (.int .i32 127), .lit (.int .i32 159), .lit (.int .i64 3)], .agg [.lit (.int .i32 768), .lit (.int .i32 879), .lit (.int .i64 4)], .agg [.lit (.int .i32 6832), .lit (.int .i32 6911), .lit (.int .i64 4)], .agg [.lit (.int .i32 7616), .lit (.int .i32 7679), .lit (.int .i64 4)], .agg [.lit (.int .i32 8400), .lit (.int .i32 8447), .lit (.int .i64 4)], .agg [.lit (.int .i32 65024), .lit (.int .i32 65039), .lit (.int .i64 4)], .agg [.lit (.int .i32 65056), .lit (.int .i32 65071), .lit (.int .i64 4)], .agg [.lit (.int .i32 127995), .lit (.int .i32 127999), .lit (.int .i64 4)], .agg [.lit (.int .i32 8205), .lit (.int .i32 8205), .lit (.int .i64 5)], .agg [.lit (.int .i32 127462), .lit (.int .i32 127487), .lit (.int .i64 6)], .agg [.lit (.int .i32 4352), .lit (.int .i32 4447), .lit (.int .i64 7)], .agg [.lit (.int .i32 4448), .lit (.int .i32 4519), .lit (.int .i64 8)], .agg [.lit (.int .i32 4520), .lit (.int .i32 4607), .lit (.int .i64 9)]]
def laid_posthouse_grapheme_wide {H : Type} : DataW H := .agg [.agg [.lit (.int .i32 4352), .lit (.int .i32 4447), .lit (.int .i64 0)], .agg [.lit (.int .i32 11904), .lit (.int .i32 42191), .lit (.int .i64 0)], .agg [.lit (.int .i32 44032), .lit (.int .i32 55203), .lit (.int .i64 0)], .agg [.lit (.int .i32 63744), .lit (.int .i32 64255), .lit (.int .i64 0)], .agg [.lit (.int .i32 65072), .lit (.int .i32 65135), .lit (.int .i64 0)], .agg [.lit (.int .i32 65280), .lit (.int .i32 65376), .lit (.int .i64 0)], .agg [.lit (.int .i32 65504), .lit (.int .i32 65510), .lit (.int .i64 0)], .agg [.lit (.int .i32 127744), .lit (.int .i32 129791), .lit (.int .i64 0)], .agg [.lit (.int .i32 131072), .lit (.int .i32 262141), .lit (.int .i64 0)]]
/-- One of Go's own tables, pinned by name: the form's constant. -/
def laid_unicode_utf8_first : DataW Unit := Go.Pinned.utf8First

/-- 'posthouselaw1.GraphemeSplitMatchesSpec': WHATEVER THE INPUT: true; the input reads as it did. -/
def graphemeSplitMatchesSpecSpec : ChangeSpec := { name := "graphemeSplitMatchesSpec", fn := fun _ => fun
  | [d] => { results := [.lit (.bool true)], args := [d] }
  | _ => none }
def graphemeSplitMatchesSpecRow : OpenClaim := { program := "ytagnebpehdonaaadoor", sum := "969c6a957ff25192da188e0caf70fa48930e21b447cb153937cd3e62c4ae4307", func := "posthouse/posthouselaw1.GraphemeSplitMatchesSpec", spec := "graphemeSplitMatchesSpec", unfollowed := true, recurses := true, named := ["unicode/utf8.first", "unicode/utf8.acceptRanges", "posthouse/grapheme.spans", "posthouse/grapheme.wide"], apart := false, laid := [("unicode/utf8.acceptRanges", laid_unicode_utf8_acceptRanges), ("posthouse/grapheme.spans", laid_posthouse_grapheme_spans), ("posthouse/grapheme.wide", laid_posthouse_grapheme_wide), ("unicode/utf8.first", laid_unicode_utf8_first)] }
def GraphemeSplitMatchesSpecSaid : Prop := graphemeSplitMatchesSpecRow.holds Tryd.pinned (OpenSpec.ofChange graphemeSplitMatchesSpecSpec)

/-- ITS FALSE NEIGHBOUR: 'it returns false'. Refute it at one input. -/
def graphemeSplitMatchesSpecWrong : ChangeSpec := { name := "graphemeSplitMatchesSpec", fn := fun _ => fun
  | [d] => { results := [.lit (.bool false)], args := [d] }
  | _ => none }
def GraphemeSplitMatchesSpecWrongFalsely : Prop := graphemeSplitMatchesSpecRow.holds Tryd.pinned (OpenSpec.ofChange graphemeSplitMatchesSpecWrong)

/-- 'posthouselaw1.GraphemeJoins': WHATEVER THE INPUT: true; the input reads as it did. -/
def graphemeJoinsSpec : ChangeSpec := { name := "graphemeJoins", fn := fun _ => fun
  | [d] => { results := [.lit (.bool true)], args := [d] }
  | _ => none }
def graphemeJoinsRow : OpenClaim := { program := "ytagnebpehdonaaadoor", sum := "969c6a957ff25192da188e0caf70fa48930e21b447cb153937cd3e62c4ae4307", func := "posthouse/posthouselaw1.GraphemeJoins", spec := "graphemeJoins", unfollowed := true, recurses := true, named := ["unicode/utf8.first", "unicode/utf8.acceptRanges", "posthouse/grapheme.spans", "posthouse/grapheme.wide"], apart := false, laid := [("unicode/utf8.acceptRanges", laid_unicode_utf8_acceptRanges), ("posthouse/grapheme.spans", laid_posthouse_grapheme_spans), ("posthouse/grapheme.wide", laid_posthouse_grapheme_wide), ("unicode/utf8.first", laid_unicode_utf8_first)] }
def GraphemeJoinsSaid : Prop := graphemeJoinsRow.holds Tryd.pinned (OpenSpec.ofChange graphemeJoinsSpec)

/-- ITS FALSE NEIGHBOUR: 'it returns false'. Refute it at one input. -/
def graphemeJoinsWrong : ChangeSpec := { name := "graphemeJoins", fn := fun _ => fun
  | [d] => { results := [.lit (.bool false)], args := [d] }
  | _ => none }
def GraphemeJoinsWrongFalsely : Prop := graphemeJoinsRow.holds Tryd.pinned (OpenSpec.ofChange graphemeJoinsWrong)

/-- 'posthouselaw1.GraphemeCutMatchesSpec': WHATEVER THE INPUT: true; the input reads as it did. -/
def graphemeCutMatchesSpecSpec : ChangeSpec := { name := "graphemeCutMatchesSpec", fn := fun _ => fun
  | [d1, d2] => { results := [.lit (.bool true)], args := [d1, d2] }
  | _ => none }
def graphemeCutMatchesSpecRow : OpenClaim := { program := "ytagnebpehdonaaadoor", sum := "969c6a957ff25192da188e0caf70fa48930e21b447cb153937cd3e62c4ae4307", func := "posthouse/posthouselaw1.GraphemeCutMatchesSpec", spec := "graphemeCutMatchesSpec", unfollowed := true, recurses := true, named := ["unicode/utf8.first", "unicode/utf8.acceptRanges", "posthouse/grapheme.spans", "posthouse/grapheme.wide"], apart := false, laid := [("unicode/utf8.acceptRanges", laid_unicode_utf8_acceptRanges), ("posthouse/grapheme.spans", laid_posthouse_grapheme_spans), ("posthouse/grapheme.wide", laid_posthouse_grapheme_wide), ("unicode/utf8.first", laid_unicode_utf8_first)] }
def GraphemeCutMatchesSpecSaid : Prop := graphemeCutMatchesSpecRow.holds Tryd.pinned (OpenSpec.ofChange graphemeCutMatchesSpecSpec)

/-- ITS FALSE NEIGHBOUR: 'it returns false'. Refute it at one input. -/
def graphemeCutMatchesSpecWrong : ChangeSpec := { name := "graphemeCutMatchesSpec", fn := fun _ => fun
  | [d1, d2] => { results := [.lit (.bool false)], args := [d1, d2] }
  | _ => none }
def GraphemeCutMatchesSpecWrongFalsely : Prop := graphemeCutMatchesSpecRow.holds Tryd.pinned (OpenSpec.ofChange graphemeCutMatchesSpecWrong)

/-- 'posthouselaw1.GraphemeWidthMatchesSpec': WHATEVER THE INPUT: true; the input reads as it did. -/
def graphemeWidthMatchesSpecSpec : ChangeSpec := { name := "graphemeWidthMatchesSpec", fn := fun _ => fun
  | [d] => { results := [.lit (.bool true)], args := [d] }
  | _ => none }
def graphemeWidthMatchesSpecRow : OpenClaim := { program := "ytagnebpehdonaaadoor", sum := "969c6a957ff25192da188e0caf70fa48930e21b447cb153937cd3e62c4ae4307", func := "posthouse/posthouselaw1.GraphemeWidthMatchesSpec", spec := "graphemeWidthMatchesSpec", unfollowed := true, recurses := true, named := ["unicode/utf8.first", "unicode/utf8.acceptRanges", "posthouse/grapheme.spans", "posthouse/grapheme.wide"], apart := false, laid := [("unicode/utf8.acceptRanges", laid_unicode_utf8_acceptRanges), ("posthouse/grapheme.spans", laid_posthouse_grapheme_spans), ("posthouse/grapheme.wide", laid_posthouse_grapheme_wide), ("unicode/utf8.first", laid_unicode_utf8_first)] }
def GraphemeWidthMatchesSpecSaid : Prop := graphemeWidthMatchesSpecRow.holds Tryd.pinned (OpenSpec.ofChange graphemeWidthMatchesSpecSpec)

/-- ITS FALSE NEIGHBOUR: 'it returns false'. Refute it at one input. -/
def graphemeWidthMatchesSpecWrong : ChangeSpec := { name := "graphemeWidthMatchesSpec", fn := fun _ => fun
  | [d] => { results := [.lit (.bool false)], args := [d] }
  | _ => none }
def GraphemeWidthMatchesSpecWrongFalsely : Prop := graphemeWidthMatchesSpecRow.holds Tryd.pinned (OpenSpec.ofChange graphemeWidthMatchesSpecWrong)

/-- 'posthouselaw1.GraphemeCutTwice': WHATEVER THE INPUT: true; the input reads as it did. -/
def graphemeCutTwiceSpec : ChangeSpec := { name := "graphemeCutTwice", fn := fun _ => fun
  | [d1, d2] => { results := [.lit (.bool true)], args := [d1, d2] }
  | _ => none }
def graphemeCutTwiceRow : OpenClaim := { program := "ytagnebpehdonaaadoor", sum := "969c6a957ff25192da188e0caf70fa48930e21b447cb153937cd3e62c4ae4307", func := "posthouse/posthouselaw1.GraphemeCutTwice", spec := "graphemeCutTwice", unfollowed := true, recurses := true, named := ["unicode/utf8.first", "unicode/utf8.acceptRanges", "posthouse/grapheme.spans", "posthouse/grapheme.wide"], apart := false, laid := [("unicode/utf8.acceptRanges", laid_unicode_utf8_acceptRanges), ("posthouse/grapheme.spans", laid_posthouse_grapheme_spans), ("posthouse/grapheme.wide", laid_posthouse_grapheme_wide), ("unicode/utf8.first", laid_unicode_utf8_first)] }
def GraphemeCutTwiceSaid : Prop := graphemeCutTwiceRow.holds Tryd.pinned (OpenSpec.ofChange graphemeCutTwiceSpec)

/-- ITS FALSE NEIGHBOUR: 'it returns false'. Refute it at one input. -/
def graphemeCutTwiceWrong : ChangeSpec := { name := "graphemeCutTwice", fn := fun _ => fun
  | [d1, d2] => { results := [.lit (.bool false)], args := [d1, d2] }
  | _ => none }
def GraphemeCutTwiceWrongFalsely : Prop := graphemeCutTwiceRow.holds Tryd.pinned (OpenSpec.ofChange graphemeCutTwiceWrong)

/- THE SECOND FORM. 'bulk': how many values and letters a reading holds, each counted each time it is reached (what is shared counts as often as it is met; a slice's spare places count too). A statement '..UptoSaid' is the law's where the arguments, and the package variables that the reading takes, are together of bulk at most 1048576: NARROWER than '..Said'. Prove '..Said' where nothing that the law and all that it calls make is longer than what came in: it says more and counts as full. Else prove '..UptoSaid'. A law counts once. -/
mutual
def uptoBulk {H : Type} : DataW H → Nat
  | .lit (.string bytes) => bytes.length + 1
  | .lit _ => 1
  | .nil => 1
  | .ptr d => uptoBulk d + 1
  | .slice elems spare => uptoBulkAll elems + uptoBulkAll spare + 1
  | .agg parts => uptoBulkAll parts + 1
  | .iface _ d => uptoBulk d + 1
  | .map entries => uptoBulkEntries entries + 1
  | .held _ => 1
def uptoBulkAll {H : Type} : List (DataW H) → Nat
  | [] => 0
  | d :: r => uptoBulk d + uptoBulkAll r
def uptoBulkEntries {H : Type} : List (Lit × DataW H) → Nat
  | [] => 0
  | x :: r => uptoBulkEntry x + uptoBulkEntries r
def uptoBulkEntry {H : Type} : Lit × DataW H → Nat
  | (.string bytes, d) => bytes.length + uptoBulk d + 1
  | (_, d) => uptoBulk d + 1
 end
def uptoSmall : (H : Type) → List (DataW H) → Bool := fun _ ds => decide (uptoBulkAll ds ≤ 1048576)
def OpenSpec.upto (s : _root_.Go.ChangeSpec) : _root_.Go.OpenSpec := { _root_.Go.OpenSpec.ofChange s with cond := some uptoSmall }

/-- 'posthouselaw1.GraphemeSplitMatchesSpec', WHERE WHAT IT READS IS OF BULK AT MOST 1048576: true; the input reads as it did. -/
def graphemeSplitMatchesSpecUptoRow : OpenClaim := { program := "ytagnebpehdonaaadoor", sum := "969c6a957ff25192da188e0caf70fa48930e21b447cb153937cd3e62c4ae4307", func := "posthouse/posthouselaw1.GraphemeSplitMatchesSpec", spec := "graphemeSplitMatchesSpec", unfollowed := true, recurses := true, named := ["unicode/utf8.first", "unicode/utf8.acceptRanges", "posthouse/grapheme.spans", "posthouse/grapheme.wide"], apart := false, laid := [("unicode/utf8.acceptRanges", laid_unicode_utf8_acceptRanges), ("posthouse/grapheme.spans", laid_posthouse_grapheme_spans), ("posthouse/grapheme.wide", laid_posthouse_grapheme_wide), ("unicode/utf8.first", laid_unicode_utf8_first)], narrowed := true }
def GraphemeSplitMatchesSpecUptoSaid : Prop := graphemeSplitMatchesSpecUptoRow.holds Tryd.pinned (OpenSpec.upto graphemeSplitMatchesSpecSpec)

/-- 'posthouselaw1.GraphemeJoins', WHERE WHAT IT READS IS OF BULK AT MOST 1048576: true; the input reads as it did. -/
def graphemeJoinsUptoRow : OpenClaim := { program := "ytagnebpehdonaaadoor", sum := "969c6a957ff25192da188e0caf70fa48930e21b447cb153937cd3e62c4ae4307", func := "posthouse/posthouselaw1.GraphemeJoins", spec := "graphemeJoins", unfollowed := true, recurses := true, named := ["unicode/utf8.first", "unicode/utf8.acceptRanges", "posthouse/grapheme.spans", "posthouse/grapheme.wide"], apart := false, laid := [("unicode/utf8.acceptRanges", laid_unicode_utf8_acceptRanges), ("posthouse/grapheme.spans", laid_posthouse_grapheme_spans), ("posthouse/grapheme.wide", laid_posthouse_grapheme_wide), ("unicode/utf8.first", laid_unicode_utf8_first)], narrowed := true }
def GraphemeJoinsUptoSaid : Prop := graphemeJoinsUptoRow.holds Tryd.pinned (OpenSpec.upto graphemeJoinsSpec)

/-- 'posthouselaw1.GraphemeCutMatchesSpec', WHERE WHAT IT READS IS OF BULK AT MOST 1048576: true; the input reads as it did. -/
def graphemeCutMatchesSpecUptoRow : OpenClaim := { program := "ytagnebpehdonaaadoor", sum := "969c6a957ff25192da188e0caf70fa48930e21b447cb153937cd3e62c4ae4307", func := "posthouse/posthouselaw1.GraphemeCutMatchesSpec", spec := "graphemeCutMatchesSpec", unfollowed := true, recurses := true, named := ["unicode/utf8.first", "unicode/utf8.acceptRanges", "posthouse/grapheme.spans", "posthouse/grapheme.wide"], apart := false, laid := [("unicode/utf8.acceptRanges", laid_unicode_utf8_acceptRanges), ("posthouse/grapheme.spans", laid_posthouse_grapheme_spans), ("posthouse/grapheme.wide", laid_posthouse_grapheme_wide), ("unicode/utf8.first", laid_unicode_utf8_first)], narrowed := true }
def GraphemeCutMatchesSpecUptoSaid : Prop := graphemeCutMatchesSpecUptoRow.holds Tryd.pinned (OpenSpec.upto graphemeCutMatchesSpecSpec)

/-- 'posthouselaw1.GraphemeWidthMatchesSpec', WHERE WHAT IT READS IS OF BULK AT MOST 1048576: true; the input reads as it did. -/
def graphemeWidthMatchesSpecUptoRow : OpenClaim := { program := "ytagnebpehdonaaadoor", sum := "969c6a957ff25192da188e0caf70fa48930e21b447cb153937cd3e62c4ae4307", func := "posthouse/posthouselaw1.GraphemeWidthMatchesSpec", spec := "graphemeWidthMatchesSpec", unfollowed := true, recurses := true, named := ["unicode/utf8.first", "unicode/utf8.acceptRanges", "posthouse/grapheme.spans", "posthouse/grapheme.wide"], apart := false, laid := [("unicode/utf8.acceptRanges", laid_unicode_utf8_acceptRanges), ("posthouse/grapheme.spans", laid_posthouse_grapheme_spans), ("posthouse/grapheme.wide", laid_posthouse_grapheme_wide), ("unicode/utf8.first", laid_unicode_utf8_first)], narrowed := true }
def GraphemeWidthMatchesSpecUptoSaid : Prop := graphemeWidthMatchesSpecUptoRow.holds Tryd.pinned (OpenSpec.upto graphemeWidthMatchesSpecSpec)

/-- 'posthouselaw1.GraphemeCutTwice', WHERE WHAT IT READS IS OF BULK AT MOST 1048576: true; the input reads as it did. -/
def graphemeCutTwiceUptoRow : OpenClaim := { program := "ytagnebpehdonaaadoor", sum := "969c6a957ff25192da188e0caf70fa48930e21b447cb153937cd3e62c4ae4307", func := "posthouse/posthouselaw1.GraphemeCutTwice", spec := "graphemeCutTwice", unfollowed := true, recurses := true, named := ["unicode/utf8.first", "unicode/utf8.acceptRanges", "posthouse/grapheme.spans", "posthouse/grapheme.wide"], apart := false, laid := [("unicode/utf8.acceptRanges", laid_unicode_utf8_acceptRanges), ("posthouse/grapheme.spans", laid_posthouse_grapheme_spans), ("posthouse/grapheme.wide", laid_posthouse_grapheme_wide), ("unicode/utf8.first", laid_unicode_utf8_first)], narrowed := true }
def GraphemeCutTwiceUptoSaid : Prop := graphemeCutTwiceUptoRow.holds Tryd.pinned (OpenSpec.upto graphemeCutTwiceSpec)

end Rows
end Go.Proofs.YtagnebpehdonaaaDoor
