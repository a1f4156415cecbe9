/- quoted: the laws, in the form that the rows ask. -/
import Derived.Test.YtldlfkgbfaneaaaDoorRw
import Derived.Test.YtldlfkgbfaneaaaDoorQuoL
namespace Go.Proofs.YtldlfkgbfaneaaaDoorSim
open Go Go.Proofs
open Go.Proofs.Tryd (prog)
set_option linter.unusedVariables false

theorem len1 {x : List Int × Unit} (hb : bulkD (.pair (.slice (.int .u8)) .unit) x ≤ 1048576) : x.1.length ≤ 1048576 := by
  simp only [bulkD] at hb
  exact bulk_bytes (k := .u8) (by simp only [bulkD]; omega)

theorem row1 (a : List Int) (u : Unit) (hw : wfD (.pair (.slice (.int .u8)) .unit) (a, u)) (hb : bulkD (.pair (.slice (.int .u8)) .unit) (a, u) ≤ 1048576) : law1_QuotedEncodeMatchesSpec_c (pcL prog cfg) a = some true :=
  law1 a (wf_bytes hw.1) (len1 hb)
theorem row2 (a : List Int) (u : Unit) (hw : wfD (.pair (.slice (.int .u8)) .unit) (a, u)) (hb : bulkD (.pair (.slice (.int .u8)) .unit) (a, u) ≤ 1048576) : law1_QuotedLenientMatchesSpec_c (pcL prog cfg) a = some true :=
  law2 a (wf_bytes hw.1) (len1 hb)
theorem row3 (a : List Int) (u : Unit) (hw : wfD (.pair (.slice (.int .u8)) .unit) (a, u)) (hb : bulkD (.pair (.slice (.int .u8)) .unit) (a, u) ≤ 1048576) : law1_QuotedRoundTrip_c (pcL prog cfg) a = some true :=
  law3 a (wf_bytes hw.1) (len1 hb)
theorem row4 (a : List Int) (u : Unit) (hw : wfD (.pair (.slice (.int .u8)) .unit) (a, u)) (hb : bulkD (.pair (.slice (.int .u8)) .unit) (a, u) ≤ 1048576) : law1_QuotedUnique_c (pcL prog cfg) a = some true :=
  law4 a (wf_bytes hw.1) (len1 hb)
theorem row5 (a : List Int) (u : Unit) (hw : wfD (.pair (.slice (.int .u8)) .unit) (a, u)) (hb : bulkD (.pair (.slice (.int .u8)) .unit) (a, u) ≤ 1048576) : law1_QuotedLines_c (pcL prog cfg) a = some true :=
  law5 a (wf_bytes hw.1) (len1 hb)

end Go.Proofs.YtldlfkgbfaneaaaDoorSim
