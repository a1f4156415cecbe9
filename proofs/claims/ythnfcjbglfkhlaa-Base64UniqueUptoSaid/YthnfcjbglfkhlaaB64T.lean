/- base64: the laws, in the form that the rows ask. -/
import Derived.Test.YthnfcjbglfkhlaaRw
import Derived.Test.YthnfcjbglfkhlaaB64L
namespace Go.Proofs.YthnfcjbglfkhlaaSim
open Go Go.Proofs
open Go.Proofs.Try (prog)
set_option linter.unusedVariables false

theorem len1 {x : List Int × Unit} (hb : bulkD (.pair (.slice (.int .u8)) .unit) x ≤ 1048576) : x.1.length ≤ 1048576 := by
  simp only [bulkD] at hb
  exact bulk_bytes (k := .u8) (by simp only [bulkD]; omega)

theorem row1 (a : List Int) (u : Unit) (hw : wfD (.pair (.slice (.int .u8)) .unit) (a, u)) (hb : bulkD (.pair (.slice (.int .u8)) .unit) (a, u) ≤ 1048576) : law1_Base64EncodeMatchesSpec_c (pcL prog cfg) a = some true :=
  law1 a (wf_bytes hw.1) (len1 hb)
theorem row2 (a : List Int) (u : Unit) (hw : wfD (.pair (.slice (.int .u8)) .unit) (a, u)) (hb : bulkD (.pair (.slice (.int .u8)) .unit) (a, u) ≤ 1048576) : law1_Base64LenientMatchesSpec_c (pcL prog cfg) a = some true :=
  law2 a (wf_bytes hw.1) (len1 hb)
theorem row3 (a : List Int) (u : Unit) (hw : wfD (.pair (.slice (.int .u8)) .unit) (a, u)) (hb : bulkD (.pair (.slice (.int .u8)) .unit) (a, u) ≤ 1048576) : law1_Base64RoundTrip_c (pcL prog cfg) a = some true :=
  law3 a (wf_bytes hw.1) (len1 hb)
theorem row4 (a : List Int) (u : Unit) (hw : wfD (.pair (.slice (.int .u8)) .unit) (a, u)) (hb : bulkD (.pair (.slice (.int .u8)) .unit) (a, u) ≤ 1048576) : law1_Base64Unique_c (pcL prog cfg) a = some true :=
  law4 a (wf_bytes hw.1) (len1 hb)
theorem row5 (a : List Int) (b : Int) (u : Unit) (hw : wfD (.pair (.slice (.int .u8)) (.pair (.int .i64) .unit)) (a, b, u)) (hb : bulkD (.pair (.slice (.int .u8)) (.pair (.int .i64) .unit)) (a, b, u) ≤ 1048576) : law1_Base64IgnoresLines_c (pcL prog cfg) a b = some true :=
  law5 a b (wf_bytes hw.1) (by
    simp only [bulkD] at hb
    exact bulk_bytes (k := .u8) (by simp only [bulkD]; omega))

end Go.Proofs.YthnfcjbglfkhlaaSim
