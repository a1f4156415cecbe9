/- charset: the laws, in the form that the rows ask. -/
import Derived.Test.YtklllljgdabheaaDoorRw
import Derived.Test.YtklllljgdabheaaDoorChaL
namespace Go.Proofs.YtklllljgdabheaaDoorSim
open Go Go.Proofs
open Go.Proofs.Tryd (prog)
set_option linter.unusedVariables false
set_option linter.unusedSimpArgs false

theorem slen {l : List Int} {n : Nat} (h : bulkD .str l ≤ n) : l.length ≤ n := by
  simp only [bulkD] at h
  omega
theorem blen {l : List Int} {n : Nat} (h : bulkD (.slice (.int .u8)) l ≤ n) : l.length ≤ n := bulk_bytes (k := .u8) h
theorem bpl {a b : Ty} {x : a.den} {y : b.den} {n : Nat} (h : bulkD (.pair a b) (x, y) ≤ n) : bulkD a x ≤ n ∧ bulkD b y ≤ n := by
  simp only [bulkD] at h
  omega

theorem row1 (a : List Int) (b : List Int) (u : Unit) (hw : wfD (.pair .str (.pair (.slice (.int .u8)) .unit)) (a, b, u)) (hb : bulkD (.pair .str (.pair (.slice (.int .u8)) .unit)) (a, b, u) ≤ 1048576) : law1_CharsetDecodeMatchesSpec_c (pcL prog cfg) a b = some true :=
  law1 a b (wf_str hw.1) (slen (bpl hb).1) (wf_bytes hw.2.1) (blen (bpl (bpl hb).2).1)
theorem row2 (a : List Int) (b : List Int) (u : Unit) (hw : wfD (.pair .str (.pair .str .unit)) (a, b, u)) (hb : bulkD (.pair .str (.pair .str .unit)) (a, b, u) ≤ 1048576) : law1_CharsetEncodeMatchesSpec_c (pcL prog cfg) a b = some true :=
  law2 a b (wf_str hw.1) (slen (bpl hb).1) (wf_str hw.2.1) (slen (bpl (bpl hb).2).1)
theorem row3 (a : List Int) (b : List Int) (u : Unit) (hw : wfD (.pair .str (.pair .str .unit)) (a, b, u)) (hb : bulkD (.pair .str (.pair .str .unit)) (a, b, u) ≤ 1048576) : law1_CharsetRoundTrip_c (pcL prog cfg) a b = some true :=
  law3 a b (wf_str hw.1) (slen (bpl hb).1) (wf_str hw.2.1) (slen (bpl (bpl hb).2).1)
theorem row4 (a : List Int) (u : Unit) (hw : wfD (.pair .str .unit) (a, u)) (hb : bulkD (.pair .str .unit) (a, u) ≤ 1048576) : law1_CharsetBestIsLeast_c (pcL prog cfg) a = some true :=
  law4 a (wf_str hw.1) (slen (bpl hb).1)
theorem row5 (a : List Int) (b : List Int) (c : List Int) (u : Unit) (hw : wfD (.pair .str (.pair .str (.pair (.slice (.int .u8)) .unit))) (a, b, c, u)) (hb : bulkD (.pair .str (.pair .str (.pair (.slice (.int .u8)) .unit))) (a, b, c, u) ≤ 1048576) : law1_CharsetDecodesValid_c (pcL prog cfg) a b c = some true :=
  law5 a b c (wf_str hw.1) (slen (bpl hb).1) (wf_str hw.2.1) (slen (bpl (bpl hb).2).1) (wf_bytes hw.2.2.1) (blen (bpl (bpl (bpl hb).2).2).1)

end Go.Proofs.YtklllljgdabheaaDoorSim
