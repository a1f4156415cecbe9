/- grapheme: three more laws, in the form that the rows ask. -/
import Derived.Test.YtagnebpehdonaaaDoorRw
import Derived.Test.YtagnebpehdonaaaDoorGraF
namespace Go.Proofs.YtagnebpehdonaaaDoorSim
open Go Go.Proofs
open Go.Proofs.Tryd (prog)
set_option linter.unusedVariables false
set_option linter.unusedSimpArgs false

theorem slen {l : List Int} {n : Nat} (h : bulkD .str l ≤ n) : l.length ≤ n := by
  simp only [bulkD] at h
  omega
theorem bpl {a b : Ty} {x : a.den} {y : b.den} {n : Nat} (h : bulkD (.pair a b) (x, y) ≤ n) : bulkD a x ≤ n ∧ bulkD b y ≤ n := by
  simp only [bulkD] at h
  omega

theorem row3 (a : List Int) (u : Unit) (hw : wfD (.pair .str .unit) (a, u)) (hb : bulkD (.pair .str .unit) (a, u) ≤ 1048576) : law1_GraphemeSplitMatchesSpec_c (pcL prog cfg) a = some true :=
  law3 a (wf_str hw.1) (slen (bpl hb).1)
theorem row4 (a : List Int) (u : Unit) (hw : wfD (.pair .str .unit) (a, u)) (hb : bulkD (.pair .str .unit) (a, u) ≤ 1048576) : law1_GraphemeWidthMatchesSpec_c (pcL prog cfg) a = some true :=
  law4 a (wf_str hw.1) (slen (bpl hb).1)
theorem row5 (a : List Int) (b : Int) (u : Unit) (hw : wfD (.pair .str (.pair (.int .i64) .unit)) (a, b, u)) (hb : bulkD (.pair .str (.pair (.int .i64) .unit)) (a, b, u) ≤ 1048576) : law1_GraphemeCutMatchesSpec_c (pcL prog cfg) a b = some true :=
  law5 a b (wf_str hw.1) (slen (bpl hb).1)

end Go.Proofs.YtagnebpehdonaaaDoorSim
