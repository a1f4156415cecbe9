/- fold: the laws in the form that the rows ask. -/
import Derived.Test.YthhllkiefncbnaaDoorRw
import Derived.Test.YthhllkiefncbnaaDoorFolL
namespace Go.Proofs.YthhllkiefncbnaaDoorSim
open Go Go.Proofs
open Go.Proofs.Tryd (prog)
set_option linter.unusedVariables false
set_option linter.unusedSimpArgs false

theorem slen {l : List Int} {n : Nat} (h : bulkD .str l ≤ n) : l.length ≤ n := by
  simp only [bulkD] at h
  omega
theorem bpl {a b : Ty} {x : a.den} {y : b.den} {n : Nat} (h : bulkD (.pair a b) (x, y) ≤ n) : bulkD a x + bulkD b y ≤ n := by
  simp only [bulkD] at h
  omega
theorem two_len {a b : List Int} {u : Unit} {n : Nat} (hb : bulkD (.pair .str (.pair .str .unit)) (a, b, u) ≤ n) : a.length + b.length ≤ n := by
  have h1 := bpl hb
  have h2 := bpl (Nat.le_refl (bulkD (.pair .str .unit) (b, u)))
  have h3 := slen (Nat.le_refl (bulkD .str a))
  have h4 := slen (Nat.le_refl (bulkD .str b))
  omega

theorem row1 (a b : List Int) (u : Unit) (hw : wfD (.pair .str (.pair .str .unit)) (a, b, u)) (hb : bulkD (.pair .str (.pair .str .unit)) (a, b, u) ≤ 1048576) : law1_FoldMatchesSpec_c (pcL prog cfg) a b = some true :=
  flaw1 a b (wf_str hw.1) (wf_str hw.2.1) (by have := two_len hb; omega)
theorem row2 (a b : List Int) (u : Unit) (hw : wfD (.pair .str (.pair .str .unit)) (a, b, u)) (hb : bulkD (.pair .str (.pair .str .unit)) (a, b, u) ≤ 1048576) : law1_FoldRoundTrip_c (pcL prog cfg) a b = some true :=
  flaw2 a b (wf_str hw.1) (wf_str hw.2.1) (by have := two_len hb; omega)
theorem row3 (a b : List Int) (u : Unit) (hw : wfD (.pair .str (.pair .str .unit)) (a, b, u)) (hb : bulkD (.pair .str (.pair .str .unit)) (a, b, u) ≤ 1048576) : law1_FoldShortLines_c (pcL prog cfg) a b = some true :=
  flaw3 a b (wf_str hw.1) (wf_str hw.2.1) (by have := two_len hb; omega)

end Go.Proofs.YthhllkiefncbnaaDoorSim
