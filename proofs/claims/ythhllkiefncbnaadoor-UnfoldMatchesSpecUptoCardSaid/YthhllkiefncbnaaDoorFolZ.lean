/- fold: the law about unfolding in the form that its row asks. -/
import Derived.Test.YthhllkiefncbnaaDoorFolQ
import Derived.Test.YthhllkiefncbnaaDoorFolM
namespace Go.Proofs.YthhllkiefncbnaaDoorSim
open Go Go.Proofs
open Go.Proofs.Tryd (prog)
set_option linter.unusedVariables false
set_option linter.unusedSimpArgs false

theorem strs_bytes {l : List (List Int)} (h : wfD (.slice .str) l) : Bytes l.flatten := fun x hx => by
  obtain ⟨y, hy, hxy⟩ := List.mem_flatten.1 hx
  exact wf_str (h y hy) x hxy
theorem strs_len : ∀ {l : List (List Int)} {n : Nat}, bulkD (.slice .str) l ≤ n → l.length + l.flatten.length ≤ n := fun {l} {n} h => by
  have key : ∀ l : List (List Int), l.length + l.flatten.length ≤ (l.map (bulkD .str)).sum := by
    intro l
    induction l with
    | nil => simp
    | cons a l ih =>
      have := slen (Nat.le_refl (bulkD .str a))
      have h1 : 1 + a.length ≤ bulkD .str a := by simp only [bulkD]; omega
      simp only [List.length_cons, List.flatten_cons, List.length_append, List.map_cons, List.sum_cons]
      omega
  have h' : (l.map (bulkD .str)).sum + 1 ≤ n := h
  have := key l
  omega
theorem row4 (a : List (List Int)) (u : Unit) (hw : wfD (.pair (.slice .str) .unit) (a, u)) (hb : bulkD (.pair (.slice .str) .unit) (a, u) ≤ 1048576) : law1_UnfoldMatchesSpec_c (pcL prog cfg) a = some true :=
  flaw4 a (strs_bytes hw.1) (by have := strs_len (Nat.le_trans (Nat.le_add_right _ _) (bpl hb)); omega) (by have := strs_len (Nat.le_trans (Nat.le_add_right _ _) (bpl hb)); omega)

end Go.Proofs.YthhllkiefncbnaaDoorSim
