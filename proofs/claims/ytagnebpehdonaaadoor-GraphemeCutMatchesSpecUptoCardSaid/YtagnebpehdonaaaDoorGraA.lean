/- grapheme: classes; what joins. -/
import Derived.Test.YtagnebpehdonaaaDoorUtfS
namespace Go.Proofs.YtagnebpehdonaaaDoorSim
open Go Go.Proofs
open Go.Proofs.Tryd (prog)
set_option linter.unusedVariables false
set_option linter.unusedSimpArgs false

def clsIn (n : Int) : List (Int × (Int × (Int × Unit))) → Option Int
  | [] => none
  | p :: r => if p.1 ≤ n ∧ n ≤ p.2.1 then some p.2.2.1 else clsIn n r

theorem class_L1_spec (n : Int) : ∀ (k i : Nat), i + k = 16 → grapheme_class_L1 (pcL prog cfg) lpL ((n, (13, 13, 1, 10, 10, 2, 0, 31, 3, 127, 159, 3, 768, 879, 4, 6832, 6911, 4, 7616, 7679, 4, 8400, 8447, 4, 65024, 65039, 4, 65056, 65071, 4, 127995, 127999, 4, 8205, 8205, 5, 127462, 127487, 6, 4352, 4447, 7, 4448, 4519, 8, 4520, 4607, 9, ()), (i : Int), ()), ()) =
    some (match clsIn n (spansP.drop i) with
      | some k => Sum.inl ((k, ()), ())
      | none => Sum.inr ((), ())) := by
  intro k
  induction k with
  | zero =>
    intro i hk
    refine grapheme_class_L1_of ?_
    unfold grapheme_class_L1_R
    dsimp only
    refine (ifd_f (by simp only [decide_eq_true_eq]; omega)).trans ?_
    rw [List.drop_eq_nil_of_le (by show 16 ≤ i; omega)]
    rfl
  | succ k ih =>
    intro i hk
    refine grapheme_class_L1_of ?_
    unfold grapheme_class_L1_R
    dsimp only
    rw [show ([(13, (13, (1, ()))), (10, (10, (2, ()))), (0, (31, (3, ()))), (127, (159, (3, ()))), (768, (879, (4, ()))), (6832, (6911, (4, ()))), (7616, (7679, (4, ()))), (8400, (8447, (4, ()))), (65024, (65039, (4, ()))), (65056, (65071, (4, ()))), (127995, (127999, (4, ()))), (8205, (8205, (5, ()))), (127462, (127487, (6, ()))), (4352, (4447, (7, ()))), (4448, (4519, (8, ()))), (4520, (4607, (9, ())))] : List (Int × (Int × (Int × Unit)))) = spansP from rfl, Int.toNat_natCast, wrap64 (by omega) (by omega)]
    refine (ifd_t (by simp only [decide_eq_true_eq]; omega)).trans ?_
    refine (ifd_t (by simp only [decide_eq_true_eq]; omega)).trans ?_
    have hd : spansP.drop i = spansP.getD i (0, (0, (0, ()))) :: spansP.drop (i + 1) := by
      have hl : i < spansP.length := by show i < 16; omega
      rw [List.drop_eq_getElem_cons hl, List.getD_eq_getElem?_getD, List.getElem?_eq_getElem hl]
      rfl
    have ih := ih (i + 1) (by omega)
    rw [Int.natCast_add] at ih
    rw [hd, clsIn]
    generalize spansP.getD i (0, (0, (0, ()))) = p
    by_cases h1 : n ≥ p.1
    · refine (ifd_t (decide_eq_true h1)).trans ?_
      refine (ifd_t (decide_eq_true h1)).trans ?_
      by_cases h2 : n ≤ p.2.1
      · refine (ifd_t (decide_eq_true h2)).trans ?_
        rw [if_pos ⟨h1, h2⟩]
      · refine (ifd_f (by simpa using h2)).trans ?_
        rw [if_neg (fun h => h2 h.2)]
        exact ih
    · refine (ifd_f (by simpa using h1)).trans ?_
      refine (ifd_f (by simpa using h1)).trans ?_
      rw [if_neg (fun h => h1 h.1)]
      exact ih

/-- a character's class -/
def cls (n : Int) : Int := (clsIn n spansP).getD 0

theorem class_spec (n : Int) : grapheme_class_c (pcL prog cfg) n = some (cls n) := by
  refine grapheme_class_of ?_
  unfold grapheme_class_B
  refine bnd1 (class_L1_spec n 16 0 rfl) ?_
  unfold cls
  rw [List.drop_zero]
  cases clsIn n spansP <;> rfl

theorem isWide_L1_spec (n : Int) : ∀ (k i : Nat), i + k = 9 → grapheme_isWide_L1 (pcL prog cfg) lpL ((n, (4352, 4447, 0, 11904, 42191, 0, 44032, 55203, 0, 63744, 64255, 0, 65072, 65135, 0, 65280, 65376, 0, 65504, 65510, 0, 127744, 129791, 0, 131072, 262141, 0, ()), (i : Int), ()), ()) =
    some (match clsIn n (wideP.drop i) with
      | some k => Sum.inl ((true, ()), ())
      | none => Sum.inr ((), ())) := by
  intro k
  induction k with
  | zero =>
    intro i hk
    refine grapheme_isWide_L1_of ?_
    unfold grapheme_isWide_L1_R
    dsimp only
    refine (ifd_f (by simp only [decide_eq_true_eq]; omega)).trans ?_
    rw [List.drop_eq_nil_of_le (by show 9 ≤ i; omega)]
    rfl
  | succ k ih =>
    intro i hk
    refine grapheme_isWide_L1_of ?_
    unfold grapheme_isWide_L1_R
    dsimp only
    rw [show ([(4352, (4447, (0, ()))), (11904, (42191, (0, ()))), (44032, (55203, (0, ()))), (63744, (64255, (0, ()))), (65072, (65135, (0, ()))), (65280, (65376, (0, ()))), (65504, (65510, (0, ()))), (127744, (129791, (0, ()))), (131072, (262141, (0, ())))] : List (Int × (Int × (Int × Unit)))) = wideP from rfl, Int.toNat_natCast, wrap64 (by omega) (by omega)]
    refine (ifd_t (by simp only [decide_eq_true_eq]; omega)).trans ?_
    refine (ifd_t (by simp only [decide_eq_true_eq]; omega)).trans ?_
    have hd : wideP.drop i = wideP.getD i (0, (0, (0, ()))) :: wideP.drop (i + 1) := by
      have hl : i < wideP.length := by show i < 9; omega
      rw [List.drop_eq_getElem_cons hl, List.getD_eq_getElem?_getD, List.getElem?_eq_getElem hl]
      rfl
    have ih := ih (i + 1) (by omega)
    rw [Int.natCast_add] at ih
    rw [hd, clsIn]
    generalize wideP.getD i (0, (0, (0, ()))) = p
    by_cases h1 : n ≥ p.1
    · refine (ifd_t (decide_eq_true h1)).trans ?_
      refine (ifd_t (decide_eq_true h1)).trans ?_
      by_cases h2 : n ≤ p.2.1
      · refine (ifd_t (decide_eq_true h2)).trans ?_
        rw [if_pos ⟨h1, h2⟩]
      · refine (ifd_f (by simpa using h2)).trans ?_
        rw [if_neg (fun h => h2 h.2)]
        exact ih
    · refine (ifd_f (by simpa using h1)).trans ?_
      refine (ifd_f (by simpa using h1)).trans ?_
      rw [if_neg (fun h => h1 h.1)]
      exact ih

def isW (n : Int) : Bool := (clsIn n wideP).isSome

theorem isWide_spec (n : Int) : grapheme_isWide_c (pcL prog cfg) n = some (isW n) := by
  refine grapheme_isWide_of ?_
  unfold grapheme_isWide_B
  refine bnd1 (isWide_L1_spec n 9 0 rfl) ?_
  unfold isW
  rw [List.drop_zero]
  cases clsIn n wideP <;> rfl

/-- does a character of a class go on with the piece? -/
def joinsV (last : Int) (inv : Bool) (flags next : Int) : Bool :=
  if inv then false else if last = 1 then next == 2
  else if last = 2 ∨ last = 3 ∨ next = 1 ∨ next = 2 ∨ next = 3 then false
  else if next = 4 ∨ next = 5 then true else if last = 5 then next == 0
  else if next = 6 then last == 6 && Int.tmod flags 2 == 1
  else if last = 7 then next == 7 || next == 8 else if last = 8 then next == 8 || next == 9 else last == 9 && next == 9

theorem joins_spec (last : Int) (inv : Bool) (flags next : Int) : grapheme_state_joins_c (pcL prog cfg) last inv flags next = some (joinsV last inv flags next) := by
  refine grapheme_state_joins_of ?_
  unfold grapheme_state_joins_B joinsV
  cases inv with
  | true => rfl
  | false =>
    refine (ifd_f (by simp)).trans ?_
    rw [if_neg (by simp)]
    by_cases h1 : last = 1
    · rw [if_pos h1]
      exact ifd_t (by simpa using h1)
    rw [if_neg h1]
    refine (ifd_f (by simpa using h1)).trans ?_
    have c1 : grapheme_state_joins_C1 (pcL prog cfg) lpL ((next, (), ()), ((last, false, flags, ()), ())) = some ((next, (), decide (last = 2 ∨ last = 3 ∨ next = 1 ∨ next = 2 ∨ next = 3), ()), ((last, false, flags, ()), ())) := by
      unfold grapheme_state_joins_C1
      dsimp only
      by_cases q1 : last = 2
      · refine (ifd_t (by simpa using q1)).trans ?_
        refine (ifd_t (by simpa using q1)).trans ?_
        simp [q1]
      refine (ifd_f (by simpa using q1)).trans ?_
      refine (ifd_f (by simpa using q1)).trans ?_
      by_cases q2 : last = 3
      · refine (ifd_t (by simpa using q2)).trans ?_
        refine (ifd_t (by simpa using q2)).trans ?_
        simp [q2]
      refine (ifd_f (by simpa using q2)).trans ?_
      refine (ifd_f (by simpa using q2)).trans ?_
      by_cases q3 : next = 1
      · refine (ifd_t (by simpa using q3)).trans ?_
        refine (ifd_t (by simpa using q3)).trans ?_
        simp [q3]
      refine (ifd_f (by simpa using q3)).trans ?_
      refine (ifd_f (by simpa using q3)).trans ?_
      by_cases q4 : next = 2
      · refine (ifd_t (by simpa using q4)).trans ?_
        refine (ifd_t (by simpa using q4)).trans ?_
        simp [q4]
      refine (ifd_f (by simpa using q4)).trans ?_
      refine (ifd_f (by simpa using q4)).trans ?_
      have : (next == 3) = decide (last = 2 ∨ last = 3 ∨ next = 1 ∨ next = 2 ∨ next = 3) := by
        rw [Bool.eq_iff_iff, beq_iff_eq, decide_eq_true_eq]
        simp [q1, q2, q3, q4]
      rw [this]
    refine bnd1 c1 ?_
    dsimp only
    by_cases h2 : last = 2 ∨ last = 3 ∨ next = 1 ∨ next = 2 ∨ next = 3
    · rw [if_pos h2]
      exact ifd_t (decide_eq_true h2)
    rw [if_neg h2]
    refine (ifd_f (by simpa using h2)).trans ?_
    have c2 : grapheme_state_joins_C2 (pcL prog cfg) lpL ((next, (), ()), ((last, false, flags, ()), ())) = some ((next, (), decide (next = 4 ∨ next = 5), ()), ((last, false, flags, ()), ())) := by
      unfold grapheme_state_joins_C2
      dsimp only
      by_cases q1 : next = 4
      · refine (ifd_t (by simpa using q1)).trans ?_
        refine (ifd_t (by simpa using q1)).trans ?_
        simp [q1]
      refine (ifd_f (by simpa using q1)).trans ?_
      refine (ifd_f (by simpa using q1)).trans ?_
      have : (next == 5) = decide (next = 4 ∨ next = 5) := by
        rw [Bool.eq_iff_iff, beq_iff_eq, decide_eq_true_eq]
        simp [q1]
      rw [this]
    refine bnd1 c2 ?_
    dsimp only
    by_cases h3 : next = 4 ∨ next = 5
    · rw [if_pos h3]
      exact ifd_t (decide_eq_true h3)
    rw [if_neg h3]
    refine (ifd_f (by simpa using h3)).trans ?_
    by_cases h4 : last = 5
    · rw [if_pos h4]
      exact ifd_t (by simpa using h4)
    rw [if_neg h4]
    refine (ifd_f (by simpa using h4)).trans ?_
    by_cases h5 : next = 6
    · rw [if_pos h5]
      refine (ifd_t (by simpa using h5)).trans ?_
      by_cases h6 : last = 6
      · refine (ifd_t (by simpa using h6)).trans ?_
        refine (ifd_t (by simpa using h6)).trans ?_
        rw [h6]
        rfl
      · refine (ifd_f (by simpa using h6)).trans ?_
        refine (ifd_f (by simpa using h6)).trans ?_
        rw [beq_eq_false_iff_ne.2 h6]
        rfl
    rw [if_neg h5]
    refine (ifd_f (by simpa using h5)).trans ?_
    by_cases h7 : last = 7
    · rw [if_pos h7]
      refine (ifd_t (by simpa using h7)).trans ?_
      by_cases q : next = 7
      · refine (ifd_t (by simpa using q)).trans ?_
        refine (ifd_t (by simpa using q)).trans ?_
        rw [q]
        rfl
      · refine (ifd_f (by simpa using q)).trans ?_
        refine (ifd_f (by simpa using q)).trans ?_
        rw [beq_eq_false_iff_ne.2 q]
        rfl
    rw [if_neg h7]
    refine (ifd_f (by simpa using h7)).trans ?_
    by_cases h8 : last = 8
    · rw [if_pos h8]
      refine (ifd_t (by simpa using h8)).trans ?_
      by_cases q : next = 8
      · refine (ifd_t (by simpa using q)).trans ?_
        refine (ifd_t (by simpa using q)).trans ?_
        rw [q]
        rfl
      · refine (ifd_f (by simpa using q)).trans ?_
        refine (ifd_f (by simpa using q)).trans ?_
        rw [beq_eq_false_iff_ne.2 q]
        rfl
    rw [if_neg h8]
    refine (ifd_f (by simpa using h8)).trans ?_
    by_cases h9 : last = 9
    · refine (ifd_t (by simpa using h9)).trans ?_
      refine (ifd_t (by simpa using h9)).trans ?_
      rw [h9]
      rfl
    · refine (ifd_f (by simpa using h9)).trans ?_
      refine (ifd_f (by simpa using h9)).trans ?_
      rw [beq_eq_false_iff_ne.2 h9]
      rfl

end Go.Proofs.YtagnebpehdonaaaDoorSim
