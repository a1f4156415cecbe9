/- grapheme: the laws that name no reference. -/
import Derived.Test.YtagnebpehdonaaaDoorGraC
namespace Go.Proofs.YtagnebpehdonaaaDoorSim
open Go Go.Proofs
open Go.Proofs.Tryd (prog)
set_option linter.unusedVariables false
set_option linter.unusedSimpArgs false

theorem drop_getD' {α : Type} (d : α) : ∀ (l : List α) (i : Nat), i < l.length → l.drop i = l.getD i d :: l.drop (i + 1)
  | [], i, h => absurd h (by simp)
  | a :: l, 0, h => rfl
  | a :: l, i + 1, h => drop_getD' d l i (by simpa using h)
theorem mem_getD' {α : Type} (d : α) : ∀ (l : List α) (i : Nat), i < l.length → l.getD i d ∈ l
  | [], i, h => absurd h (by simp)
  | a :: l, 0, h => List.mem_cons_self
  | a :: l, i + 1, h => List.mem_cons_of_mem _ (mem_getD' d l i (by simpa using h))
theorem pieceLen_cons (c : Int) (r : List Int) : pieceLen (c :: r) = (rune1 (c :: r)).2 + ext (upd gs0 (rune1 (c :: r)).1) ((c :: r).drop (rune1 (c :: r)).2) := rfl

theorem Strings_loop (a b : List (List Int)) (hl : a.length = b.length) (hb : a.length ≤ 4000000000) : ∀ (k i : Nat), i + k = a.length →
    ref1_Strings_L1 (pcL prog cfg) lpL ((a, b, (i : Int), ()), ()) = some (if a.drop i = b.drop i then Sum.inr ((), ()) else Sum.inl ((false, ()), ())) := by
  intro k
  induction k with
  | zero =>
    intro i hi
    refine ref1_Strings_L1_of ?_
    unfold ref1_Strings_L1_R
    refine (ifd_f (by simp only [decide_eq_true_eq]; omega)).trans ?_
    rw [List.drop_eq_nil_of_le (by omega), List.drop_eq_nil_of_le (by omega), if_pos rfl]
  | succ k ih =>
    intro i hi
    refine ref1_Strings_L1_of ?_
    unfold ref1_Strings_L1_R
    refine (ifd_t (by simp only [decide_eq_true_eq]; omega)).trans ?_
    refine (ifd_t (by simp only [decide_eq_true_eq]; omega)).trans ?_
    refine (ifd_t (by simp only [decide_eq_true_eq]; omega)).trans ?_
    simp only [Int.toNat_natCast]
    have ha : a.drop i = a.getD i [] :: a.drop (i + 1) := drop_getD' _ _ _ (by omega)
    have hb' : b.drop i = b.getD i [] :: b.drop (i + 1) := drop_getD' _ _ _ (by omega)
    rw [ha, hb']
    by_cases h : a.getD i [] = b.getD i []
    · refine (ifd_f (by rw [h]; simp)).trans ?_
      rw [show IntKind.wrap .i64 ((i : Int) + 1) = ((i + 1 : Nat) : Int) by rw [wrap64 (by omega) (by omega)]; omega, ih (i + 1) (by omega), h]
      simp only [List.cons.injEq, true_and]
    · refine (ifd_t (by simpa using h)).trans ?_
      rw [if_neg (by simp only [List.cons.injEq]; intro hh; exact h hh.1)]

theorem Strings_spec (a b : List (List Int)) (hb : a.length ≤ 4000000000) : ref1_Strings_c (pcL prog cfg) a b = some (a == b) := by
  refine ref1_Strings_of ?_
  unfold ref1_Strings_B
  by_cases hl : a.length = b.length
  · refine (ifd_f (by simp [hl])).trans ?_
    refine bnd1 (Strings_loop a b hl hb a.length 0 (by omega)) ?_
    rw [List.drop_zero, List.drop_zero]
    by_cases h : a = b
    · rw [if_pos h, h]; simp
    · rw [if_neg h]; simp [h]
  · refine (ifd_t (by simp; omega)).trans ?_
    have : a ≠ b := fun h => hl (by rw [h])
    simp [this]

theorem ex_p1 : pieces [101, 204, 129, 120] = [[101, 204, 129], [120]] := by
  have e3 : ext (upd (upd gs0 (rune1 [101, 204, 129, 120]).1) (rune1 [204, 129, 120]).1) [120] = 0 := by
    rw [ext_cons, if_pos (by decide)]
  have e2 : ext (upd gs0 (rune1 [101, 204, 129, 120]).1) [204, 129, 120] = 2 := by
    rw [ext_cons, if_neg (by decide), show (rune1 [204, 129, 120]).2 = 2 by decide]
    simp only [List.drop_succ_cons, List.drop_zero]
    rw [e3]
  have e1 : pieceLen [101, 204, 129, 120] = 3 := by
    rw [pieceLen_cons, show (rune1 [101, 204, 129, 120]).2 = 1 by decide]
    simp only [List.drop_succ_cons, List.drop_zero]
    rw [e2]
  have f1 : pieceLen [120] = 1 := by
    rw [pieceLen_cons, show (rune1 [120]).2 = 1 by decide]
    simp only [List.drop_succ_cons, List.drop_zero]
    rw [ext_nil]
  rw [pieces_cons, e1]
  simp only [List.drop_succ_cons, List.drop_zero, List.take_succ_cons, List.take_zero]
  rw [pieces_cons, f1]
  simp only [List.drop_succ_cons, List.drop_zero, List.take_succ_cons, List.take_zero]
  rw [pieces_nil]

theorem ex_w : widths (pieces [97, 98]) = 2 := by
  have e2 : ext (upd gs0 (rune1 [97, 98]).1) [98] = 0 := by
    rw [ext_cons, if_pos (by decide)]
  have e1 : pieceLen [97, 98] = 1 := by
    rw [pieceLen_cons, show (rune1 [97, 98]).2 = 1 by decide]
    simp only [List.drop_succ_cons, List.drop_zero]
    rw [e2]
  have f1 : pieceLen [98] = 1 := by
    rw [pieceLen_cons, show (rune1 [98]).2 = 1 by decide]
    simp only [List.drop_succ_cons, List.drop_zero]
    rw [ext_nil]
  rw [pieces_cons, e1]
  simp only [List.drop_succ_cons, List.drop_zero, List.take_succ_cons, List.take_zero]
  rw [pieces_cons, f1]
  simp only [List.drop_succ_cons, List.drop_zero, List.take_succ_cons, List.take_zero]
  rw [pieces_nil]
  have w (c : Int) (h : rune1 [c] = (c, 1)) (h0 : cls (fix c) = 0) (hi : isW (fix c) = false) : wd [c] = 1 := by
    have hr : runesL [c] = [c] := by
      rw [runesL, h]
      simp only [List.drop_succ_cons, List.drop_zero]
      rw [runesL]
    have hw : wideIn [c] = false := by
      unfold wideIn
      rw [hr]
      simp [hi]
    unfold wd
    simp only [h, h0, hw]
    decide
  unfold widths
  simp only [List.map_cons, List.map_nil]
  rw [w 97 (by decide) (by decide) (by decide), w 98 (by decide) (by decide) (by decide)]
  decide

theorem example_spec : law1_graphemeExample_c (pcL prog cfg) = some true := by
  refine law1_graphemeExample_of ?_
  unfold law1_graphemeExample_B
  have hB : Bytes [101, 204, 129, 120] := by unfold Bytes; decide
  have hB2 : Bytes [97, 98] := by unfold Bytes; decide
  refine bnd2 (Split_spec _ hB (by decide)) rfl ?_
  refine bnd2 (Cut_spec _ 2 hB (by decide)) rfl ?_
  rw [ex_p1]
  have hc : cutLen 2 0 [[101, 204, 129], [120]] = 0 := by decide
  rw [hc]
  refine (ifd_t (by decide)).trans ?_
  refine (ifd_t (by decide)).trans ?_
  refine (ifd_t (by decide)).trans ?_
  refine (ifd_t (by decide)).trans ?_
  refine (ifd_t (by decide)).trans ?_
  refine (ifd_t (by decide)).trans ?_
  refine (ifd_t (by decide)).trans ?_
  refine (ifd_t (by decide)).trans ?_
  refine bnd2 (Width_spec _ hB2 (by decide)) rfl ?_
  rw [ex_w]
  exact ifd_t (by decide)

theorem Joins_loop (a : List Int) (l : List (List Int)) (hne : ∀ p ∈ l, p ≠ []) (hf : l.flatten = a) (ha : a.length ≤ 2000000) (hl : l.length ≤ 2000000) : ∀ (k i : Nat) (out : List Int), i + k = l.length → out ++ (l.drop i).flatten = a →
    law1_GraphemeJoins_L1 (pcL prog cfg) lpL ((a, l, out, (i : Int), ()), ()) = some (Sum.inr ((a, a, ()), ())) := by
  intro k
  induction k with
  | zero =>
    intro i out hi ho
    refine law1_GraphemeJoins_L1_of ?_
    unfold law1_GraphemeJoins_L1_R
    refine (ifd_f (by simp only [decide_eq_true_eq]; omega)).trans ?_
    rw [List.drop_eq_nil_of_le (by omega)] at ho
    simp only [List.flatten_nil, List.append_nil] at ho
    rw [ho]
  | succ k ih =>
    intro i out hi ho
    refine law1_GraphemeJoins_L1_of ?_
    unfold law1_GraphemeJoins_L1_R
    have hd : l.drop i = l.getD i [] :: l.drop (i + 1) := drop_getD' _ _ _ (by omega)
    have hm : l.getD i [] ∈ l := mem_getD' _ _ _ (by omega)
    have hn := hne _ hm
    rw [hd, List.flatten_cons, ← List.append_assoc] at ho
    have hlen : (out ++ l.getD i [] ++ (l.drop (i + 1)).flatten).length = a.length := by rw [ho]
    simp only [List.length_append] at hlen
    refine (ifd_t (by simp only [decide_eq_true_eq]; omega)).trans ?_
    refine (ifd_t (by simp only [decide_eq_true_eq]; omega)).trans ?_
    simp only [Int.toNat_natCast]
    refine (ifd_f (by simpa using hn)).trans ?_
    refine (ifd_t (by simp only [decide_eq_true_eq]; omega)).trans ?_
    refine (ifd_t (by simp only [decide_eq_true_eq]; omega)).trans ?_
    rw [show IntKind.wrap .i64 ((i : Int) + 1) = ((i + 1 : Nat) : Int) by rw [wrap64 (by omega) (by omega)]; omega]
    exact ih (i + 1) _ (by omega) ho

theorem law1 (a : List Int) (hB : Bytes a) (ha : a.length ≤ 1048576) : law1_GraphemeJoins_c (pcL prog cfg) a = some true := by
  refine law1_GraphemeJoins_of ?_
  unfold law1_GraphemeJoins_B
  refine bnd2 example_spec rfl ?_
  refine (ifd_f (by decide)).trans ?_
  refine bnd2 (Split_spec a hB (by omega)) rfl ?_
  have hp := pieces_flat a.length a rfl
  refine bnd1 (Joins_loop a (pieces a) hp.2.1 hp.1 (by omega) (by omega) (pieces a).length 0 [] (by omega) (by rw [List.drop_zero]; exact hp.1)) ?_
  simp

theorem widths_app (p q : List (List Int)) : widths (p ++ q) = widths p + widths q := by
  unfold widths
  rw [List.map_append, List.sum_append]

theorem law2 (a : List Int) (m : Int) (hB : Bytes a) (ha : a.length ≤ 1048576) : law1_GraphemeCutTwice_c (pcL prog cfg) a m = some true := by
  refine law1_GraphemeCutTwice_of ?_
  unfold law1_GraphemeCutTwice_B
  refine bnd2 example_spec rfl ?_
  refine (ifd_f (by decide)).trans ?_
  refine bnd2 (Cut_spec a m hB (by omega)) rfl ?_
  by_cases h12 : a.length > 12000
  · simp only [if_pos h12]
    exact ifd_t (by decide)
  by_cases hm : m < 0
  · simp only [if_neg h12, if_pos hm]
    exact ifd_t (by decide)
  simp only [if_neg h12, if_neg hm]
  refine (ifd_f (by decide)).trans ?_
  obtain ⟨k, hk⟩ := cutLen_take m (pieces a) 0
  rw [Nat.zero_add] at hk
  rw [hk]
  have hp := pieces_take k a
  have hlen : lenOf k a = ((pieces a).take k).flatten.length := rfl
  rw [← hlen]
  obtain ⟨p1, p2, p3, p4⟩ := hp
  have hC : law1_GraphemeCutTwice_C1 (pcL prog cfg) lpL ((a, a.take (lenOf k a), ()), ((0, 0, ()), ())) = some ((a, a.take (lenOf k a), false, ()), ((0, 0, ()), ())) := by
    unfold law1_GraphemeCutTwice_C1
    have hl : (a.take (lenOf k a)).length = lenOf k a := by rw [List.length_take]; omega
    simp only [hl]
    refine (ifd_f (by simp only [decide_eq_true_eq]; omega)).trans ?_
    refine (ifd_t (by simp only [decide_eq_true_eq]; omega)).trans ?_
    refine (ifd_f (by simp only [decide_eq_true_eq]; omega)).trans ?_
    rw [take_eq]
    simp
  refine bnd1 hC ?_
  have hl : (a.take (lenOf k a)).length = lenOf k a := by rw [List.length_take]; omega
  refine (ifd_f (by simp)).trans ?_
  simp only [hl, tail_eq]
  refine (ifd_t (by simp only [decide_eq_true_eq]; omega)).trans ?_
  refine bnd2 (Split_spec _ (hB.take _) (by omega)) rfl ?_
  rw [p1]
  have hf := (pieces_flat a.length a rfl).2.2
  have h1 : ((pieces a).take k).length ≤ (pieces a).length := by rw [List.length_take]; omega
  have h2 : ((pieces a).drop k).length ≤ (pieces a).length := by rw [List.length_drop]; omega
  refine (ifd_t (by simp only [decide_eq_true_eq, List.length_nil]; omega)).trans ?_
  refine bnd2 (Split_spec _ (hB.drop _) (by rw [List.length_drop]; omega)) rfl ?_
  rw [p2]
  refine (ifd_t (by simp only [decide_eq_true_eq, List.nil_append]; omega)).trans ?_
  refine bnd2 (Split_spec _ hB (by omega)) rfl ?_
  rw [List.nil_append, List.take_append_drop]
  refine bnd2 (Strings_spec _ _ (by omega)) rfl ?_
  refine (ifd_t (by simp)).trans ?_
  refine bnd2 (Width_spec _ (hB.take _) (by omega)) rfl ?_
  refine bnd2 (Width_spec _ (hB.drop _) (by rw [List.length_drop]; omega)) rfl ?_
  refine bnd2 (Width_spec _ hB (by omega)) rfl ?_
  rw [p1, p2]
  refine (ifd_t (by simp)).trans ?_
  have hw := sumI_le (pieces a)
  have hs : widths ((pieces a).take k) + widths ((pieces a).drop k) = widths (pieces a) := by rw [← widths_app, List.take_append_drop]
  rw [hs, wrap64 (by omega) (by omega)]
  simp

end Go.Proofs.YtagnebpehdonaaaDoorSim
