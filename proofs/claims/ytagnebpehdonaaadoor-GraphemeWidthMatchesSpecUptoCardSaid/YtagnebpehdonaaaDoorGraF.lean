/- grapheme: the reference's columns; the laws about pieces, columns and the longest beginning. -/
import Derived.Test.YtagnebpehdonaaaDoorGraE
namespace Go.Proofs.YtagnebpehdonaaaDoorSim
open Go Go.Proofs
open Go.Proofs.Tryd (prog)
set_option linter.unusedVariables false
set_option linter.unusedSimpArgs false

theorem isW_neg {n : Int} (h : n < 0) : isW n = false := by
  unfold isW
  simp only [wideP, clsIn]
  rw [if_neg (by omega), if_neg (by omega), if_neg (by omega), if_neg (by omega), if_neg (by omega), if_neg (by omega), if_neg (by omega), if_neg (by omega), if_neg (by omega)]
  rfl

theorem isW_fix (n : Int) : isW (fix n) = isW n := by
  by_cases h : n < 0
  · rw [isW_neg h, show fix n = 65533 from if_pos h]; decide
  · rw [show fix n = n from if_neg h]

theorem wideIn_eq (l : List Int) : wideIn l = (runesL l).any isW := by
  unfold wideIn
  congr 1
  funext n
  exact isW_fix n

theorem Col_L3 (ps : List (List Int)) (n i : Int) (rs : List Int) (hb : rs.length ≤ 4000000) : ∀ (k j : Nat) (wide : Bool), rs.length - j = k → j ≤ rs.length →
    ref1_Columns_L3 (pcL prog cfg) lpL ((ps, n, i, rs, wide, (j : Int), ()), ()) = some ((ps, n, i, (wide || (rs.drop j).any isW), ()), ()) := by
  intro k
  induction k with
  | zero =>
    intro j wide hk hj
    refine ref1_Columns_L3_of ?_
    unfold ref1_Columns_L3_R
    dsimp only
    refine (ifd_f (by simp only [decide_eq_true_eq]; omega)).trans ?_
    rw [List.drop_eq_nil_of_le (by omega)]
    simp
  | succ k ih =>
    intro j wide hk hj
    refine ref1_Columns_L3_of ?_
    unfold ref1_Columns_L3_R
    dsimp only
    have hw : IntKind.wrap .i64 ((j : Int) + 1) = ((j + 1 : Nat) : Int) := by rw [wrap64 (by omega) (by omega)]; omega
    rw [hw, Int.toNat_natCast]
    refine (ifd_t (by simp only [decide_eq_true_eq]; omega)).trans ?_
    rw [drop_getD rs j (by omega), List.any_cons]
    cases wide with
    | true =>
      refine (ifd_t rfl).trans ?_
      refine (ifd_t rfl).trans ?_
      rw [ih (j + 1) true (by omega) (by omega)]
      simp
    | false =>
      refine (ifd_f (by simp)).trans ?_
      refine (ifd_t (by simp only [decide_eq_true_eq]; omega)).trans ?_
      refine bnd2 (rWide_spec _) rfl ?_
      refine (ifd_f (by simp)).trans ?_
      rw [ih (j + 1) _ (by omega) (by omega)]
      simp

theorem Col_loop (ps : List (List Int)) (hne : ∀ p ∈ ps, p ≠ []) (hB : ∀ p ∈ ps, Bytes p) (hl : ∀ p ∈ ps, p.length ≤ 2000000) (hb : ps.length ≤ 2000000) : ∀ (k i : Nat) (n : Int), ps.length - i = k → i ≤ ps.length → 0 ≤ n → n ≤ 2 * i →
    ref1_Columns_L4 (pcL prog cfg) lpL ((ps, n, (i : Int), ()), ()) = some ((n + widths (ps.drop i), ()), ()) := by
  intro k
  induction k with
  | zero =>
    intro i n hk hi hn0 hn
    refine ref1_Columns_L4_of ?_
    unfold ref1_Columns_L4_R
    dsimp only
    refine (ifd_f (by simp only [decide_eq_true_eq]; omega)).trans ?_
    rw [List.drop_eq_nil_of_le (by omega)]
    simp [widths]
  | succ k ih =>
    intro i n hk hi hn0 hn
    refine ref1_Columns_L4_of ?_
    unfold ref1_Columns_L4_R
    dsimp only
    have hw : IntKind.wrap .i64 ((i : Int) + 1) = ((i + 1 : Nat) : Int) := by rw [wrap64 (by omega) (by omega)]; omega
    have hlt : i < ps.length := by omega
    have hm := mem_getD' [] ps i hlt
    refine (ifd_t (by simp only [decide_eq_true_eq]; omega)).trans ?_
    refine (ifd_t (by simp only [decide_eq_true_eq]; omega)).trans ?_
    rw [Int.toNat_natCast, drop_getD' [] ps i hlt]
    have hwd : ∀ p r, widths (p :: r) = wd p + widths r := fun p r => by simp [widths]
    rw [hwd]
    have hne' := hne _ hm
    have hB' := hB _ hm
    have hl' := hl _ hm
    generalize ps.getD i [] = p at hne' hB' hl'
    cases p with
    | nil => exact absurd rfl hne'
    | cons c r =>
      have hle := wd_le (c :: r)
      rw [Runes_spec _ hB' hl', runesL_cons]
      have hwide : wideIn (c :: r) = ((rune1 (c :: r)).1 :: runesL ((c :: r).drop (rune1 (c :: r)).2)).any isW := by rw [wideIn_eq, runesL_cons]
      have hrl := runesL_len (c :: r).length (c :: r) rfl
      rw [runesL_cons] at hrl
      have ewd : wd (c :: r) = if cls (fix (rune1 (c :: r)).1) = 1 ∨ cls (fix (rune1 (c :: r)).1) = 2 ∨ cls (fix (rune1 (c :: r)).1) = 3 ∨ cls (fix (rune1 (c :: r)).1) = 4 ∨ cls (fix (rune1 (c :: r)).1) = 5 then 0 else if cls (fix (rune1 (c :: r)).1) = 6 then 2 else if wideIn (c :: r) then 2 else 1 := rfl
      rw [hwide] at ewd
      have hfix : 0 ≤ (rune1 (c :: r)).1 → fix (rune1 (c :: r)).1 = (rune1 (c :: r)).1 := fun h => if_neg (by omega)
      have hneg : ¬ 0 ≤ (rune1 (c :: r)).1 → cls (fix (rune1 (c :: r)).1) = 0 := fun h => cls_neg (by omega)
      generalize (rune1 (c :: r)).1 = n0 at *
      generalize runesL ((c :: r).drop (rune1 (c :: r)).2) = tl at *
      refine bnd2 rfl rfl ?_
      refine (ifd_t (by simp only [decide_eq_true_eq, List.length_cons]; omega)).trans ?_
      have e0 : (n0 :: tl).getD (Int.toNat 0) 0 = n0 := rfl
      rw [e0]
      refine bnd2 (rClass_spec _) rfl ?_
      have c1 : ref1_Columns_C1 (pcL prog cfg) lpL ((ps, n, (i : Int), n0 :: tl, cls n0, ()), ()) = some ((ps, n, (i : Int), n0 :: tl, cls n0, (decide (0 ≤ n0) && decide (1 ≤ cls n0 ∧ cls n0 ≤ 5)), ()), ()) := by
        unfold ref1_Columns_C1
        dsimp only
        rw [e0]
        refine (ifd_t (by simp only [decide_eq_true_eq, List.length_cons]; omega)).trans ?_
        by_cases h : n0 ≥ 0
        · refine (ifd_t (decide_eq_true h)).trans ?_
          refine bnd2 (In_spec _ _ _) rfl ?_
          refine (ifd_t (decide_eq_true h)).trans ?_
          rw [decide_eq_true (show 0 ≤ n0 from h)]; rfl
        · refine (ifd_f (by simpa using h)).trans ?_
          refine (ifd_f (by simpa using h)).trans ?_
          rw [decide_eq_false (show ¬ 0 ≤ n0 from h)]; rfl
      refine bnd1 c1 ?_
      dsimp only
      rw [hw]
      by_cases hz : 0 ≤ n0 ∧ 1 ≤ cls n0 ∧ cls n0 ≤ 5
      · refine (ifd_t (by simpa using hz)).trans ?_
        rw [ih (i + 1) n (by omega) (by omega) hn0 (by omega), ewd, hfix hz.1, if_pos (by omega), Int.zero_add]
      refine (ifd_f (by simpa using hz)).trans ?_
      have c2 : ref1_Columns_C2 (pcL prog cfg) lpL ((ps, n, (i : Int), n0 :: tl, cls n0, ()), ()) = some ((ps, n, (i : Int), n0 :: tl, (decide (0 ≤ n0) && (cls n0 == 6)), ()), ()) := by
        unfold ref1_Columns_C2
        dsimp only
        rw [e0]
        refine (ifd_t (by simp only [decide_eq_true_eq, List.length_cons]; omega)).trans ?_
        by_cases h : n0 ≥ 0
        · refine (ifd_t (decide_eq_true h)).trans ?_
          refine (ifd_t (decide_eq_true h)).trans ?_
          rw [decide_eq_true (show 0 ≤ n0 from h)]; rfl
        · refine (ifd_f (by simpa using h)).trans ?_
          refine (ifd_f (by simpa using h)).trans ?_
          rw [decide_eq_false (show ¬ 0 ≤ n0 from h)]; rfl
      refine bnd1 c2 ?_
      have c3 := Col_L3 ps n i (n0 :: tl) (by omega) _ 0 (decide (0 ≤ n0) && (cls n0 == 6)) rfl (by omega)
      refine bnd1 c3 ?_
      dsimp only
      rw [List.drop_zero]
      have w1 : IntKind.wrap .i64 (n + 1) = n + 1 := wrap64 (by omega) (by omega)
      have w2 : IntKind.wrap .i64 (n + 1 + 1) = n + 2 := by rw [wrap64 (by omega) (by omega)]; omega
      rw [w1, w2, hw]
      by_cases hz0 : 0 ≤ n0
      · rw [hfix hz0] at ewd
        rw [decide_eq_true hz0, Bool.true_and]
        rw [if_neg (by omega)] at ewd
        by_cases h6 : cls n0 = 6
        · rw [if_pos h6] at ewd
          refine (ifd_t (by simp [h6])).trans ?_
          rw [ih (i + 1) (n + 2) (by omega) (by omega) (by omega) (by omega), ewd]
          congr 3; omega
        · rw [if_neg h6] at ewd
          have e6 : (cls n0 == 6) = false := by simpa using h6
          rw [e6, Bool.false_or]
          cases hwi : (n0 :: tl).any isW with
          | true =>
            rw [hwi, if_pos rfl] at ewd
            refine (ifd_t rfl).trans ?_
            rw [ih (i + 1) (n + 2) (by omega) (by omega) (by omega) (by omega), ewd]
            congr 3; omega
          | false =>
            rw [hwi, if_neg (by simp)] at ewd
            refine (ifd_f (by simp)).trans ?_
            rw [ih (i + 1) (n + 1) (by omega) (by omega) (by omega) (by omega), ewd]
            congr 3; omega
      · rw [decide_eq_false hz0, Bool.false_and, Bool.false_or]
        rw [hneg hz0, if_neg (by omega), if_neg (by omega)] at ewd
        cases hwi : (n0 :: tl).any isW with
        | true =>
          rw [hwi, if_pos rfl] at ewd
          refine (ifd_t rfl).trans ?_
          rw [ih (i + 1) (n + 2) (by omega) (by omega) (by omega) (by omega), ewd]
          congr 3; omega
        | false =>
          rw [hwi, if_neg (by simp)] at ewd
          refine (ifd_f (by simp)).trans ?_
          rw [ih (i + 1) (n + 1) (by omega) (by omega) (by omega) (by omega), ewd]
          congr 3; omega

theorem flat_mem {p : List Int} : ∀ {l : List (List Int)}, p ∈ l → p.length ≤ l.flatten.length ∧ ∀ x ∈ p, x ∈ l.flatten
  | [], h => by cases h
  | q :: l, h => by
    rcases List.mem_cons.1 h with rfl | h
    · exact ⟨by simp, fun x hx => by simp [hx]⟩
    · have := flat_mem h
      refine ⟨by rw [List.flatten_cons, List.length_append]; omega, fun x hx => ?_⟩
      rw [List.flatten_cons, List.mem_append]
      exact .inr (this.2 x hx)

theorem Columns_spec (s : List Int) (hB : Bytes s) (hs : s.length ≤ 2000000) : ref1_Columns_c (pcL prog cfg) s = some (widths (pieces s)) := by
  refine ref1_Columns_of ?_
  unfold ref1_Columns_B
  refine bnd2 (rPieces_spec s hB hs) rfl ?_
  obtain ⟨h1, h2, h3⟩ := pieces_flat s.length s rfl
  have := Col_loop (pieces s) h2 (fun p hp => fun x hx => hB x (by have := (flat_mem hp).2 x hx; rwa [h1] at this)) (fun p hp => by have := (flat_mem hp).1; rw [h1] at this; omega) (by omega) _ 0 0 rfl (by omega) (by omega) (by omega)
  rw [List.drop_zero, Int.zero_add] at this
  exact bnd1 this rfl

theorem law3 (a : List Int) (hB : Bytes a) (ha : a.length ≤ 1048576) : law1_GraphemeSplitMatchesSpec_c (pcL prog cfg) a = some true := by
  refine law1_GraphemeSplitMatchesSpec_of ?_
  unfold law1_GraphemeSplitMatchesSpec_B
  refine bnd2 example_spec rfl ?_
  refine (ifd_t rfl).trans ?_
  refine bnd2 (Split_spec a hB (by omega)) rfl ?_
  refine bnd2 (rPieces_spec a hB (by omega)) rfl ?_
  refine bnd2 (Strings_spec _ _ (by have := (pieces_flat a.length a rfl).2.2; omega)) rfl ?_
  refine (ifd_t rfl).trans ?_
  simp

theorem law4 (a : List Int) (hB : Bytes a) (ha : a.length ≤ 1048576) : law1_GraphemeWidthMatchesSpec_c (pcL prog cfg) a = some true := by
  refine law1_GraphemeWidthMatchesSpec_of ?_
  unfold law1_GraphemeWidthMatchesSpec_B
  refine bnd2 example_spec rfl ?_
  refine (ifd_t rfl).trans ?_
  refine bnd2 (Width_spec a hB (by omega)) rfl ?_
  refine bnd2 (Columns_spec a hB (by omega)) rfl ?_
  refine (ifd_t rfl).trans ?_
  simp

theorem At_spec (c i : Int) : ref1_At_c (pcL prog cfg) c i = some (c, (i, ())) := ref1_At_of rfl

theorem CutL_loop (s : List Int) (hs : s.length ≤ 2000000) (most : Int) (cut : List Int) (ps : List (List Int)) (hf : ps.flatten = s) (hb : ps.length ≤ 2000000) : ∀ (k i : Nat), ps.length - i = k → i ≤ ps.length →
    law1_GraphemeCutMatchesSpec_L3 (pcL prog cfg) lpL ((most, cut, (), ps, (ps.take i).flatten, (i : Int), ()), ((0, 0, ()), ())) = some ((cut, (), s.take (cutLen most (ps.take i).flatten.length (ps.drop i)), ()), ((0, 0, ()), ())) := by
  intro k
  have hpre : ∀ i, s.take (ps.take i).flatten.length = (ps.take i).flatten := fun i => by
    have : s = (ps.take i).flatten ++ (ps.drop i).flatten := by rw [← List.flatten_append, List.take_append_drop, hf]
    conv => lhs; rw [this]
    rw [List.take_left']
    rfl
  have hle : ∀ i, (ps.take i).flatten.length ≤ s.length := fun i => by
    have := congrArg List.length (hpre i)
    rw [List.length_take] at this; omega
  induction k with
  | zero =>
    intro i hk hi
    refine law1_GraphemeCutMatchesSpec_L3_of ?_
    unfold law1_GraphemeCutMatchesSpec_L3_R
    dsimp only
    refine (ifd_f (by simp only [decide_eq_true_eq]; omega)).trans ?_
    refine (ifd_f (by simp only [decide_eq_true_eq]; omega)).trans ?_
    rw [List.drop_eq_nil_of_le (by omega), cutLen, hpre]
  | succ k ih =>
    intro i hk hi
    refine law1_GraphemeCutMatchesSpec_L3_of ?_
    unfold law1_GraphemeCutMatchesSpec_L3_R
    dsimp only
    have hlt : i < ps.length := by omega
    have hw : IntKind.wrap .i64 ((i : Int) + 1) = ((i + 1 : Nat) : Int) := by rw [wrap64 (by omega) (by omega)]; omega
    have htk : (ps.take (i + 1)).flatten = (ps.take i).flatten ++ ps.getD i [] := by
      rw [List.take_add_one, List.flatten_append, List.getD_eq_getElem?_getD, List.getElem?_eq_getElem hlt]
      simp
    have hl1 := hle (i + 1)
    rw [htk, List.length_append] at hl1
    have hw2 : IntKind.wrap .i64 (((ps.take i).flatten.length : Nat) + ((ps.getD i []).length : Nat) : Int) = (((ps.take i).flatten.length + (ps.getD i []).length : Nat) : Int) := by rw [wrap64 (by omega) (by omega)]; omega
    rw [Int.toNat_natCast, hw, hw2, drop_getD' [] ps i hlt, cutLen]
    refine (ifd_t (by simp only [decide_eq_true_eq]; omega)).trans ?_
    refine (ifd_t (by simp only [decide_eq_true_eq]; omega)).trans ?_
    refine (ifd_t (by simp only [decide_eq_true_eq]; omega)).trans ?_
    by_cases hm : (((ps.take i).flatten.length + (ps.getD i []).length : Nat) : Int) ≤ most
    · refine (ifd_t (decide_eq_true hm)).trans ?_
      refine (ifd_t (by simp only [decide_eq_true_eq]; omega)).trans ?_
      refine (ifd_t (by simp only [decide_eq_true_eq]; omega)).trans ?_
      rw [if_neg (by omega), ← htk, ih (i + 1) (by omega) (by omega), htk, List.length_append]
    · refine (ifd_f (by simpa using hm)).trans ?_
      rw [if_pos (by omega), hpre]

theorem law5 (a : List Int) (m : Int) (hB : Bytes a) (ha : a.length ≤ 1048576) : law1_GraphemeCutMatchesSpec_c (pcL prog cfg) a m = some true := by
  refine law1_GraphemeCutMatchesSpec_of ?_
  unfold law1_GraphemeCutMatchesSpec_B
  refine bnd2 example_spec rfl ?_
  refine (ifd_f (by decide)).trans ?_
  refine bnd2 (Cut_spec a m hB (by omega)) rfl ?_
  by_cases h12 : a.length > 12000
  · simp only [if_pos h12]
    refine (ifd_t (by simp only [decide_eq_true_eq]; omega)).trans ?_
    have c1 : law1_GraphemeCutMatchesSpec_C1 (pcL prog cfg) lpL (([], (), ()), ((1, -1, ()), ())) = some ((true, ()), ((1, -1, ()), ())) := by
      unfold law1_GraphemeCutMatchesSpec_C1
      rw [At_spec]
      rfl
    exact bnd1 c1 rfl
  simp only [if_neg h12]
  refine (ifd_f (by simp only [decide_eq_true_eq]; omega)).trans ?_
  by_cases hm : m < 0
  · simp only [if_pos hm]
    refine (ifd_t (decide_eq_true hm)).trans ?_
    have c2 : law1_GraphemeCutMatchesSpec_C2 (pcL prog cfg) lpL (([], (), ()), ((3, -2, ()), ())) = some ((true, ()), ((3, -2, ()), ())) := by
      unfold law1_GraphemeCutMatchesSpec_C2
      rw [At_spec]
      rfl
    exact bnd1 c2 rfl
  simp only [if_neg hm]
  refine (ifd_f (by simpa using hm)).trans ?_
  refine bnd2 (rPieces_spec a hB (by omega)) rfl ?_
  obtain ⟨h1, h2, h3⟩ := pieces_flat a.length a rfl
  have hl := CutL_loop a (by omega) m (a.take (cutLen m 0 (pieces a))) (pieces a) h1 (by omega) _ 0 rfl (by omega)
  rw [List.take_zero, List.drop_zero] at hl
  refine bnd1 hl ?_
  refine (ifd_t rfl).trans ?_
  refine (ifd_t rfl).trans ?_
  simp

end Go.Proofs.YtagnebpehdonaaaDoorSim
