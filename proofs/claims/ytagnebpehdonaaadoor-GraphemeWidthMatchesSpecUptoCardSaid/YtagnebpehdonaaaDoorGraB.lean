/- grapheme: the loops over pieces. -/
import Derived.Test.YtagnebpehdonaaaDoorGraP
namespace Go.Proofs.YtagnebpehdonaaaDoorSim
open Go Go.Proofs
open Go.Proofs.Tryd (prog)
set_option linter.unusedVariables false
set_option linter.unusedSimpArgs false

theorem seg_eq (s : List Int) (a b : Nat) : List.drop (Int.toNat (a : Int)) (List.take (Int.toNat (b : Int)) s) = (s.drop a).take (b - a) := by
  rw [Int.toNat_natCast, Int.toNat_natCast, List.drop_take]

theorem tail_eq (s : List Int) (a : Nat) : List.drop (Int.toNat (a : Int)) (List.take (Int.toNat ((s.length : Nat) : Int)) s) = s.drop a := by
  rw [Int.toNat_natCast, Int.toNat_natCast, List.take_length]

/-! ### the width of a piece -/
def wideIn (l : List Int) : Bool := (runesL l).any fun n => isW (fix n)
def wd : List Int → Int
  | [] => 0
  | c :: r =>
    let k := cls (fix (rune1 (c :: r)).1)
    if k = 1 ∨ k = 2 ∨ k = 3 ∨ k = 4 ∨ k = 5 then 0 else if k = 6 then 2 else if wideIn (c :: r) then 2 else 1

theorem wd_le (l : List Int) : 0 ≤ wd l ∧ wd l ≤ 2 := by
  unfold wd
  split
  · omega
  · dsimp only
    repeat' split
    all_goals omega

theorem decFix (l : List Int) (i : Nat) (hB : Bytes l) (h : i < l.length) : ((decRune l i).1 : Int) = fix (rune1 (l.drop i)).1 ∧ (decRune l i).2 = (rune1 (l.drop i)).2 := by
  rw [decRune_spec l i hB h]
  refine ⟨?_, rfl⟩
  unfold fix
  dsimp only
  split <;> omega

theorem width_L2_spec (s : List Int) (hB : Bytes s) : ∀ (k i : Nat), s.length - i = k →
    ∃ p, grapheme_width_L2 (pcL prog cfg) lpL (((), ()), ((s, i), ())) = some (if wideIn (s.drop i) then Sum.inl ((2, ()), ((s, p), ())) else Sum.inr ((), ((s, p), ()))) := by
  intro k
  induction k using Nat.strongRecOn with
  | _ k ih =>
    intro i hk
    by_cases hi : i < s.length
    · have hd := drop_getD s i hi
      have hsz := rune1_size (s.getD i 0) (s.drop (i + 1))
      have hv : wideIn (s.drop i) = (isW (fix (rune1 (s.drop i)).1) || wideIn ((s.drop i).drop (rune1 (s.drop i)).2)) := by
        rw [hd]
        unfold wideIn
        rw [runesL_cons, List.any_cons]
      rw [← hd] at hsz
      obtain ⟨d1, d2⟩ := decFix s i hB hi
      cases hw : isW (fix (rune1 (s.drop i)).1) with
      | true =>
        refine ⟨i + (rune1 (s.drop i)).2, ?_⟩
        refine grapheme_width_L2_of ?_
        unfold grapheme_width_L2_R
        dsimp only
        refine (ifd_t hi).trans ?_
        rw [d1, d2]
        refine bnd2 (isWide_spec _) rfl ?_
        rw [hv, hw]
        exact ifd_t rfl
      | false =>
        obtain ⟨p, hp⟩ := ih (s.length - (i + (rune1 (s.drop i)).2)) (by omega) (i + (rune1 (s.drop i)).2) rfl
        refine ⟨p, ?_⟩
        refine grapheme_width_L2_of ?_
        unfold grapheme_width_L2_R
        dsimp only
        refine (ifd_t hi).trans ?_
        rw [d1, d2]
        refine bnd2 (isWide_spec _) rfl ?_
        rw [hv, hw, Bool.false_or, List.drop_drop]
        exact (ifd_f (by simp)).trans hp
    · refine ⟨i, ?_⟩
      refine grapheme_width_L2_of ?_
      unfold grapheme_width_L2_R
      dsimp only
      refine (ifd_f hi).trans ?_
      have : wideIn (s.drop i) = false := by
        rw [List.drop_eq_nil_of_le (by omega)]
        unfold wideIn
        rw [runesL]
        rfl
      rw [this]
      rfl

theorem width_spec (l : List Int) (hB : Bytes l) (hl : l.length ≤ 4000000) (hne : l ≠ []) : grapheme_width_c (pcL prog cfg) l = some (wd l) := by
  cases l with
  | nil => exact absurd rfl hne
  | cons c r =>
    refine grapheme_width_of ?_
    unfold grapheme_width_B
    refine bnd2 (DecodeRune_spec c r hB (by simp at hl; omega)) rfl ?_
    refine bnd2 (class_spec _) rfl ?_
    show _ = some (if cls (fix (rune1 (c :: r)).1) = 1 ∨ cls (fix (rune1 (c :: r)).1) = 2 ∨ cls (fix (rune1 (c :: r)).1) = 3 ∨ cls (fix (rune1 (c :: r)).1) = 4 ∨ cls (fix (rune1 (c :: r)).1) = 5 then (0 : Int) else if cls (fix (rune1 (c :: r)).1) = 6 then 2 else if wideIn (c :: r) then 2 else 1)
    generalize cls (fix (rune1 (c :: r)).1) = k
    refine bnd1 (v := ((c :: r, k, decide (k = 1 ∨ k = 2 ∨ k = 3 ∨ k = 4 ∨ k = 5), ()), ())) ?_ ?_
    · unfold grapheme_width_C1
      dsimp only
      by_cases q1 : k = 1
      · refine (ifd_t (by simpa using q1)).trans ?_
        simp [q1]
      refine (ifd_f (by simpa using q1)).trans ?_
      by_cases q2 : k = 2
      · refine (ifd_t (by simpa using q2)).trans ?_
        simp [q2]
      refine (ifd_f (by simpa using q2)).trans ?_
      by_cases q3 : k = 3
      · refine (ifd_t (by simpa using q3)).trans ?_
        simp [q3]
      refine (ifd_f (by simpa using q3)).trans ?_
      by_cases q4 : k = 4
      · refine (ifd_t (by simpa using q4)).trans ?_
        simp [q4]
      refine (ifd_f (by simpa using q4)).trans ?_
      have : (k == 5) = decide (k = 1 ∨ k = 2 ∨ k = 3 ∨ k = 4 ∨ k = 5) := by
        rw [Bool.eq_iff_iff, beq_iff_eq, decide_eq_true_eq]
        simp [q1, q2, q3, q4]
      rw [this]
    · dsimp only
      by_cases h : k = 1 ∨ k = 2 ∨ k = 3 ∨ k = 4 ∨ k = 5
      · rw [if_pos h]
        exact ifd_t (decide_eq_true h)
      rw [if_neg h]
      refine (ifd_f (by simpa using h)).trans ?_
      by_cases h6 : k = 6
      · rw [if_pos h6]
        exact ifd_t (by simpa using h6)
      rw [if_neg h6]
      refine (ifd_f (by simpa using h6)).trans ?_
      obtain ⟨p, hp⟩ := width_L2_spec (c :: r) hB _ 0 rfl
      rw [List.drop_zero] at hp
      refine bnd1 hp ?_
      cases wideIn (c :: r) <;> rfl

def widths (l : List (List Int)) : Int := (l.map wd).sum

theorem sumI_le : ∀ l : List (List Int), 0 ≤ widths l ∧ widths l ≤ 2 * l.length
  | [] => by simp [widths]
  | p :: l => by
    have := sumI_le l
    have := wd_le p
    unfold widths at *
    simp only [List.map_cons, List.sum_cons, List.length_cons]
    omega

theorem Split_Ca (s : List Int) (acc : List (List Int)) (l : Int) (v : Bool) (f : Int) (start i r size : Int) :
    grapheme_Split_C4 (pcL prog cfg) lpL (((), (), start, (), i, r, size, ()), ((acc, ()), (s, ()), ((), ()), (l, v, f, ()), ())) = some (((), (), start, (), i, r, size, (r == 65533 && size == 1), ()), ((acc, ()), (s, ()), ((), ()), (l, v, f, ()), ())) := by
  unfold grapheme_Split_C4
  dsimp only
  by_cases h : r = 65533
  · refine (ifd_t (by simpa using h)).trans ?_
    refine (ifd_t (by simpa using h)).trans ?_
    rw [h]
    rfl
  · refine (ifd_f (by simpa using h)).trans ?_
    refine (ifd_f (by simpa using h)).trans ?_
    rw [beq_eq_false_iff_ne.2 h]
    rfl

theorem Split_Cb (s : List Int) (acc : List (List Int)) (l : Int) (v : Bool) (f : Int) (start i size c : Int) (inv : Bool) :
    grapheme_Split_C5 (pcL prog cfg) lpL (((), (), start, (), i, size, inv, c, ()), ((acc, ()), (s, ()), ((), ()), (l, v, f, ()), ())) = some (((), (), start, (), i, size, inv, c, (decide (i > start) && (inv || !joinsV l v f c)), ()), ((acc, ()), (s, ()), ((), ()), (l, v, f, ()), ())) := by
  unfold grapheme_Split_C5
  dsimp only
  by_cases h : i > start
  · refine (ifd_t (decide_eq_true h)).trans ?_
    rw [decide_eq_true h, Bool.true_and]
    cases inv with
    | true =>
      refine (ifd_t rfl).trans ?_
      refine (ifd_t (by simp)).trans ?_
      refine (ifd_t rfl).trans ?_
      refine (ifd_t (by simp)).trans ?_
      rfl
    | false =>
      refine (ifd_f (by simp)).trans ?_
      refine bnd2 (joins_spec _ _ _ _) rfl ?_
      refine (ifd_t (by simp)).trans ?_
      refine (ifd_f (by simp)).trans ?_
      refine (ifd_t (by simp)).trans ?_
      rfl
  · refine (ifd_f (by simpa using h)).trans ?_
    refine (ifd_f (by simpa using h)).trans ?_
    refine (ifd_f (by simpa using h)).trans ?_
    rw [decide_eq_false h, Bool.false_and]

theorem Width_Ca (s : List Int) (acc : Int) (l : Int) (v : Bool) (f : Int) (start i r size : Int) :
    grapheme_Width_C1 (pcL prog cfg) lpL (((), (), start, (), i, r, size, ()), ((acc, ()), (s, ()), ((), ()), (l, v, f, ()), ())) = some (((), (), start, (), i, r, size, (r == 65533 && size == 1), ()), ((acc, ()), (s, ()), ((), ()), (l, v, f, ()), ())) := by
  unfold grapheme_Width_C1
  dsimp only
  by_cases h : r = 65533
  · refine (ifd_t (by simpa using h)).trans ?_
    refine (ifd_t (by simpa using h)).trans ?_
    rw [h]
    rfl
  · refine (ifd_f (by simpa using h)).trans ?_
    refine (ifd_f (by simpa using h)).trans ?_
    rw [beq_eq_false_iff_ne.2 h]
    rfl

theorem Width_Cb (s : List Int) (acc : Int) (l : Int) (v : Bool) (f : Int) (start i size c : Int) (inv : Bool) :
    grapheme_Width_C2 (pcL prog cfg) lpL (((), (), start, (), i, size, inv, c, ()), ((acc, ()), (s, ()), ((), ()), (l, v, f, ()), ())) = some (((), (), start, (), i, size, inv, c, (decide (i > start) && (inv || !joinsV l v f c)), ()), ((acc, ()), (s, ()), ((), ()), (l, v, f, ()), ())) := by
  unfold grapheme_Width_C2
  dsimp only
  by_cases h : i > start
  · refine (ifd_t (decide_eq_true h)).trans ?_
    rw [decide_eq_true h, Bool.true_and]
    cases inv with
    | true =>
      refine (ifd_t rfl).trans ?_
      refine (ifd_t (by simp)).trans ?_
      refine (ifd_t rfl).trans ?_
      refine (ifd_t (by simp)).trans ?_
      rfl
    | false =>
      refine (ifd_f (by simp)).trans ?_
      refine bnd2 (joins_spec _ _ _ _) rfl ?_
      refine (ifd_t (by simp)).trans ?_
      refine (ifd_f (by simp)).trans ?_
      refine (ifd_t (by simp)).trans ?_
      rfl
  · refine (ifd_f (by simpa using h)).trans ?_
    refine (ifd_f (by simpa using h)).trans ?_
    refine (ifd_f (by simpa using h)).trans ?_
    rw [decide_eq_false h, Bool.false_and]

theorem Cut_Ca (s : List Int) (most : Int) (acc : Int) (l : Int) (v : Bool) (f : Int) (start i r size : Int) :
    grapheme_Cut_C1 (pcL prog cfg) lpL (((), (), start, (), i, r, size, ()), ((most, ()), (0, 0, ()), (acc, ()), (s, ()), ((), (), ()), (l, v, f, ()), ())) = some (((), (), start, (), i, r, size, (r == 65533 && size == 1), ()), ((most, ()), (0, 0, ()), (acc, ()), (s, ()), ((), (), ()), (l, v, f, ()), ())) := by
  unfold grapheme_Cut_C1
  dsimp only
  by_cases h : r = 65533
  · refine (ifd_t (by simpa using h)).trans ?_
    refine (ifd_t (by simpa using h)).trans ?_
    rw [h]
    rfl
  · refine (ifd_f (by simpa using h)).trans ?_
    refine (ifd_f (by simpa using h)).trans ?_
    rw [beq_eq_false_iff_ne.2 h]
    rfl

theorem Cut_Cb (s : List Int) (most : Int) (acc : Int) (l : Int) (v : Bool) (f : Int) (start i size c : Int) (inv : Bool) :
    grapheme_Cut_C2 (pcL prog cfg) lpL (((), (), start, (), i, size, inv, c, ()), ((most, ()), (0, 0, ()), (acc, ()), (s, ()), ((), (), ()), (l, v, f, ()), ())) = some (((), (), start, (), i, size, inv, c, (decide (i > start) && (inv || !joinsV l v f c)), ()), ((most, ()), (0, 0, ()), (acc, ()), (s, ()), ((), (), ()), (l, v, f, ()), ())) := by
  unfold grapheme_Cut_C2
  dsimp only
  by_cases h : i > start
  · refine (ifd_t (decide_eq_true h)).trans ?_
    rw [decide_eq_true h, Bool.true_and]
    cases inv with
    | true =>
      refine (ifd_t rfl).trans ?_
      refine (ifd_t (by simp)).trans ?_
      refine (ifd_t rfl).trans ?_
      refine (ifd_t (by simp)).trans ?_
      rfl
    | false =>
      refine (ifd_f (by simp)).trans ?_
      refine bnd2 (joins_spec _ _ _ _) rfl ?_
      refine (ifd_t (by simp)).trans ?_
      refine (ifd_f (by simp)).trans ?_
      refine (ifd_t (by simp)).trans ?_
      rfl
  · refine (ifd_f (by simpa using h)).trans ?_
    refine (ifd_f (by simpa using h)).trans ?_
    refine (ifd_f (by simpa using h)).trans ?_
    rw [decide_eq_false h, Bool.false_and]

theorem Split_Cc (s : List Int) (hB : Bytes s) (hs : s.length ≤ 2000000) (acc : List (List Int)) (l : Int) (v : Bool) (f : Int) (start i : Nat) (size c : Int) (inv : Bool) (h1 : start ≤ i) (h2 : i ≤ s.length) (hacc : acc.length ≤ i) :
    grapheme_Split_C6 (pcL prog cfg) lpL (((), (), (start : Int), (), (i : Int), size, inv, c, ()), ((acc, ()), (s, ()), ((), ()), (l, v, f, ()), ())) =
      some (if (decide (i > start) && (inv || !joinsV l v f c)) = true then (((), (), (i : Int), (), (i : Int), size, inv, c, ()), ((acc ++ [(s.drop start).take (i - start)], ()), (s, ()), ((), ()), (0, false, 0, ()), ())) else (((), (), (start : Int), (), (i : Int), size, inv, c, ()), ((acc, ()), (s, ()), ((), ()), (l, v, f, ()), ()))) := by
  unfold grapheme_Split_C6
  dsimp only
  refine bnd1 (Split_Cb s acc l v f start i size c inv) ?_
  dsimp only
  have hd : decide ((i : Int) > (start : Int)) = decide (i > start) := by rw [decide_eq_decide]; omega
  rw [hd]
  by_cases h : (decide (i > start) && (inv || !joinsV l v f c)) = true
  · rw [if_pos h]
    refine (ifd_t h).trans ?_
    refine (ifd_t (by simp only [decide_eq_true_eq]; omega)).trans ?_
    rw [seg_eq]
    refine (ifd_t (by simp only [decide_eq_true_eq, List.length_cons, List.length_nil]; omega)).trans ?_
    rfl
  · rw [if_neg h]
    exact ifd_f h

theorem Split_loop (s : List Int) (hB : Bytes s) (hs : s.length ≤ 2000000) : ∀ (k i start : Nat) (st : GS) (acc : List (List Int)), s.length - i = k → start ≤ i → i ≤ s.length → (i = start → st = gs0) → 0 ≤ st.2.2 → st.2.2 ≤ i → acc.length ≤ i →
    ∃ (start' : Nat) (st' : GS) (acc' : List (List Int)), start' ≤ s.length ∧ acc'.length ≤ s.length ∧ grapheme_Split_L7 (pcL prog cfg) lpL (((), (), (start : Int), (), (i : Int), ()), ((acc, ()), (s, ()), ((), ()), (st.1, st.2.1, st.2.2, ()), ())) = some (((), (), (start' : Int), ()), ((acc', ()), (s, ()), ((), ()), (st'.1, st'.2.1, st'.2.2, ()), ())) ∧
      acc' ++ (if start' < s.length then [s.drop start'] else []) = acc ++ rest s start i st := by
  intro k
  induction k using Nat.strongRecOn with
  | _ k ih =>
    intro i start st acc hk h1 h2 hst hf0 hf1 hacc
    by_cases hi : i < s.length
    · have hd := drop_getD s i hi
      have hsz := rune1_size (s.getD i 0) (s.drop (i + 1))
      have hinv := inv_eq (s.getD i 0) (s.drop (i + 1)) (hB.getD i).1
      have hBd : Bytes (s.getD i 0 :: s.drop (i + 1)) := by rw [← hd]; exact hB.drop i
      have hdr := DecodeRune_spec (s.getD i 0) (s.drop (i + 1)) hBd (by rw [List.length_drop]; omega)
      rw [← hd] at hsz hinv hdr
      rw [List.length_drop] at hsz
      -- one round, as it goes on
      have round : ∀ (start' : Nat) (st1 : GS) (acc1 : List (List Int)), start' ≤ i → 0 ≤ st1.2.2 → st1.2.2 ≤ i → True →
          (some (if (decide (i > start) && (decide ((rune1 (s.drop i)).1 < 0) || !joinsV st.1 st.2.1 st.2.2 (cls (fix (rune1 (s.drop i)).1)))) = true then (((), (), (i : Int), (), (i : Int), (((rune1 (s.drop i)).2 : Nat) : Int), decide ((rune1 (s.drop i)).1 < 0), cls (fix (rune1 (s.drop i)).1), ()), ((acc ++ [(s.drop start).take (i - start)], ()), (s, ()), ((), ()), (0, false, 0, ()), ())) else (((), (), (start : Int), (), (i : Int), (((rune1 (s.drop i)).2 : Nat) : Int), decide ((rune1 (s.drop i)).1 < 0), cls (fix (rune1 (s.drop i)).1), ()), ((acc, ()), (s, ()), ((), ()), (st.1, st.2.1, st.2.2, ()), ())))
            = some (((), (), (start' : Int), (), (i : Int), (((rune1 (s.drop i)).2 : Nat) : Int), decide ((rune1 (s.drop i)).1 < 0), cls (fix (rune1 (s.drop i)).1), ()), ((acc1, ()), (s, ()), ((), ()), (st1.1, st1.2.1, st1.2.2, ()), ()))) →
          ∀ x, grapheme_Split_L7 (pcL prog cfg) lpL (((), (), (start' : Int), (), ((i + (rune1 (s.drop i)).2 : Nat) : Int), ()), ((acc1, ()), (s, ()), ((), ()), ((upd st1 (rune1 (s.drop i)).1).1, (upd st1 (rune1 (s.drop i)).1).2.1, (upd st1 (rune1 (s.drop i)).1).2.2, ()), ())) = some x →
          grapheme_Split_L7 (pcL prog cfg) lpL (((), (), (start : Int), (), (i : Int), ()), ((acc, ()), (s, ()), ((), ()), (st.1, st.2.1, st.2.2, ()), ())) = some x := by
        intro start' st1 acc1 g1 g2 g3 g4 he x hx
        refine grapheme_Split_L7_of ?_
        unfold grapheme_Split_L7_R
        dsimp only
        refine (ifd_t (by simp only [decide_eq_true_eq]; omega)).trans ?_
        refine (ifd_t (by simp only [decide_eq_true_eq]; omega)).trans ?_
        rw [tail_eq]
        refine bnd2 hdr rfl ?_
        refine bnd1 (Split_Ca s acc _ _ _ _ _ _ _) ?_
        dsimp only
        refine bnd2 (class_spec _) rfl ?_
        rw [hinv]
        refine bnd1 ((Split_Cc s hB hs acc _ _ _ start i _ _ _ h1 (by omega) hacc).trans he) ?_
        dsimp only
        rw [wrap64 (x := (i : Int) + (((rune1 (s.drop i)).2 : Nat) : Int)) (by omega) (by omega)]
        rw [Int.natCast_add] at hx
        unfold upd at hx
        by_cases h6 : cls (fix (rune1 (s.drop i)).1) = 6
        · refine (ifd_t (by rw [h6]; rfl)).trans ?_
          rw [wrap64 (by omega) (by omega)]
          simp only [h6, if_true] at hx ⊢
          exact hx
        · refine (ifd_f (by simpa using h6)).trans ?_
          simp only [h6, if_false] at hx ⊢
          exact hx
      have fl : ∀ st1 : GS, 0 ≤ st1.2.2 → st1.2.2 ≤ i → 0 ≤ (upd st1 (rune1 (s.drop i)).1).2.2 ∧ (upd st1 (rune1 (s.drop i)).1).2.2 ≤ ((i + (rune1 (s.drop i)).2 : Nat) : Int) := fun st1 g1 g2 => by
        unfold upd
        dsimp only
        split <;> omega
      by_cases hcase : i > start
      · by_cases hstop : stops st (rune1 (s.drop i)).1 = true
        · have hcond : (decide (i > start) && (decide ((rune1 (s.drop i)).1 < 0) || !joinsV st.1 st.2.1 st.2.2 (cls (fix (rune1 (s.drop i)).1)))) = true := by
            rw [decide_eq_true hcase, Bool.true_and]; exact hstop
          have hf := fl gs0 (by simp [gs0]) (by simp [gs0])
          obtain ⟨a, b, c', r1, r2, r3, r4⟩ := ih (s.length - (i + (rune1 (s.drop i)).2)) (by omega) (i + (rune1 (s.drop i)).2) i (upd gs0 (rune1 (s.drop i)).1) (acc ++ [(s.drop start).take (i - start)]) rfl (by omega) (by omega) (fun h => by omega) hf.1 hf.2 (by simp; omega)
          refine ⟨a, b, c', r1, r2, round i gs0 _ (by omega) (by simp [gs0]) (by simp [gs0]) trivial (by rw [if_pos hcond]; rfl) _ r3, ?_⟩
          rw [r4, rest_stop s start i st hi hcase hstop, ← rest_fresh s i hi]
          simp
        · have hcond : ¬ (decide (i > start) && (decide ((rune1 (s.drop i)).1 < 0) || !joinsV st.1 st.2.1 st.2.2 (cls (fix (rune1 (s.drop i)).1)))) = true := by
            rw [decide_eq_true hcase, Bool.true_and]; exact hstop
          have hf := fl st hf0 hf1
          obtain ⟨a, b, c', r1, r2, r3, r4⟩ := ih (s.length - (i + (rune1 (s.drop i)).2)) (by omega) (i + (rune1 (s.drop i)).2) start (upd st (rune1 (s.drop i)).1) acc rfl (by omega) (by omega) (fun h => by omega) hf.1 hf.2 (by omega)
          refine ⟨a, b, c', r1, r2, round start st acc (by omega) hf0 hf1 trivial (by rw [if_neg hcond]) _ r3, ?_⟩
          rw [r4, rest_go s start i st hi hcase hstop]
      · have hs0 : i = start := by omega
        have hst0 := hst hs0
        subst hst0
        have hcond : ¬ (decide (i > start) && (decide ((rune1 (s.drop i)).1 < 0) || !joinsV gs0.1 gs0.2.1 gs0.2.2 (cls (fix (rune1 (s.drop i)).1)))) = true := by
          rw [decide_eq_false hcase]; simp
        have hf := fl gs0 hf0 hf1
        obtain ⟨a, b, c', r1, r2, r3, r4⟩ := ih (s.length - (i + (rune1 (s.drop i)).2)) (by omega) (i + (rune1 (s.drop i)).2) start (upd gs0 (rune1 (s.drop i)).1) acc rfl (by omega) (by omega) (fun h => by omega) hf.1 hf.2 (by omega)
        refine ⟨a, b, c', r1, r2, round start gs0 acc (by omega) hf0 hf1 trivial (by rw [if_neg hcond]) _ r3, ?_⟩
        have : rest s start i gs0 = pieces (s.drop i) := by unfold rest; rw [if_pos hs0, hs0]
        rw [r4, this, rest_fresh s i hi, hs0]
    · have hie : i = s.length := by omega
      refine ⟨start, st, acc, by omega, by omega, ?_, ?_⟩
      · refine grapheme_Split_L7_of ?_
        unfold grapheme_Split_L7_R
        dsimp only
        exact ifd_f (by simp only [decide_eq_true_eq]; omega)
      · rw [hie, rest_end s start st (by omega)]

theorem Width_Cc (s : List Int) (hB : Bytes s) (hs : s.length ≤ 2000000) (acc : Int) (l : Int) (v : Bool) (f : Int) (start i : Nat) (size c : Int) (inv : Bool) (h1 : start ≤ i) (h2 : i ≤ s.length) (hacc : 0 ≤ acc ∧ acc ≤ 2 * i) :
    grapheme_Width_C3 (pcL prog cfg) lpL (((), (), (start : Int), (), (i : Int), size, inv, c, ()), ((acc, ()), (s, ()), ((), ()), (l, v, f, ()), ())) =
      some (if (decide (i > start) && (inv || !joinsV l v f c)) = true then (((), (), (i : Int), (), (i : Int), size, inv, c, ()), ((acc + wd ((s.drop start).take (i - start)), ()), (s, ()), ((), ()), (0, false, 0, ()), ())) else (((), (), (start : Int), (), (i : Int), size, inv, c, ()), ((acc, ()), (s, ()), ((), ()), (l, v, f, ()), ()))) := by
  unfold grapheme_Width_C3
  dsimp only
  refine bnd1 (Width_Cb s acc l v f start i size c inv) ?_
  dsimp only
  have hd : decide ((i : Int) > (start : Int)) = decide (i > start) := by rw [decide_eq_decide]; omega
  rw [hd]
  by_cases h : (decide (i > start) && (inv || !joinsV l v f c)) = true
  · rw [if_pos h]
    refine (ifd_t h).trans ?_
    refine (ifd_t (by simp only [decide_eq_true_eq]; omega)).trans ?_
    rw [seg_eq]
    have hne : (s.drop start).take (i - start) ≠ [] := by
      rw [Bool.and_eq_true, decide_eq_true_eq] at h
      intro q
      have := congrArg List.length q
      rw [List.length_take, List.length_drop] at this
      simp at this
      omega
    refine bnd2 (width_spec _ ((hB.drop start).take _) (by rw [List.length_take, List.length_drop]; omega) hne) rfl ?_
    have := wd_le ((s.drop start).take (i - start))
    rw [wrap64 (by omega) (by omega)]
  · rw [if_neg h]
    exact ifd_f h

theorem Width_loop (s : List Int) (hB : Bytes s) (hs : s.length ≤ 2000000) : ∀ (k i start : Nat) (st : GS) (acc : Int), s.length - i = k → start ≤ i → i ≤ s.length → (i = start → st = gs0) → 0 ≤ st.2.2 → st.2.2 ≤ i → 0 ≤ acc ∧ acc ≤ 2 * i →
    ∃ (start' : Nat) (st' : GS) (acc' : Int), start' ≤ s.length ∧ (0 ≤ acc' ∧ acc' ≤ 2 * s.length) ∧ grapheme_Width_L4 (pcL prog cfg) lpL (((), (), (start : Int), (), (i : Int), ()), ((acc, ()), (s, ()), ((), ()), (st.1, st.2.1, st.2.2, ()), ())) = some (((), (), (start' : Int), ()), ((acc', ()), (s, ()), ((), ()), (st'.1, st'.2.1, st'.2.2, ()), ())) ∧
      acc' + widths ((if start' < s.length then [s.drop start'] else [])) = acc + widths (rest s start i st) := by
  intro k
  induction k using Nat.strongRecOn with
  | _ k ih =>
    intro i start st acc hk h1 h2 hst hf0 hf1 hacc
    by_cases hi : i < s.length
    · have hd := drop_getD s i hi
      have hsz := rune1_size (s.getD i 0) (s.drop (i + 1))
      have hinv := inv_eq (s.getD i 0) (s.drop (i + 1)) (hB.getD i).1
      have hBd : Bytes (s.getD i 0 :: s.drop (i + 1)) := by rw [← hd]; exact hB.drop i
      have hdr := DecodeRune_spec (s.getD i 0) (s.drop (i + 1)) hBd (by rw [List.length_drop]; omega)
      rw [← hd] at hsz hinv hdr
      rw [List.length_drop] at hsz
      -- one round, as it goes on
      have round : ∀ (start' : Nat) (st1 : GS) (acc1 : Int), start' ≤ i → 0 ≤ st1.2.2 → st1.2.2 ≤ i → True →
          (some (if (decide (i > start) && (decide ((rune1 (s.drop i)).1 < 0) || !joinsV st.1 st.2.1 st.2.2 (cls (fix (rune1 (s.drop i)).1)))) = true then (((), (), (i : Int), (), (i : Int), (((rune1 (s.drop i)).2 : Nat) : Int), decide ((rune1 (s.drop i)).1 < 0), cls (fix (rune1 (s.drop i)).1), ()), ((acc + wd ((s.drop start).take (i - start)), ()), (s, ()), ((), ()), (0, false, 0, ()), ())) else (((), (), (start : Int), (), (i : Int), (((rune1 (s.drop i)).2 : Nat) : Int), decide ((rune1 (s.drop i)).1 < 0), cls (fix (rune1 (s.drop i)).1), ()), ((acc, ()), (s, ()), ((), ()), (st.1, st.2.1, st.2.2, ()), ())))
            = some (((), (), (start' : Int), (), (i : Int), (((rune1 (s.drop i)).2 : Nat) : Int), decide ((rune1 (s.drop i)).1 < 0), cls (fix (rune1 (s.drop i)).1), ()), ((acc1, ()), (s, ()), ((), ()), (st1.1, st1.2.1, st1.2.2, ()), ()))) →
          ∀ x, grapheme_Width_L4 (pcL prog cfg) lpL (((), (), (start' : Int), (), ((i + (rune1 (s.drop i)).2 : Nat) : Int), ()), ((acc1, ()), (s, ()), ((), ()), ((upd st1 (rune1 (s.drop i)).1).1, (upd st1 (rune1 (s.drop i)).1).2.1, (upd st1 (rune1 (s.drop i)).1).2.2, ()), ())) = some x →
          grapheme_Width_L4 (pcL prog cfg) lpL (((), (), (start : Int), (), (i : Int), ()), ((acc, ()), (s, ()), ((), ()), (st.1, st.2.1, st.2.2, ()), ())) = some x := by
        intro start' st1 acc1 g1 g2 g3 g4 he x hx
        refine grapheme_Width_L4_of ?_
        unfold grapheme_Width_L4_R
        dsimp only
        refine (ifd_t (by simp only [decide_eq_true_eq]; omega)).trans ?_
        refine (ifd_t (by simp only [decide_eq_true_eq]; omega)).trans ?_
        rw [tail_eq]
        refine bnd2 hdr rfl ?_
        refine bnd1 (Width_Ca s acc _ _ _ _ _ _ _) ?_
        dsimp only
        refine bnd2 (class_spec _) rfl ?_
        rw [hinv]
        refine bnd1 ((Width_Cc s hB hs acc _ _ _ start i _ _ _ h1 (by omega) hacc).trans he) ?_
        dsimp only
        rw [wrap64 (x := (i : Int) + (((rune1 (s.drop i)).2 : Nat) : Int)) (by omega) (by omega)]
        rw [Int.natCast_add] at hx
        unfold upd at hx
        by_cases h6 : cls (fix (rune1 (s.drop i)).1) = 6
        · refine (ifd_t (by rw [h6]; rfl)).trans ?_
          rw [wrap64 (by omega) (by omega)]
          simp only [h6, if_true] at hx ⊢
          exact hx
        · refine (ifd_f (by simpa using h6)).trans ?_
          simp only [h6, if_false] at hx ⊢
          exact hx
      have fl : ∀ st1 : GS, 0 ≤ st1.2.2 → st1.2.2 ≤ i → 0 ≤ (upd st1 (rune1 (s.drop i)).1).2.2 ∧ (upd st1 (rune1 (s.drop i)).1).2.2 ≤ ((i + (rune1 (s.drop i)).2 : Nat) : Int) := fun st1 g1 g2 => by
        unfold upd
        dsimp only
        split <;> omega
      by_cases hcase : i > start
      · by_cases hstop : stops st (rune1 (s.drop i)).1 = true
        · have hcond : (decide (i > start) && (decide ((rune1 (s.drop i)).1 < 0) || !joinsV st.1 st.2.1 st.2.2 (cls (fix (rune1 (s.drop i)).1)))) = true := by
            rw [decide_eq_true hcase, Bool.true_and]; exact hstop
          have hf := fl gs0 (by simp [gs0]) (by simp [gs0])
          obtain ⟨a, b, c', r1, r2, r3, r4⟩ := ih (s.length - (i + (rune1 (s.drop i)).2)) (by omega) (i + (rune1 (s.drop i)).2) i (upd gs0 (rune1 (s.drop i)).1) (acc + wd ((s.drop start).take (i - start))) rfl (by omega) (by omega) (fun h => by omega) hf.1 hf.2 (by have := wd_le ((s.drop start).take (i - start)); omega)
          refine ⟨a, b, c', r1, r2, round i gs0 _ (by omega) (by simp [gs0]) (by simp [gs0]) trivial (by rw [if_pos hcond]; rfl) _ r3, ?_⟩
          rw [r4, rest_stop s start i st hi hcase hstop, ← rest_fresh s i hi]
          simp only [widths, List.map_cons, List.sum_cons]
          omega
        · have hcond : ¬ (decide (i > start) && (decide ((rune1 (s.drop i)).1 < 0) || !joinsV st.1 st.2.1 st.2.2 (cls (fix (rune1 (s.drop i)).1)))) = true := by
            rw [decide_eq_true hcase, Bool.true_and]; exact hstop
          have hf := fl st hf0 hf1
          obtain ⟨a, b, c', r1, r2, r3, r4⟩ := ih (s.length - (i + (rune1 (s.drop i)).2)) (by omega) (i + (rune1 (s.drop i)).2) start (upd st (rune1 (s.drop i)).1) acc rfl (by omega) (by omega) (fun h => by omega) hf.1 hf.2 (by omega)
          refine ⟨a, b, c', r1, r2, round start st acc (by omega) hf0 hf1 trivial (by rw [if_neg hcond]) _ r3, ?_⟩
          rw [r4, rest_go s start i st hi hcase hstop]
      · have hs0 : i = start := by omega
        have hst0 := hst hs0
        subst hst0
        have hcond : ¬ (decide (i > start) && (decide ((rune1 (s.drop i)).1 < 0) || !joinsV gs0.1 gs0.2.1 gs0.2.2 (cls (fix (rune1 (s.drop i)).1)))) = true := by
          rw [decide_eq_false hcase]; simp
        have hf := fl gs0 hf0 hf1
        obtain ⟨a, b, c', r1, r2, r3, r4⟩ := ih (s.length - (i + (rune1 (s.drop i)).2)) (by omega) (i + (rune1 (s.drop i)).2) start (upd gs0 (rune1 (s.drop i)).1) acc rfl (by omega) (by omega) (fun h => by omega) hf.1 hf.2 (by omega)
        refine ⟨a, b, c', r1, r2, round start gs0 acc (by omega) hf0 hf1 trivial (by rw [if_neg hcond]) _ r3, ?_⟩
        have : rest s start i gs0 = pieces (s.drop i) := by unfold rest; rw [if_pos hs0, hs0]
        rw [r4, this, rest_fresh s i hi, hs0]
    · have hie : i = s.length := by omega
      refine ⟨start, st, acc, by omega, by omega, ?_, ?_⟩
      · refine grapheme_Width_L4_of ?_
        unfold grapheme_Width_L4_R
        dsimp only
        exact ifd_f (by simp only [decide_eq_true_eq]; omega)
      · rw [hie, rest_end s start st (by omega)]

theorem Split_spec (s : List Int) (hB : Bytes s) (hs : s.length ≤ 2000000) : grapheme_Split_c (pcL prog cfg) s = some (pieces s) := by
  refine grapheme_Split_of ?_
  unfold grapheme_Split_B
  obtain ⟨a, b, c, r1, r2, r3, r4⟩ := Split_loop s hB hs _ 0 0 gs0 [] rfl (by omega) (by omega) (fun _ => rfl) (by simp [gs0]) (by simp [gs0]) (by simp)
  refine bnd1 r3 ?_
  dsimp only
  have hr : rest s 0 0 gs0 = pieces s := by unfold rest; rw [if_pos rfl, List.drop_zero]
  rw [hr, List.nil_append] at r4
  by_cases h : a < s.length
  · rw [if_pos h] at r4
    refine (ifd_t (by simp only [decide_eq_true_eq]; omega)).trans ?_
    refine (ifd_t (by simp only [decide_eq_true_eq]; omega)).trans ?_
    rw [tail_eq]
    refine (ifd_t (by simp only [decide_eq_true_eq, List.length_cons, List.length_nil]; omega)).trans ?_
    rw [r4]
  · rw [if_neg h, List.append_nil] at r4
    refine (ifd_f (by simp only [decide_eq_true_eq]; omega)).trans ?_
    rw [r4]

theorem Width_spec (s : List Int) (hB : Bytes s) (hs : s.length ≤ 2000000) : grapheme_Width_c (pcL prog cfg) s = some (widths (pieces s)) := by
  refine grapheme_Width_of ?_
  unfold grapheme_Width_B
  obtain ⟨a, b, c, r1, r2, r3, r4⟩ := Width_loop s hB hs _ 0 0 gs0 0 rfl (by omega) (by omega) (fun _ => rfl) (by simp [gs0]) (by simp [gs0]) (by omega)
  refine bnd1 r3 ?_
  dsimp only
  have hr : rest s 0 0 gs0 = pieces s := by unfold rest; rw [if_pos rfl, List.drop_zero]
  rw [hr, Int.zero_add] at r4
  by_cases h : a < s.length
  · rw [if_pos h] at r4
    refine (ifd_t (by simp only [decide_eq_true_eq]; omega)).trans ?_
    refine (ifd_t (by simp only [decide_eq_true_eq]; omega)).trans ?_
    rw [tail_eq]
    have hne : s.drop a ≠ [] := by
      intro q
      have := congrArg List.length q
      rw [List.length_drop] at this
      simp at this
      omega
    refine bnd2 (width_spec _ (hB.drop a) (by rw [List.length_drop]; omega) hne) rfl ?_
    have := wd_le (s.drop a)
    rw [wrap64 (by omega) (by omega), ← r4]
    simp [widths]
  · rw [if_neg h] at r4
    refine (ifd_f (by simp only [decide_eq_true_eq]; omega)).trans ?_
    rw [← r4]
    simp [widths]

end Go.Proofs.YtagnebpehdonaaaDoorSim
