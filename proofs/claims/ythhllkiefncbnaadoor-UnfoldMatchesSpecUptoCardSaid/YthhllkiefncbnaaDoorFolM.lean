/- fold: the law about unfolding. -/
import Derived.Test.YthhllkiefncbnaaDoorFolL
namespace Go.Proofs.YthhllkiefncbnaaDoorSim
open Go Go.Proofs
open Go.Proofs.Tryd (prog)
set_option linter.unusedVariables false
set_option linter.unusedSimpArgs false

theorem Find_loop (s : List Int) (hb : s.length ≤ 4000000) : ∀ (k i : Nat), i + k = s.length →
    ref1_Find_L1 (pcL prog cfg) lpL ((s, [58], (i : Int), ()), ()) = some (if colon (s.drop i) < 0 then Sum.inr ((), ()) else Sum.inl (((i : Int) + colon (s.drop i), ()), ())) := by
  intro k
  have hw : ∀ i : Nat, i ≤ 4000000 → IntKind.wrap .i64 ((i : Int) + ((([58] : List Int).length : Nat) : Int)) = ((i + 1 : Nat) : Int) := fun i hi => nx (by omega)
  induction k with
  | zero =>
    intro i hk
    refine ref1_Find_L1_of ?_
    unfold ref1_Find_L1_R
    dsimp only
    rw [hw i (by omega)]
    refine (ifd_f (by simp only [decide_eq_true_eq]; omega)).trans ?_
    have e : s.drop i = [] := List.drop_eq_nil_of_le (by omega)
    rw [e]
    rfl
  | succ k ih =>
    intro i hk
    refine ref1_Find_L1_of ?_
    unfold ref1_Find_L1_R
    dsimp only
    rw [hw i (by omega), nx (by omega), ih (i + 1) (by omega), seg_eq, drop_getD s i (by omega), show i + 1 - i = 1 by omega, List.take_succ_cons, List.take_zero]
    refine (ifd_t (by simp only [decide_eq_true_eq]; omega)).trans ?_
    refine (ifd_t (by simp only [decide_eq_true_eq]; omega)).trans ?_
    unfold colon
    rw [indexByteL_cons]
    by_cases h : s.getD i 0 = 58
    · refine (ifd_t (by rw [h]; rfl)).trans ?_
      rw [if_pos h, if_neg (by omega), Int.add_zero]
    · refine (ifd_f (by simpa using h)).trans ?_
      rw [if_neg h]
      by_cases h2 : indexByteL (s.drop (i + 1)) 58 < 0
      · rw [if_pos h2, if_pos h2, if_pos (by omega)]
      · rw [if_neg h2, if_neg h2, if_neg (by omega)]
        have : ((i + 1 : Nat) : Int) + indexByteL (s.drop (i + 1)) 58 = (i : Int) + (indexByteL (s.drop (i + 1)) 58 + 1) := by omega
        rw [this]

theorem Find_spec (s : List Int) (hb : s.length ≤ 4000000) : ref1_Find_c (pcL prog cfg) s [58] 0 = some (colon s) := by
  refine ref1_Find_of ?_
  unfold ref1_Find_B
  have := Find_loop s hb s.length 0 (by omega)
  refine bnd1 this ?_
  rw [List.drop_zero]
  have hc := colon_le s
  by_cases h : colon s < 0
  · rw [if_pos h]
    have : colon s = -1 := by omega
    rw [this]; rfl
  · rw [if_neg h]
    show some (((0 : Nat) : Int) + colon s) = some (colon s)
    congr 1; omega

def okF (n v : List Int) (c x c' x' : Int) : Bool := (c == c' && ((x == x') && true)) && ((n == []) && (v == []))

theorem uC1 (n v : List Int) (c x : Int) : law1_UnfoldMatchesSpec_C1 (pcL prog cfg) lpL ((n, v, (), ()), ((c, x, ()), ())) = some ((okF n v c x 2 (-1), ()), ((c, x, ()), ())) := by
  unfold law1_UnfoldMatchesSpec_C1
  refine bnd2 (fAt_spec _ _) rfl ?_
  dsimp only
  unfold okF
  generalize (c == 2 && (x == -1 && true)) = a
  generalize (n == ([] : List Int)) = p
  cases a <;> cases p <;> rfl
theorem uC5 (n v : List Int) (c x : Int) : law1_UnfoldMatchesSpec_C5 (pcL prog cfg) lpL ((n, v, (), ()), ((c, x, ()), ())) = some ((okF n v c x 1 (-1), ()), ((c, x, ()), ())) := by
  unfold law1_UnfoldMatchesSpec_C5
  refine bnd2 (fAt_spec _ _) rfl ?_
  dsimp only
  unfold okF
  generalize (c == 1 && (x == -1 && true)) = a
  generalize (n == ([] : List Int)) = p
  cases a <;> cases p <;> rfl
theorem uC7 (n v : List Int) (c x : Int) : law1_UnfoldMatchesSpec_C7 (pcL prog cfg) lpL ((n, v, (), ()), ((c, x, ()), ())) = some ((okF n v c x 11 (-2), ()), ((c, x, ()), ())) := by
  unfold law1_UnfoldMatchesSpec_C7
  refine bnd2 (fAt_spec _ _) rfl ?_
  dsimp only
  unfold okF
  generalize (c == 11 && (x == -2 && true)) = a
  generalize (n == ([] : List Int)) = p
  cases a <;> cases p <;> rfl
theorem uC8 (n v : List Int) (c x : Int) : law1_UnfoldMatchesSpec_C8 (pcL prog cfg) lpL ((n, v, (), ()), ((c, x, ()), ())) = some ((okF n v c x 1 (-1), ()), ((c, x, ()), ())) := by
  unfold law1_UnfoldMatchesSpec_C8
  refine bnd2 (fAt_spec _ _) rfl ?_
  dsimp only
  unfold okF
  generalize (c == 1 && (x == -1 && true)) = a
  generalize (n == ([] : List Int)) = p
  cases a <;> cases p <;> rfl

theorem uC2 (l : List (List Int)) (n v all : List Int) (i : Nat) (hi : i < l.length) (c x : Int) : law1_UnfoldMatchesSpec_C2 (pcL prog cfg) lpL ((l, n, v, (), all, (i : Int), ()), ((c, x, ()), ())) = some ((l, n, v, (), all, (i : Int), (decide (0 < i) && (trimL (l.getD i []) == l.getD i [])), ()), ((c, x, ()), ())) := by
  unfold law1_UnfoldMatchesSpec_C2
  dsimp only
  rw [Int.toNat_natCast, trimL_same]
  have hr : (decide (((0 : Int) ≤ (i : Int)) ∧ ((i : Int) < ((l.length : Nat) : Int)))) = true := by simp only [decide_eq_true_eq]; omega
  by_cases h0 : 0 < i
  · have e : decide ((i : Int) > 0) = true := by simp only [decide_eq_true_eq]; omega
    rw [e, hr, decide_eq_true h0]
    cases hg : l.getD i [] with
    | nil => rfl
    | cons a r =>
      refine (ifd_t rfl).trans ?_
      refine (ifd_t rfl).trans ?_
      refine (ifd_f (by simp)).trans ?_
      refine (ifd_t rfl).trans ?_
      refine (ifd_t (by simp only [decide_eq_true_eq, List.length_cons]; omega)).trans ?_
      refine bnd2 (Blank_spec _) rfl ?_
      refine (ifd_t rfl).trans ?_
      refine (ifd_f (by simp)).trans ?_
      refine (ifd_t rfl).trans ?_
      rfl
  · have e : decide ((i : Int) > 0) = false := by simp only [decide_eq_false_iff_not]; omega
    rw [e, decide_eq_false h0]
    rfl

theorem uL3 (l : List (List Int)) (n v all : List Int) (i : Nat) (hi : i < l.length) (hb : (l.getD i []).length ≤ 4000000) (c x : Int) : ∀ (m k : Nat) (b : Bool), (l.getD i []).length - k = m → k ≤ (l.getD i []).length →
    law1_UnfoldMatchesSpec_L3 (pcL prog cfg) lpL ((l, n, v, (), all, (i : Int), b, (k : Int), ()), ((c, x, ()), ())) = some ((l, n, v, (), all, (i : Int), (b || ((l.getD i []).drop k).any badB), ()), ((c, x, ()), ())) := by
  intro m
  have hr : (decide (((0 : Int) ≤ (i : Int)) ∧ ((i : Int) < ((l.length : Nat) : Int)))) = true := by simp only [decide_eq_true_eq]; omega
  induction m with
  | zero =>
    intro k b hm hk
    refine law1_UnfoldMatchesSpec_L3_of ?_
    unfold law1_UnfoldMatchesSpec_L3_R
    dsimp only
    rw [Int.toNat_natCast, hr, List.drop_eq_nil_of_le (by omega)]
    refine (ifd_t rfl).trans ?_
    refine (ifd_f (by simp only [decide_eq_true_eq]; omega)).trans ?_
    simp
  | succ m ih =>
    intro k b hm hk
    refine law1_UnfoldMatchesSpec_L3_of ?_
    unfold law1_UnfoldMatchesSpec_L3_R
    dsimp only
    rw [Int.toNat_natCast, Int.toNat_natCast, hr, nx (by omega), drop_getD _ k (by omega)]
    refine (ifd_t rfl).trans ?_
    refine (ifd_t (by simp only [decide_eq_true_eq]; omega)).trans ?_
    cases b with
    | true =>
      refine (ifd_t rfl).trans ?_
      refine (ifd_t rfl).trans ?_
      rw [ih (k + 1) true (by omega) (by omega)]
      rfl
    | false =>
      refine (ifd_f (by simp)).trans ?_
      refine (ifd_t rfl).trans ?_
      refine (ifd_t (by simp only [decide_eq_true_eq]; omega)).trans ?_
      refine bnd2 (OneOf_bad _) rfl ?_
      refine (ifd_f (by simp)).trans ?_
      rw [ih (k + 1) _ (by omega) (by omega)]
      rfl

theorem uL4 (l : List (List Int)) (n v : List Int) (c x : Int) (h1 : l.flatten.length ≤ 2000000) (h2 : l.length ≤ 2000000) : ∀ (k i : Nat), l.length - i = k → i ≤ l.length →
    law1_UnfoldMatchesSpec_L4 (pcL prog cfg) lpL ((l, n, v, (), (l.take i).flatten, (i : Int), ()), ((c, x, ()), ())) = some (match firstBad l k i with
      | some j => Sum.inl ((okF n v c x 11 (j : Nat), ()), ((c, x, ()), ()))
      | none => Sum.inr ((n, v, (), l.flatten, ()), ((c, x, ()), ()))) := by
  intro k
  induction k with
  | zero =>
    intro i hk hi
    refine law1_UnfoldMatchesSpec_L4_of ?_
    unfold law1_UnfoldMatchesSpec_L4_R
    refine (ifd_f (by simp only [decide_eq_true_eq]; omega)).trans ?_
    rw [List.take_of_length_le (by omega)]
    rfl
  | succ k ih =>
    intro i hk hi
    have hlt : i < l.length := by omega
    have hft := flat_take l i hlt
    have hfl := flat_le l (i + 1)
    refine law1_UnfoldMatchesSpec_L4_of ?_
    unfold law1_UnfoldMatchesSpec_L4_R
    refine (ifd_t (by simp only [decide_eq_true_eq]; omega)).trans ?_
    refine bnd1 (uC2 l n v _ i hlt c x) ?_
    dsimp only
    refine bnd1 (uL3 l n v _ i hlt (by omega) c x _ 0 _ rfl (by omega)) ?_
    dsimp only
    rw [List.drop_zero, Bool.or_comm, firstBad]
    have eb : ((l.getD i []).any badB || (decide (0 < i) && (trimL (l.getD i []) == l.getD i []))) = badL l i := rfl
    rw [eb]
    cases hbad : badL l i with
    | true =>
      refine (ifd_t rfl).trans ?_
      refine bnd2 (fAt_spec _ _) rfl ?_
      dsimp only
      rw [if_pos rfl]
      unfold okF
      dsimp only
      generalize (c == 11 && (x == (i : Int) && true)) = a
      generalize (n == ([] : List Int)) = p
      cases a <;> cases p <;> rfl
    | false =>
      refine (ifd_f (by simp)).trans ?_
      rw [if_neg (by simp), Int.toNat_natCast, nx (by omega)]
      refine (ifd_t (by simp only [decide_eq_true_eq]; omega)).trans ?_
      refine (ifd_t (by simp only [decide_eq_true_eq]; omega)).trans ?_
      have e : (l.take i).flatten ++ l.getD i [] = (l.take (i + 1)).flatten := by
        have hx : l[i]? = some (l.getD i []) := by
          rw [List.getD_eq_getElem?_getD, List.getElem?_eq_getElem hlt]; rfl
        rw [List.take_add_one, hx, List.flatten_append]
        simp
      rw [e]
      exact ih (i + 1) (by omega) (by omega)

theorem uC6 (n v all : List Int) (hB : Bytes all) (hb : all.length ≤ 2000000) (c x : Int) : law1_UnfoldMatchesSpec_C6 (pcL prog cfg) lpL ((n, v, (), all, colon all, ()), ((c, x, ()), ())) = some ((n, v, (), all, colon all, !((joinV all).2.2.1), ()), ((c, x, ()), ())) := by
  unfold law1_UnfoldMatchesSpec_C6
  dsimp only
  have hc := colon_le all
  unfold joinV
  by_cases h : colon all < 0
  · refine (ifd_t (by simpa using h)).trans ?_
    refine (ifd_t (by simpa using h)).trans ?_
    rw [if_pos h]; rfl
  · refine (ifd_f (by simpa using h)).trans ?_
    refine (ifd_t (by simp only [decide_eq_true_eq]; omega)).trans ?_
    have e : List.drop (Int.toNat 0) (List.take (Int.toNat (colon all)) all) = all.take (colon all).toNat := rfl
    rw [e]
    refine bnd2 (FieldName_spec _ (fun y hy => hB y (List.mem_of_mem_take hy)) (by rw [List.length_take]; omega)) rfl ?_
    refine (ifd_f (by simpa using h)).trans ?_
    rw [if_neg h]

theorem flaw4 (l : List (List Int)) (hB : Bytes l.flatten) (h1 : l.flatten.length ≤ 2000000) (h2 : l.length ≤ 2000000) : law1_UnfoldMatchesSpec_c (pcL prog cfg) l = some true := by
  refine law1_UnfoldMatchesSpec_of ?_
  unfold law1_UnfoldMatchesSpec_B
  refine bnd2 fExample_spec rfl ?_
  refine (ifd_f (by decide)).trans ?_
  refine bnd2 (Unfold_spec l hB h1 h2) rfl ?_
  dsimp only
  unfold unfoldV
  by_cases h300 : l.length > 300
  · rw [if_pos h300]
    refine (ifd_t (by simp only [decide_eq_true_eq]; omega)).trans ?_
    refine bnd1 (uC1 _ _ _ _) ?_
    rfl
  · rw [if_neg h300]
    refine (ifd_f (by simp only [decide_eq_true_eq]; omega)).trans ?_
    have hL := fun n v c x => uL4 l n v c x h1 h2 l.length 0 (by omega) (by omega)
    cases hfb : firstBad l l.length 0 with
    | some j =>
      rw [hfb] at hL
      dsimp only
      refine bnd1 (hL _ _ _ _) ?_
      rw [Sum.elim_inl]
      simp [uFault, okF]
    | none =>
      rw [hfb] at hL
      dsimp only
      refine bnd1 (hL _ _ _ _) ?_
      rw [Sum.elim_inr]
      dsimp only
      have hcl := colon_le l.flatten
      by_cases h8 : l.flatten.length > 8000
      · rw [if_pos h8]
        refine (ifd_t (by simp only [decide_eq_true_eq]; omega)).trans ?_
        refine bnd1 (uC5 _ _ _ _) ?_
        rfl
      · rw [if_neg h8]
        refine (ifd_f (by simp only [decide_eq_true_eq]; omega)).trans ?_
        refine bnd2 (Find_spec l.flatten (by omega)) rfl ?_
        refine bnd1 (uC6 _ _ l.flatten hB h1 _ _) ?_
        dsimp only
        cases hj : (joinV l.flatten).2.2.1 with
        | false =>
          rw [if_pos rfl]
          refine (ifd_t rfl).trans ?_
          refine bnd1 (uC7 _ _ _ _) ?_
          rfl
        | true =>
          have hc0 : ¬ colon l.flatten < 0 := fun q => by
            unfold joinV at hj
            rw [if_pos q] at hj
            cases hj
          have hjv : joinV l.flatten = (l.flatten.take (colon l.flatten).toNat, (trimB (l.flatten.drop ((colon l.flatten).toNat + 1)), (nameOk (l.flatten.take (colon l.flatten).toNat), ()))) := by
            unfold joinV; rw [if_neg hc0]
          rw [if_neg (by simp), hjv]
          dsimp only
          refine (ifd_f (by simp)).trans ?_
          obtain ⟨q, hq⟩ : ∃ q : Nat, colon l.flatten = (q : Int) := ⟨_, (Int.toNat_of_nonneg (by omega)).symm⟩
          rw [hq] at hcl ⊢
          rw [nx (by omega), Int.toNat_natCast]
          refine (ifd_t (by simp only [decide_eq_true_eq]; omega)).trans ?_
          rw [dropn]
          refine bnd2 (rTrim_spec _ (by rw [List.length_drop]; omega)) rfl ?_
          rw [show List.drop (Int.toNat 0) (List.take q l.flatten) = l.flatten.take q from rfl]
          by_cases h4 : (trimB (l.flatten.drop (q + 1))).length > 4000
          · rw [if_pos h4]
            refine (ifd_t (by simp only [decide_eq_true_eq]; omega)).trans ?_
            refine bnd1 (uC8 _ _ _ _) ?_
            rfl
          · rw [if_neg h4]
            refine (ifd_f (by simp only [decide_eq_true_eq]; omega)).trans ?_
            dsimp only
            refine (ifd_t (by rfl)).trans ?_
            refine (ifd_t (by simp only [decide_eq_true_eq]; omega)).trans ?_
            refine (ifd_t (by rfl)).trans ?_
            refine (ifd_t (by simp)).trans ?_
            refine (ifd_t (by simp)).trans ?_
            simp

end Go.Proofs.YthhllkiefncbnaaDoorSim
