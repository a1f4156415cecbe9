/- fold: what the reference computes. -/
import Derived.Test.YthhllkiefncbnaaDoorFolU
namespace Go.Proofs.YthhllkiefncbnaaDoorSim
open Go Go.Proofs
open Go.Proofs.Tryd (prog)
set_option linter.unusedVariables false
set_option linter.unusedSimpArgs false

theorem fIn_spec (n a b : Int) : ref1_In_c (pcL prog cfg) n a b = some (decide (a ≤ n ∧ n ≤ b)) := by
  refine ref1_In_of ?_
  unfold ref1_In_B
  by_cases h1 : n ≥ a
  · refine (ifd_t (decide_eq_true h1)).trans ?_
    refine (ifd_t (decide_eq_true h1)).trans ?_
    congr 1
    simp only [decide_eq_decide]; omega
  · refine (ifd_f (by simpa using h1)).trans ?_
    refine (ifd_f (by simpa using h1)).trans ?_
    rw [decide_eq_false (by omega)]

theorem fAt_spec (c i : Int) : ref1_At_c (pcL prog cfg) c i = some (c, (i, ())) := ref1_At_of rfl

theorem Blank_spec (c : Int) : ref1_Blank_c (pcL prog cfg) c = some (blankB c) := by
  refine ref1_Blank_of ?_
  unfold ref1_Blank_B blankB
  generalize (c == 32) = x
  cases x <;> rfl

theorem OneOf_loop (c : Int) (l : List Int) (hb : l.length ≤ 4000000) : ∀ (k i : Nat), l.length - i = k → i ≤ l.length →
    ref1_OneOf_L1 (pcL prog cfg) lpL ((c, l, (i : Int), ()), ()) = some (if (l.drop i).any (· == c) then Sum.inl ((true, ()), ()) else Sum.inr ((), ())) := by
  intro k
  induction k with
  | zero =>
    intro i hk hi
    refine ref1_OneOf_L1_of ?_
    unfold ref1_OneOf_L1_R
    dsimp only
    refine (ifd_f (by simp only [decide_eq_true_eq]; omega)).trans ?_
    rw [List.drop_eq_nil_of_le (by omega)]; rfl
  | succ k ih =>
    intro i hk hi
    refine ref1_OneOf_L1_of ?_
    unfold ref1_OneOf_L1_R
    dsimp only
    rw [nx (by omega), Int.toNat_natCast, drop_getD l i (by omega), List.any_cons, ih (i + 1) (by omega) (by omega)]
    refine (ifd_t (by simp only [decide_eq_true_eq]; omega)).trans ?_
    refine (ifd_t (by simp only [decide_eq_true_eq]; omega)).trans ?_
    cases (l.getD i 0 == c) <;> rfl

theorem OneOf_spec (c : Int) (l : List Int) (hb : l.length ≤ 4000000) : ref1_OneOf_c (pcL prog cfg) c l = some (l.any (· == c)) := by
  refine ref1_OneOf_of ?_
  unfold ref1_OneOf_B
  refine bnd1 (OneOf_loop c l hb _ 0 rfl (by omega)) ?_
  rw [List.drop_zero]
  cases l.any (· == c) <;> rfl

theorem OneOf_bad (c : Int) : ref1_OneOf_c (pcL prog cfg) c [13, 10, 0] = some (badB c) := by
  rw [OneOf_spec c _ (by simp)]
  congr 1
  simp only [List.any_cons, List.any_nil, badB, Bool.or_false]
  rw [BEq.comm (a := (13 : Int)), BEq.comm (a := (10 : Int)), BEq.comm (a := (0 : Int))]

theorem wbyte {c : Int} (h : 0 ≤ c ∧ c ≤ 255) : IntKind.wrap .i64 c = c := wrap64 (by omega) (by omega)

theorem FieldName_loop (s : List Int) (hB : Bytes s) (hb : s.length ≤ 4000000000) : ∀ (k i : Nat), s.length - i = k → i ≤ s.length →
    ref1_FieldName_L1 (pcL prog cfg) lpL ((s, (i : Int), ()), ()) = some (if (s.drop i).all okN then Sum.inr ((s, ()), ()) else Sum.inl ((false, ()), ())) := by
  intro k
  induction k with
  | zero =>
    intro i hk hi
    refine ref1_FieldName_L1_of ?_
    unfold ref1_FieldName_L1_R
    dsimp only
    refine (ifd_f (by simp only [decide_eq_true_eq]; omega)).trans ?_
    rw [List.drop_eq_nil_of_le (by omega)]; rfl
  | succ k ih =>
    intro i hk hi
    refine ref1_FieldName_L1_of ?_
    unfold ref1_FieldName_L1_R
    dsimp only
    have hc := hB.getD i
    rw [nx (by omega), Int.toNat_natCast, drop_getD s i (by omega), List.all_cons, ih (i + 1) (by omega) (by omega), wbyte hc]
    have hin : (decide (((0 : Int) ≤ (i : Int)) ∧ ((i : Int) < ((s.length : Nat) : Int)))) = true := by simp only [decide_eq_true_eq]; omega
    refine (ifd_t (by simp only [decide_eq_true_eq]; omega)).trans ?_
    refine (ifd_t hin).trans ?_
    refine bnd2 (fIn_spec _ _ _) rfl ?_
    unfold okN
    generalize s.getD i 0 = c
    cases decide (33 ≤ c ∧ c ≤ 126) with
    | false => rfl
    | true =>
      refine (ifd_f (by simp)).trans ?_
      refine (ifd_t hin).trans ?_
      refine (ifd_f (by simp)).trans ?_
      cases (c == 58) <;> rfl

theorem FieldName_spec (s : List Int) (hB : Bytes s) (hb : s.length ≤ 4000000000) : ref1_FieldName_c (pcL prog cfg) s = some (nameOk s) := by
  refine ref1_FieldName_of ?_
  unfold ref1_FieldName_B
  refine bnd1 (FieldName_loop s hB hb _ 0 rfl (by omega)) ?_
  rw [List.drop_zero]
  unfold nameOk
  change Sum.elim _ _ (if s.all okN = true then _ else _) = some (s.all okN && _)
  cases s.all okN with
  | false => rfl
  | true =>
    rw [if_pos rfl, Sum.elim_inr, Bool.true_and]
    refine bnd2 (fIn_spec _ _ _) rfl ?_
    congr 1
    simp only [decide_eq_decide]; omega

theorem rTrim_left : ∀ s : List Int, ref1_Trim_L1 (pcL prog cfg) lpL ((s, ()), ()) = some ((trimL s, ()), ())
  | [] => by
    refine ref1_Trim_L1_of ?_
    unfold ref1_Trim_L1_R
    dsimp only
    exact (ifd_f (by simp)).trans (ifd_f (by simp))
  | c :: r => by
    refine ref1_Trim_L1_of ?_
    unfold ref1_Trim_L1_R
    dsimp only
    rw [head0, drop1, rTrim_left r, trimL]
    refine (ifd_t (by simp only [decide_eq_true_eq, List.length_cons]; omega)).trans ?_
    refine (ifd_t (by simp only [decide_eq_true_eq, List.length_cons]; omega)).trans ?_
    refine bnd2 (Blank_spec _) rfl ?_
    refine (ifd_t (by simp only [decide_eq_true_eq, List.length_cons]; omega)).trans ?_
    cases blankB c with
    | true =>
      refine (ifd_t rfl).trans ?_
      refine (ifd_t (by simp only [decide_eq_true_eq, List.length_cons]; omega)).trans ?_
      rw [if_pos rfl]
    | false => rfl

theorem rTrim_right : ∀ (k : Nat) (s : List Int), s.length = k → k ≤ 4000000000 → ref1_Trim_L2 (pcL prog cfg) lpL ((s, ()), ()) = some ((trimR s, ()), ()) := by
  intro k
  induction k with
  | zero =>
    intro s hs _
    have : s = [] := List.eq_nil_of_length_eq_zero hs
    subst this
    refine ref1_Trim_L2_of ?_
    unfold ref1_Trim_L2_R
    dsimp only
    exact (ifd_f (by simp)).trans (ifd_f (by simp))
  | succ k ih =>
    intro s hs hk
    obtain ⟨q, c, rfl⟩ : ∃ q c, s = q ++ [c] := ⟨s.dropLast, s.getLast (by intro e; rw [e] at hs; cases hs), (List.dropLast_concat_getLast _).symm⟩
    have hq : q.length = k := by simp at hs; omega
    refine ref1_Trim_L2_of ?_
    unfold ref1_Trim_L2_R
    dsimp only
    have hl : (q ++ [c]).length = k + 1 := hs
    have hw : IntKind.wrap .i64 (((q ++ [c]).length : Nat) - 1 : Int) = (k : Int) := by rw [hl, wrap64 (by omega) (by omega)]; omega
    have hg : (q ++ [c]).getD k 0 = c := by rw [← hq]; simp
    have htk : List.drop (Int.toNat 0) (List.take k (q ++ [c])) = q := by rw [← hq]; simp
    rw [hw, Int.toNat_natCast, hg, htk, hl]
    refine (ifd_t (by simp only [decide_eq_true_eq]; omega)).trans ?_
    refine (ifd_t (by simp only [decide_eq_true_eq]; omega)).trans ?_
    refine bnd2 (Blank_spec _) rfl ?_
    refine (ifd_t (by simp only [decide_eq_true_eq]; omega)).trans ?_
    rw [trimR_snoc, ih q hq (by omega)]
    cases blankB c with
    | true =>
      refine (ifd_t rfl).trans ?_
      refine (ifd_t (by simp only [decide_eq_true_eq]; omega)).trans ?_
      rw [if_pos rfl]
    | false => rfl

theorem trimL_len (s : List Int) : (trimL s).length ≤ s.length := by
  obtain ⟨a, h, _⟩ := trimL_split s
  have := congrArg List.length h
  rw [List.length_append] at this; omega

theorem rTrim_spec (s : List Int) (hb : s.length ≤ 4000000000) : ref1_Trim_c (pcL prog cfg) s = some (trimB s) := by
  refine ref1_Trim_of ?_
  unfold ref1_Trim_B
  refine bnd1 (rTrim_left s) ?_
  have := trimL_len s
  refine bnd1 (rTrim_right _ (trimL s) rfl (by omega)) ?_
  rw [trimB, trim_comm]

theorem FieldCode_loop (s : List Int) (hb : s.length ≤ 4000000) : ∀ (k i : Nat), s.length - i = k → i ≤ s.length →
    ref1_FieldCode_L1 (pcL prog cfg) lpL ((s, (i : Int), ()), ()) = some (if (s.drop i).any badB then Sum.inl ((11, ()), ()) else Sum.inr ((s, ()), ())) := by
  intro k
  induction k with
  | zero =>
    intro i hk hi
    refine ref1_FieldCode_L1_of ?_
    unfold ref1_FieldCode_L1_R
    dsimp only
    refine (ifd_f (by simp only [decide_eq_true_eq]; omega)).trans ?_
    rw [List.drop_eq_nil_of_le (by omega)]; rfl
  | succ k ih =>
    intro i hk hi
    refine ref1_FieldCode_L1_of ?_
    unfold ref1_FieldCode_L1_R
    dsimp only
    rw [nx (by omega), Int.toNat_natCast, drop_getD s i (by omega), List.any_cons, ih (i + 1) (by omega) (by omega)]
    refine (ifd_t (by simp only [decide_eq_true_eq]; omega)).trans ?_
    refine (ifd_t (by simp only [decide_eq_true_eq]; omega)).trans ?_
    refine bnd2 (OneOf_bad _) rfl ?_
    cases badB (s.getD i 0) <;> rfl

theorem FieldCode_spec (name value : List Int) (hB : Bytes name) (hn : name.length ≤ 4000000) (hv : value.length ≤ 4000000) : ref1_FieldCode_c (pcL prog cfg) name value = some (codeF name value) := by
  refine ref1_FieldCode_of ?_
  unfold ref1_FieldCode_B codeF
  refine bnd2 (FieldName_spec name hB (by omega)) rfl ?_
  cases nameOk name with
  | false => exact ifd_t rfl
  | true =>
    refine (ifd_f (by simp)).trans ?_
    rw [if_neg (by simp)]
    by_cases h : value.length > 4000
    · rw [if_pos h]
      exact ifd_t (by simp only [decide_eq_true_eq]; omega)
    rw [if_neg h]
    refine (ifd_f (by simp only [decide_eq_true_eq]; omega)).trans ?_
    refine bnd1 (FieldCode_loop value hv _ 0 rfl (by omega)) ?_
    rw [List.drop_zero]
    cases value.any badB with
    | true => rfl
    | false =>
      rw [if_neg (by simp), Sum.elim_inr]
      refine bnd2 (rTrim_spec value (by omega)) rfl ?_
      rw [if_neg (by simp)]
      by_cases ht : trimB value = value
      · rw [if_pos ht]
        exact ifd_f (by simp [ht])
      · rw [if_neg ht]
        exact ifd_t (by simp [ht])

/-! ### The lines -/
def ptsL (s : List Int) : Nat → Nat → List Int
  | 0, _ => []
  | k + 1, i => if isPt s i then (i : Int) :: ptsL s k (i + 1) else ptsL s k (i + 1)

theorem ptsL_len (s : List Int) : ∀ (k i : Nat), (ptsL s k i).length ≤ k
  | 0, _ => by simp [ptsL]
  | k + 1, i => by
    have := ptsL_len s k (i + 1)
    rw [ptsL]
    split
    · simp; omega
    · omega

theorem pts_loop (s : List Int) (hb : s.length ≤ 4000000) : ∀ (k i : Nat) (out : List Int), s.length - i = k → 1 ≤ i → out.length + k ≤ 8000000 →
    ref1_Folded_L1 (pcL prog cfg) lpL ((s, out, (i : Int), ()), ()) = some ((s, out ++ ptsL s k i, ()), ()) := by
  intro k
  induction k with
  | zero =>
    intro i out hk hi ho
    refine ref1_Folded_L1_of ?_
    unfold ref1_Folded_L1_R
    dsimp only
    refine (ifd_f (by simp only [decide_eq_true_eq]; omega)).trans ?_
    simp [ptsL]
  | succ k ih =>
    intro i out hk hi ho
    refine ref1_Folded_L1_of ?_
    unfold ref1_Folded_L1_R
    dsimp only
    rw [nx (by omega), pv hi (by omega), Int.toNat_natCast, Int.toNat_natCast, ptsL, isPt]
    refine (ifd_t (by simp only [decide_eq_true_eq]; omega)).trans ?_
    refine (ifd_t (by simp only [decide_eq_true_eq]; omega)).trans ?_
    refine bnd2 (Blank_spec _) rfl ?_
    cases blankB (s.getD i 0) with
    | false =>
      refine (ifd_f (by simp)).trans ?_
      refine (ifd_f (by simp)).trans ?_
      rw [Bool.false_and, if_neg (by simp)]
      exact ih (i + 1) out (by omega) (by omega) (by omega)
    | true =>
      refine (ifd_t rfl).trans ?_
      refine (ifd_t (by simp only [decide_eq_true_eq]; omega)).trans ?_
      refine bnd2 (Blank_spec _) rfl ?_
      refine (ifd_t rfl).trans ?_
      cases blankB (s.getD (i - 1) 0) with
      | true =>
        refine (ifd_f (by simp)).trans ?_
        rw [if_neg (by simp)]
        exact ih (i + 1) out (by omega) (by omega) (by omega)
      | false =>
        refine (ifd_t rfl).trans ?_
        refine (ifd_t (by simp only [decide_eq_true_eq, List.length_cons, List.length_nil]; omega)).trans ?_
        rw [if_pos (by simp)]
        have := ih (i + 1) (out ++ [(i : Int)]) (by omega) (by omega) (by simp; omega)
        rw [List.append_assoc] at this
        exact this

def pickP (a : Int) : List Int → Int → Int
  | [], b => b
  | p :: r, b => pickP a r (if decide (p > a) && (decide (p - a ≤ 78) || decide (b < 0)) then p else b)

theorem pick_loop (s pts : List Int) (out : List (List Int)) (a : Int) (ha : 0 ≤ a ∧ a ≤ 4000000) (hp : ∀ p ∈ pts, 0 ≤ p ∧ p ≤ 4000000) (hb : pts.length ≤ 4000000) : ∀ (k j : Nat) (b : Int), pts.length - j = k → j ≤ pts.length →
    ref1_Folded_L3 (pcL prog cfg) lpL ((s, pts, out, a, b, (j : Int), ()), ()) = some ((s, pts, out, a, pickP a (pts.drop j) b, ()), ()) := by
  intro k
  induction k with
  | zero =>
    intro j b hk hj
    refine ref1_Folded_L3_of ?_
    unfold ref1_Folded_L3_R
    dsimp only
    refine (ifd_f (by simp only [decide_eq_true_eq]; omega)).trans ?_
    rw [List.drop_eq_nil_of_le (by omega)]; rfl
  | succ k ih =>
    intro j b hk hj
    have hlt : j < pts.length := by omega
    refine ref1_Folded_L3_of ?_
    unfold ref1_Folded_L3_R
    dsimp only
    have hm : pts.getD j 0 ∈ pts := by
      rw [List.getD_eq_getElem?_getD, List.getElem?_eq_getElem hlt]
      exact List.getElem_mem hlt
    have hpr := hp _ hm
    rw [nx (by omega), Int.toNat_natCast, drop_getD pts j hlt, pickP]
    refine (ifd_t (by simp only [decide_eq_true_eq]; omega)).trans ?_
    refine (ifd_t (by simp only [decide_eq_true_eq]; omega)).trans ?_
    generalize pts.getD j 0 = p at *
    rw [wrap64 (show -9223372036854775808 ≤ p - a by omega) (by omega)]
    have ih1 := ih (j + 1) p (by omega) (by omega)
    have ih2 := ih (j + 1) b (by omega) (by omega)
    generalize decide (p > a) = x
    generalize decide (p - a ≤ 78) = y
    generalize decide (b < 0) = z
    cases x <;> cases y <;> cases z <;> first | exact ih1 | exact ih2

theorem ptsL_range (s : List Int) : ∀ (k i : Nat), ∀ p ∈ ptsL s k i, (i : Int) ≤ p ∧ p < i + k
  | 0, _, p, h => by simp [ptsL] at h
  | k + 1, i, p, h => by
    rw [ptsL] at h
    split at h
    · rcases List.mem_cons.1 h with rfl | h
      · omega
      · have := ptsL_range s k (i + 1) p h; omega
    · have := ptsL_range s k (i + 1) p h; omega

/-- the places up to a are passed over -/
theorem pick_skip (s : List Int) (a : Nat) (b : Int) : ∀ (k m i : Nat), i + m = a + 1 → pickP a (ptsL s (m + k) i) b = pickP a (ptsL s k (a + 1)) b
  | k, 0, i, h => by rw [Nat.zero_add, show i = a + 1 by omega]
  | k, m + 1, i, h => by
    rw [show m + 1 + k = (m + k) + 1 by omega, ptsL]
    split
    · rw [pickP, decide_eq_false (by omega), Bool.false_and, if_neg (by simp)]
      exact pick_skip s a b k m (i + 1) (by omega)
    · exact pick_skip s a b k m (i + 1) (by omega)

def encP1 (a : Nat) : Option Nat → Int
  | none => -1
  | some x => (a + x : Nat)

theorem isPt_drop (s : List Int) (a q : Nat) (h : 1 ≤ q) : isPt (s.drop a) q = isPt s (a + q) := by
  have e : ∀ j, (s.drop a).getD j 0 = s.getD (a + j) 0 := fun j => by
    rw [List.getD_eq_getElem?_getD, List.getElem?_drop, List.getD_eq_getElem?_getD]
  unfold isPt
  rw [e, e, show a + (q - 1) = a + q - 1 by omega]

theorem pick_scan (s : List Int) (a : Nat) : ∀ (k q : Nat) (best : Option Nat), 1 ≤ q → pickP a (ptsL s k (a + q)) (encP1 a best) = encP1 a (scan (s.drop a) k q best)
  | 0, q, best, _ => rfl
  | k + 1, q, best, h => by
    rw [ptsL, scan, isPt_drop s a q h]
    cases isPt s (a + q) with
    | false =>
      rw [if_neg (by simp), Bool.false_and, if_neg (by simp)]
      exact pick_scan s a k (q + 1) best (by omega)
    | true =>
      rw [if_pos rfl, pickP, decide_eq_true (show (((a + q : Nat) : Int) > (a : Int)) by omega), Bool.true_and, Bool.true_and]
      have e1 : decide (((a + q : Nat) : Int) - (a : Int) ≤ 78) = decide (q ≤ 78) := by simp only [decide_eq_decide]; omega
      have e2 : decide (encP1 a best < 0) = best.isNone := by
        cases best with
        | none => rfl
        | some x => exact decide_eq_false (show ¬ (((a + x : Nat) : Int) < 0) by omega)
      rw [e1, e2]
      split
      · exact pick_scan s a k (q + 1) (some q) (by omega)
      · exact pick_scan s a k (q + 1) best (by omega)

theorem seg_eq (s : List Int) (a b : Nat) : List.drop (Int.toNat (a : Int)) (List.take (Int.toNat (b : Int)) s) = (s.drop a).take (b - a) := by
  rw [Int.toNat_natCast, Int.toNat_natCast, List.drop_take]

theorem Folded_loop (s : List Int) (hb : s.length ≤ 4000000) (f0 : Nat) (h1 : 1 ≤ f0) : ∀ (n a f : Nat) (out : List (List Int)), s.length - a ≤ n → a < s.length → ((a = 0 ∧ f = f0) ∨ (f0 ≤ a ∧ f = 1)) → out.length + n ≤ 8000000 →
    ∃ out' a', ref1_Folded_L4 (pcL prog cfg) lpL ((s, ptsL s (s.length - f0) f0, out, (a : Int), ()), ()) = some ((s, out', ((a' : Nat) : Int), ()), ()) ∧ a' < s.length ∧ out'.length ≤ 8000000 ∧ out' ++ [s.drop a'] = out ++ linesF n (s.drop a) f := by
  intro n
  induction n with
  | zero => intro a f out hn ha; omega
  | succ n ih =>
    intro a f out hn ha hf ho
    have hne : s.drop a ≠ [] := fun e => by
      have := congrArg List.length e
      simp at this; omega
    have hw : IntKind.wrap .i64 (((s.length : Nat) : Int) - (a : Int)) = ((s.length - a : Nat) : Int) := by rw [wrap64 (by omega) (by omega)]; omega
    have hstop : ∀ (p : Nat), brk (s.drop a) f = (s.drop a).length → linesF (n + 1) (s.drop a) f = [s.drop a] := fun _ e => by
      rw [linesF, if_neg hne, e, List.take_length, List.drop_length]
      cases n <;> simp [linesF]
    have hlen : (s.drop a).length = s.length - a := List.length_drop
    by_cases h78 : s.length - a > 78
    · have hr : ∀ p ∈ ptsL s (s.length - f0) f0, 0 ≤ p ∧ p ≤ 4000000 := fun p hp => by
        have := ptsL_range s _ _ p hp; omega
      have hpl := ptsL_len s (s.length - f0) f0
      have hpick := pick_loop s (ptsL s (s.length - f0) f0) out a (by omega) hr (by omega) _ 0 (-1) rfl (by omega)
      rw [List.drop_zero] at hpick
      have hsc : pickP a (ptsL s (s.length - f0) f0) (-1) = encP1 a (scan (s.drop a) ((s.drop a).length - f) f none) := by
        rcases hf with ⟨e1, e2⟩ | ⟨h, e2⟩
        · subst e1
          rw [e2]
          have := pick_scan s 0 (s.length - f0) f0 none h1
          rw [Nat.zero_add] at this
          rw [List.drop_zero] at this ⊢
          exact this
        · subst e2
          rw [show s.length - f0 = (a + 1 - f0) + (s.length - (a + 1)) by omega, pick_skip s a (-1) (s.length - (a + 1)) (a + 1 - f0) f0 (by omega)]
          have := pick_scan s a (s.length - (a + 1)) 1 none (by omega)
          rw [hlen, show s.length - a - 1 = s.length - (a + 1) by omega]
          exact this
      rw [hsc] at hpick
      cases hsn : scan (s.drop a) ((s.drop a).length - f) f none with
      | none =>
        have hb' : brk (s.drop a) f = (s.drop a).length := by rw [brk, if_neg (by omega), hsn]; rfl
        rw [hsn] at hpick
        refine ⟨out, a, ref1_Folded_L4_of ?_, ha, by omega, by rw [hstop 0 hb']⟩
        unfold ref1_Folded_L4_R
        dsimp only
        rw [hw]
        refine (ifd_t (by simp only [decide_eq_true_eq]; omega)).trans ?_
        refine bnd1 hpick ?_
        exact ifd_t rfl
      | some p =>
        have hb' : brk (s.drop a) f = p := by rw [brk, if_neg (by omega), hsn]; rfl
        have hfp : 1 ≤ f := by omega
        have hrange : f ≤ p ∧ p < (s.drop a).length := by
          rcases scan_pt _ _ _ _ p hsn with q | ⟨q1, q2, _⟩
          · cases q
          · refine ⟨q1, ?_⟩
            by_cases hff : f ≤ (s.drop a).length
            · omega
            · omega
        rw [hsn] at hpick
        have henc : encP1 a (some p) = ((a + p : Nat) : Int) := rfl
        rw [henc] at hpick
        obtain ⟨out', a', g1, g2, g3, g4⟩ := ih (a + p) 1 (out ++ [(s.drop a).take p]) (by omega) (by omega) (by right; omega) (by simp; omega)
        refine ⟨out', a', ref1_Folded_L4_of ?_, g2, g3, ?_⟩
        · unfold ref1_Folded_L4_R
          dsimp only
          rw [hw]
          refine (ifd_t (by simp only [decide_eq_true_eq]; omega)).trans ?_
          refine bnd1 hpick ?_
          dsimp only
          rw [seg_eq, show a + p - a = p by omega]
          refine (ifd_f (by simp only [decide_eq_true_eq]; omega)).trans ?_
          refine (ifd_t (by simp only [decide_eq_true_eq]; omega)).trans ?_
          refine (ifd_t (by simp only [decide_eq_true_eq, List.length_cons, List.length_nil]; omega)).trans ?_
          exact g1
        · rw [g4, linesF, if_neg hne, hb', List.append_assoc, List.drop_drop]
          rfl
    · have hb' : brk (s.drop a) f = (s.drop a).length := by rw [brk, if_pos (by omega)]
      refine ⟨out, a, ref1_Folded_L4_of ?_, ha, by omega, by rw [hstop 0 hb']⟩
      unfold ref1_Folded_L4_R
      dsimp only
      rw [hw]
      exact ifd_f (by simp only [decide_eq_true_eq]; omega)

theorem Folded_spec (name value : List Int) (h : name.length + value.length ≤ 2000000) : ref1_Folded_c (pcL prog cfg) name value = some (linesL name value) := by
  refine ref1_Folded_of ?_
  unfold ref1_Folded_B linesL
  refine (ifd_t (by simp only [decide_eq_true_eq, List.length_cons, List.length_nil]; omega)).trans ?_
  refine (ifd_t (by simp only [decide_eq_true_eq, List.length_append, List.length_cons, List.length_nil]; omega)).trans ?_
  have hw : IntKind.wrap .i64 (((name.length : Nat) : Int) + 3) = ((name.length + 3 : Nat) : Int) := by rw [wrap64 (by omega) (by omega)]; omega
  rw [hw, List.append_assoc]
  have hsl : (name ++ ([58, 32] ++ value)).length = name.length + 2 + value.length := by simp; omega
  generalize hs : name ++ ([58, 32] ++ value) = s at *
  have hp := pts_loop s (by omega) (s.length - (name.length + 3)) (name.length + 3) [] rfl (by omega) (by simp; omega)
  refine bnd1 hp ?_
  dsimp only
  rw [List.nil_append]
  obtain ⟨out', a', g1, g2, g3, g4⟩ := Folded_loop s (by omega) (name.length + 3) (by omega) (name.length + 2 + value.length) 0 (name.length + 3) [] (by omega) (by omega) (.inl ⟨rfl, rfl⟩) (by simp; omega)
  refine bnd1 g1 ?_
  dsimp only
  rw [dropn]
  refine (ifd_t (by simp only [decide_eq_true_eq]; omega)).trans ?_
  refine (ifd_t (by simp only [decide_eq_true_eq, List.length_cons, List.length_nil]; omega)).trans ?_
  rw [g4, List.drop_zero]
  rfl

theorem Fault_loop (l : List (List Int)) (hb : l.length ≤ 4000000) : ∀ (k i : Nat), l.length - i = k → i ≤ l.length →
    ref1_FoldFault_L1 (pcL prog cfg) lpL (((), l, (i : Int), ()), ((0, 0, ()), ())) = some (match (l.drop i).findIdx? longB with
      | some j => Sum.inl (((), ()), ((1, ((i + j : Nat) : Int), ()), ()))
      | none => Sum.inr (((), ()), ((0, 0, ()), ()))) := by
  intro k
  induction k with
  | zero =>
    intro i hk hi
    refine ref1_FoldFault_L1_of ?_
    unfold ref1_FoldFault_L1_R
    dsimp only
    refine (ifd_f (by simp only [decide_eq_true_eq]; omega)).trans ?_
    rw [List.drop_eq_nil_of_le (by omega)]; rfl
  | succ k ih =>
    intro i hk hi
    refine ref1_FoldFault_L1_of ?_
    unfold ref1_FoldFault_L1_R
    dsimp only
    rw [nx (by omega), Int.toNat_natCast, getD_drop2 l i (by omega), List.findIdx?_cons]
    refine (ifd_t (by simp only [decide_eq_true_eq]; omega)).trans ?_
    refine (ifd_t (by simp only [decide_eq_true_eq]; omega)).trans ?_
    cases hl : longB (l.getD i []) with
    | true =>
      have : (l.getD i []).length > 998 := by simpa [longB] using hl
      refine (ifd_t (by simp only [decide_eq_true_eq]; omega)).trans ?_
      refine bnd2 (fAt_spec _ _) rfl ?_
      rfl
    | false =>
      have : ¬ (l.getD i []).length > 998 := by simpa [longB] using hl
      refine (ifd_f (by simp only [decide_eq_true_eq]; omega)).trans ?_
      rw [ih (i + 1) (by omega) (by omega)]
      cases (l.drop (i + 1)).findIdx? longB with
      | none => rfl
      | some j => simp only [Option.map_some, Bool.false_eq_true, if_false]; rw [show i + 1 + j = i + (j + 1) by omega]

/-- the fault of a field -/
def faultF (name value : List Int) : Int × (Int × Unit) :=
  if codeF name value ≠ 0 then (codeF name value, (-1, ())) else match (linesL name value).findIdx? longB with
    | some j => (1, ((j : Nat), ()))
    | none => (0, (0, ()))

theorem FoldFault_spec (name value : List Int) (hB : Bytes name) (h : name.length + value.length ≤ 2000000) : ref1_FoldFault_c (pcL prog cfg) name value = some (faultF name value) := by
  refine ref1_FoldFault_of ?_
  unfold ref1_FoldFault_B faultF
  have hc := FieldCode_spec name value hB (by omega) (by omega)
  refine bnd2 hc rfl ?_
  by_cases h0 : codeF name value = 0
  · rw [if_neg (by simp [h0])]
    refine (ifd_f (by simp [h0])).trans ?_
    refine bnd2 (Folded_spec name value h) rfl ?_
    have hl : (linesL name value).length ≤ name.length + 2 + value.length := linesF_len _ _ _
    have := Fault_loop (linesL name value) (by omega) _ 0 rfl (by omega)
    rw [List.drop_zero] at this
    refine bnd1 this ?_
    cases (linesL name value).findIdx? longB with
    | none => rfl
    | some j => dsimp only; rw [Nat.zero_add]; rfl
  · rw [if_pos h0]
    refine (ifd_t (by simpa using h0)).trans ?_
    refine bnd2 hc rfl ?_
    refine bnd2 (fAt_spec _ _) rfl ?_
    rfl

end Go.Proofs.YthhllkiefncbnaaDoorSim
