/- fold: what the program's functions compute. -/
import Derived.Test.YthhllkiefncbnaaDoorFolT
namespace Go.Proofs.YthhllkiefncbnaaDoorSim
open Go Go.Proofs
open Go.Proofs.Tryd (prog)
set_option linter.unusedVariables false
set_option linter.unusedSimpArgs false

theorem nx {i : Nat} (h : i ≤ 4000000000) : IntKind.wrap .i64 ((i : Int) + 1) = ((i + 1 : Nat) : Int) := by rw [wrap64 (by omega) (by omega)]; omega
theorem pv {i : Nat} (h : 1 ≤ i) (h' : i ≤ 4000000000) : IntKind.wrap .i64 ((i : Int) - 1) = ((i - 1 : Nat) : Int) := by rw [wrap64 (by omega) (by omega)]; omega

def okN (c : Int) : Bool := decide (33 ≤ c ∧ c ≤ 126) && !(c == 58)

theorem IsName_loop (s : List Int) (hb : s.length ≤ 4000000000) : ∀ (k i : Nat), s.length - i = k → i ≤ s.length →
    fold_IsName_L1 (pcL prog cfg) lpL ((s, (s.length : Nat), (i : Int), ()), ()) = some (if (s.drop i).all okN then Sum.inr ((s, ()), ()) else Sum.inl ((false, ()), ())) := by
  intro k
  induction k with
  | zero =>
    intro i hk hi
    refine fold_IsName_L1_of ?_
    unfold fold_IsName_L1_R
    dsimp only
    refine (ifd_f (by simp only [decide_eq_true_eq]; omega)).trans ?_
    rw [List.drop_eq_nil_of_le (by omega)]; rfl
  | succ k ih =>
    intro i hk hi
    refine fold_IsName_L1_of ?_
    unfold fold_IsName_L1_R
    dsimp only
    rw [nx (by omega), Int.toNat_natCast, drop_getD s i (by omega), List.all_cons]
    have hin : (decide (((0 : Int) ≤ (i : Int)) ∧ ((i : Int) < ((s.length : Nat) : Int)))) = true := by simp only [decide_eq_true_eq]; omega
    refine (ifd_t (by simp only [decide_eq_true_eq]; omega)).trans ?_
    refine (ifd_t hin).trans ?_
    generalize s.getD i 0 = c
    by_cases h1 : c ≤ 32
    · refine (ifd_t (decide_eq_true h1)).trans ?_
      refine (ifd_t (decide_eq_true h1)).trans ?_
      have : okN c = false := by unfold okN; rw [decide_eq_false (by omega)]; rfl
      rw [this]; rfl
    refine (ifd_f (by simpa using h1)).trans ?_
    refine (ifd_t hin).trans ?_
    refine (ifd_f (by simpa using h1)).trans ?_
    by_cases h2 : c > 126
    · refine (ifd_t (decide_eq_true h2)).trans ?_
      refine (ifd_t (decide_eq_true h2)).trans ?_
      have : okN c = false := by unfold okN; rw [decide_eq_false (by omega)]; rfl
      rw [this]; rfl
    refine (ifd_f (by simpa using h2)).trans ?_
    refine (ifd_t hin).trans ?_
    refine (ifd_f (by simpa using h2)).trans ?_
    by_cases h3 : c = 58
    · refine (ifd_t (by simpa using h3)).trans ?_
      have : okN c = false := by unfold okN; rw [h3]; simp
      rw [this]; rfl
    · refine (ifd_f (by simpa using h3)).trans ?_
      have : okN c = true := by
        unfold okN
        rw [decide_eq_true (by omega), Bool.true_and]
        simpa using h3
      rw [ih (i + 1) (by omega) (by omega), this, Bool.true_and]

theorem IsName_spec (s : List Int) (hb : s.length ≤ 4000000000) : fold_IsName_c (pcL prog cfg) s = some (nameOk s) := by
  refine fold_IsName_of ?_
  unfold fold_IsName_B
  refine bnd1 (IsName_loop s hb _ 0 rfl (by omega)) ?_
  rw [List.drop_zero]
  unfold nameOk
  change Sum.elim _ _ (if s.all okN = true then _ else _) = some (s.all okN && _)
  cases s.all okN with
  | false => rfl
  | true =>
    rw [if_pos rfl, Sum.elim_inr, Bool.true_and]
    dsimp only
    by_cases h : ((s.length : Nat) : Int) ≥ 1
    · refine (ifd_t (decide_eq_true h)).trans ?_
      refine (ifd_t (decide_eq_true h)).trans ?_
      congr 1
      simp only [decide_eq_decide]; omega
    · refine (ifd_f (by simpa using h)).trans ?_
      refine (ifd_f (by simpa using h)).trans ?_
      rw [decide_eq_false (by omega)]

def codeF (name value : List Int) : Int :=
  if nameOk name = false then 10 else if value.length > 4000 then 1 else if value.any badB then 11 else if trimB value = value then 0 else 11

theorem Check_spec (name value : List Int) (hB : Bytes value) (hn : name.length ≤ 4000000000) (hv : value.length ≤ 4000000000) : fold_Check_c (pcL prog cfg) name value = some (codeF name value) := by
  refine fold_Check_of ?_
  unfold fold_Check_B codeF
  refine bnd2 (IsName_spec name hn) rfl ?_
  cases nameOk name with
  | false => exact ifd_t rfl
  | true =>
    refine (ifd_f (by simp)).trans ?_
    rw [if_neg (by simp)]
    by_cases h : value.length > 4000
    · rw [if_pos h]
      exact ifd_t (by simp only [decide_eq_true_eq]; omega)
    rw [if_neg h]
    refine (ifd_f (by simp only [decide_eq_true_eq]; omega)).trans ?_
    refine bnd2 (ContainsAny_spec value hB hv) rfl ?_
    cases value.any badB with
    | true => exact (ifd_t rfl).trans (ifd_t rfl)
    | false =>
      refine (ifd_f (by simp)).trans ?_
      refine bnd2 (strTrim_spec value hB hv) rfl ?_
      refine (ifd_f (by simp)).trans ?_
      rw [if_neg (by simp)]
      by_cases ht : trimB value = value
      · rw [if_pos ht]
        exact ifd_f (by simp [ht])
      · rw [if_neg ht]
        exact ifd_t (by simp [ht])

theorem isBlank_spec (c : Int) : fold_isBlank_c (pcL prog cfg) c = some (blankB c) := by
  refine fold_isBlank_of ?_
  unfold fold_isBlank_B blankB
  generalize (c == 32) = x
  cases x <;> rfl

theorem cut_loop (s : List Int) (hb : s.length ≤ 4000000) : ∀ (k i : Nat) (best : Option Nat), s.length - i = k → 1 ≤ i → (∀ b, best = some b → b < i) →
    fold_cut_L2 (pcL prog cfg) lpL ((s, ((best.getD s.length : Nat) : Int), (i : Int), ()), ()) = some (((((scan s k i best).getD s.length : Nat) : Int), ()), ()) := by
  intro k
  induction k with
  | zero =>
    intro i best hk hi hbe
    refine fold_cut_L2_of ?_
    unfold fold_cut_L2_R
    dsimp only
    exact ifd_f (by simp only [decide_eq_true_eq]; omega)
  | succ k ih =>
    intro i best hk hi hbe
    have hlt : i < s.length := by omega
    refine fold_cut_L2_of ?_
    unfold fold_cut_L2_R
    dsimp only
    refine (ifd_t (by simp only [decide_eq_true_eq]; omega)).trans ?_
    have c1 : fold_cut_C1 (pcL prog cfg) lpL ((s, ((best.getD s.length : Nat) : Int), (i : Int), ()), ()) = some ((s, ((best.getD s.length : Nat) : Int), (i : Int), !isPt s i, ()), ()) := by
      unfold fold_cut_C1
      dsimp only
      rw [pv hi (by omega), Int.toNat_natCast, Int.toNat_natCast]
      refine (ifd_t (by simp only [decide_eq_true_eq]; omega)).trans ?_
      refine bnd2 (isBlank_spec _) rfl ?_
      unfold isPt
      cases blankB (s.getD i 0) with
      | false => exact (ifd_t rfl).trans (ifd_t rfl)
      | true =>
        refine (ifd_f (by simp)).trans ?_
        refine (ifd_t (by simp only [decide_eq_true_eq]; omega)).trans ?_
        refine bnd2 (isBlank_spec _) rfl ?_
        refine (ifd_f (by simp)).trans ?_
        cases blankB (s.getD (i - 1) 0) <;> rfl
    refine bnd1 c1 ?_
    dsimp only
    rw [nx (by omega), scan]
    have hbest : best.getD s.length < i ∨ best = none := by
      cases best with
      | none => exact .inr rfl
      | some b => exact .inl (hbe b rfl)
    cases hp : isPt s i with
    | false =>
      refine (ifd_t rfl).trans ?_
      rw [Bool.false_and, if_neg (by simp)]
      exact ih (i + 1) best (by omega) (by omega) (fun b e => by have := hbe b e; omega)
    | true =>
      refine (ifd_f (by simp)).trans ?_
      rw [Bool.true_and]
      by_cases h78 : i ≤ 78
      · refine (ifd_t (by simp only [decide_eq_true_eq]; omega)).trans ?_
        refine (ifd_t (by simp only [decide_eq_true_eq]; omega)).trans ?_
        refine (ifd_f (by simp only [decide_eq_true_eq]; omega)).trans ?_
        rw [if_pos (by rw [decide_eq_true h78]; rfl)]
        exact ih (i + 1) (some i) (by omega) (by omega) (fun b e => by cases e; omega)
      · refine (ifd_f (by simp only [decide_eq_true_eq]; omega)).trans ?_
        refine (ifd_f (by simp only [decide_eq_true_eq]; omega)).trans ?_
        rw [decide_eq_false h78, Bool.false_or]
        cases best with
        | none =>
          refine (ifd_t (by simp)).trans ?_
          refine (ifd_t (by simp only [decide_eq_true_eq]; omega)).trans ?_
          rw [show (if (none : Option Nat).isNone = true then some i else none) = some i from rfl, scan_late s k (i + 1) i (by omega)]
          rfl
        | some b =>
          have := hbe b rfl
          refine (ifd_f (by simp; omega)).trans ?_
          refine (ifd_t (by simp only [decide_eq_true_eq]; omega)).trans ?_
          rw [if_neg (by simp), scan_late s k (i + 1) b (by omega)]

theorem cut_spec (s : List Int) (from_ : Nat) (hb : s.length ≤ 4000000) (h1 : 1 ≤ from_) : fold_cut_c (pcL prog cfg) s from_ = some ((brk s from_ : Nat) : Int) := by
  refine fold_cut_of ?_
  unfold fold_cut_B brk
  by_cases h : s.length ≤ 78
  · rw [if_pos h]
    exact ifd_t (by simp only [decide_eq_true_eq]; omega)
  rw [if_neg h]
  refine (ifd_f (by simp only [decide_eq_true_eq]; omega)).trans ?_
  exact bnd1 (cut_loop s hb _ from_ none rfl h1 (fun b e => by cases e)) rfl

theorem dropn (s : List Int) (n : Nat) : List.drop (Int.toNat (n : Int)) (List.take (Int.toNat ((s.length : Nat) : Int)) s) = s.drop n := by
  rw [Int.toNat_natCast, Int.toNat_natCast, List.take_length]
theorem taken (s : List Int) (n : Nat) : List.drop (Int.toNat 0) (List.take (Int.toNat (n : Int)) s) = s.take n := by
  rw [Int.toNat_natCast]; rfl

theorem Lines_loop : ∀ (n : Nat) (s : List Int) (f : Nat) (out : List (List Int)), s.length ≤ n → n ≤ 4000000 → 1 ≤ f → f ≤ 4000000 → out.length + n ≤ 8000000 →
    fold_Lines_L1 (pcL prog cfg) lpL ((s, out, (f : Int), ()), ()) = some ((out ++ linesF n s f, ()), ()) := by
  intro n
  induction n with
  | zero =>
    intro s f out hs hn h1 h2 ho
    have : s = [] := List.eq_nil_of_length_eq_zero (by omega)
    subst this
    refine fold_Lines_L1_of ?_
    unfold fold_Lines_L1_R
    dsimp only
    refine (ifd_f (by simp)).trans ?_
    simp [linesF]
  | succ n ih =>
    intro s f out hs hn h1 h2 ho
    refine fold_Lines_L1_of ?_
    unfold fold_Lines_L1_R
    dsimp only
    rw [linesF]
    by_cases h0 : s = []
    · subst h0
      refine (ifd_f (by simp)).trans ?_
      simp
    · refine (ifd_t (by simpa using h0)).trans ?_
      have hp := brk_pos s f h1 h0
      refine bnd2 (cut_spec s f (by omega) h1) rfl ?_
      rw [dropn, taken, if_neg h0]
      refine (ifd_t (by simp only [decide_eq_true_eq]; omega)).trans ?_
      refine (ifd_t (by simp only [decide_eq_true_eq, List.length_cons, List.length_nil]; omega)).trans ?_
      refine (ifd_t (by simp only [decide_eq_true_eq]; omega)).trans ?_
      have := ih (s.drop (brk s f)) 1 (out ++ [s.take (brk s f)]) (by rw [List.length_drop]; omega) (by omega) (by omega) (by omega) (by simp; omega)
      rw [List.append_assoc] at this
      exact this

theorem Lines_spec (name value : List Int) (h : name.length + value.length ≤ 2000000) : fold_Lines_c (pcL prog cfg) name value = some (linesL name value) := by
  refine fold_Lines_of ?_
  unfold fold_Lines_B linesL
  refine (ifd_t (by simp only [decide_eq_true_eq, List.length_cons, List.length_nil]; omega)).trans ?_
  refine (ifd_t (by simp only [decide_eq_true_eq, List.length_append, List.length_cons, List.length_nil]; omega)).trans ?_
  have hw : IntKind.wrap .i64 (((name.length : Nat) : Int) + 3) = ((name.length + 3 : Nat) : Int) := by rw [wrap64 (by omega) (by omega)]; omega
  rw [hw, List.append_assoc]
  exact bnd1 (Lines_loop (name.length + 2 + value.length) _ _ [] (by simp; omega) (by omega) (by omega) (by omega) (by simp; omega)) rfl

def longB (l : List Int) : Bool := decide (l.length > 998)

theorem getD_drop2 (l : List (List Int)) (i : Nat) (h : i < l.length) : l.drop i = l.getD i [] :: l.drop (i + 1) := by
  rw [List.drop_eq_getElem_cons h, List.getD_eq_getElem?_getD, List.getElem?_eq_getElem h]
  rfl

theorem Fold_loop (l : List (List Int)) (hb : l.length ≤ 4000000) : ∀ (k i : Nat), l.length - i = k → i ≤ l.length →
    fold_Fold_L1 (pcL prog cfg) lpL (((), l, l, (l.length : Nat), (i : Int), ()), ((0, 0, ()), ())) = some (match (l.drop i).findIdx? longB with
      | some j => Sum.inl (((), (), ()), ((1, ((i + j : Nat) : Int), ()), ()))
      | none => Sum.inr (((), l, ()), ((0, 0, ()), ()))) := by
  intro k
  induction k with
  | zero =>
    intro i hk hi
    refine fold_Fold_L1_of ?_
    unfold fold_Fold_L1_R
    dsimp only
    refine (ifd_f (by simp only [decide_eq_true_eq]; omega)).trans ?_
    rw [List.drop_eq_nil_of_le (by omega)]; rfl
  | succ k ih =>
    intro i hk hi
    refine fold_Fold_L1_of ?_
    unfold fold_Fold_L1_R
    dsimp only
    rw [nx (by omega), Int.toNat_natCast, getD_drop2 l i (by omega), List.findIdx?_cons]
    refine (ifd_t (by simp only [decide_eq_true_eq]; omega)).trans ?_
    refine (ifd_t (by simp only [decide_eq_true_eq]; omega)).trans ?_
    cases hl : longB (l.getD i []) with
    | true =>
      have : (l.getD i []).length > 998 := by simpa [longB] using hl
      refine (ifd_t (by simp only [decide_eq_true_eq]; omega)).trans ?_
      rfl
    | false =>
      have : ¬ (l.getD i []).length > 998 := by simpa [longB] using hl
      refine (ifd_f (by simp only [decide_eq_true_eq]; omega)).trans ?_
      rw [ih (i + 1) (by omega) (by omega)]
      cases (l.drop (i + 1)).findIdx? longB with
      | none => rfl
      | some j => simp only [Option.map_some, Bool.false_eq_true, if_false]; rw [show i + 1 + j = i + (j + 1) by omega]

def foldV (name value : List Int) : List (List Int) × ((Int × (Int × Unit)) × Unit) :=
  if codeF name value ≠ 0 then ([], ((codeF name value, (-1, ())), ())) else match (linesL name value).findIdx? longB with
    | some j => ([], ((1, ((j : Nat) : Int), ()), ()))
    | none => (linesL name value, ((0, (0, ())), ()))

theorem Fold_spec (name value : List Int) (hB : Bytes value) (h : name.length + value.length ≤ 2000000) : fold_Fold_c (pcL prog cfg) name value = some (foldV name value) := by
  refine fold_Fold_of ?_
  unfold fold_Fold_B foldV
  refine bnd2 (Check_spec name value hB (by omega) (by omega)) rfl ?_
  by_cases hc : codeF name value = 0
  · rw [if_neg (by simp [hc])]
    refine (ifd_f (by simp [hc])).trans ?_
    refine bnd2 (Lines_spec name value h) rfl ?_
    have hl : (linesL name value).length ≤ name.length + 2 + value.length := linesF_len _ _ _
    have := Fold_loop (linesL name value) (by omega) _ 0 rfl (by omega)
    rw [List.drop_zero] at this
    refine bnd1 this ?_
    cases (linesL name value).findIdx? longB with
    | none => rfl
    | some j => dsimp only; rw [Nat.zero_add]; rfl
  · rw [if_pos hc]
    exact ifd_t (by simpa using hc)

/-! ### Unfolding -/
theorem joinL_flat (l : List (List Int)) : joinL l [] = l.flatten := by
  unfold joinL
  induction l with
  | nil => rfl
  | cons a r ih =>
    cases r with
    | nil => rfl
    | cons b r =>
      have : List.intersperse [] (a :: b :: r) = a :: [] :: List.intersperse [] (b :: r) := rfl
      rw [this, List.flatten_cons, List.flatten_cons, ih]
      simp

def joinV (t : List Int) : List Int × (List Int × (Bool × Unit)) :=
  if colon t < 0 then (t, ([], (false, ()))) else (t.take (colon t).toNat, (trimB (t.drop ((colon t).toNat + 1)), (nameOk (t.take (colon t).toNat), ())))

theorem Join_spec (l : List (List Int)) (hB : Bytes l.flatten) (h1 : l.flatten.length ≤ 2000000) (h2 : l.length ≤ 2000000) : fold_Join_c (pcL prog cfg) l = some (joinV l.flatten) := by
  refine fold_Join_of ?_
  unfold fold_Join_B joinV
  rw [joinL_flat]
  refine (ifd_t (by simp only [decide_eq_true_eq]; omega)).trans ?_
  refine bnd2 (Cut_spec _ (by omega)) rfl ?_
  by_cases hc : colon l.flatten < 0
  · simp only [if_pos hc]
    refine bnd2 (strTrim_spec [] Bytes.nil (by simp)) rfl ?_
    refine (ifd_f (by simp)).trans ?_
    refine (ifd_f (by simp)).trans ?_
    rfl
  · simp only [if_neg hc]
    refine bnd2 (strTrim_spec _ (hB.drop _) (by rw [List.length_drop]; omega)) rfl ?_
    refine (ifd_t (by trivial)).trans ?_
    refine bnd2 (IsName_spec _ (by rw [List.length_take]; omega)) rfl ?_
    exact ifd_t (by trivial)

/-- a line that may not stand where it stands -/
def badL (l : List (List Int)) (i : Nat) : Bool := (l.getD i []).any badB || (decide (0 < i) && (trimL (l.getD i []) == l.getD i []))

def firstBad (l : List (List Int)) : Nat → Nat → Option Nat
  | 0, _ => none
  | k + 1, i => if badL l i then some i else firstBad l k (i + 1)

theorem flat_take (l : List (List Int)) (i : Nat) (h : i < l.length) : ((l.take (i + 1)).flatten).length = (l.take i).flatten.length + (l.getD i []).length := by
  rw [List.take_add_one, List.flatten_append, List.length_append, List.getD_eq_getElem?_getD, List.getElem?_eq_getElem h]
  simp

theorem flat_le (l : List (List Int)) (i : Nat) : ((l.take i).flatten).length ≤ l.flatten.length := by
  have : l.flatten = (l.take i).flatten ++ (l.drop i).flatten := by rw [← List.flatten_append, List.take_append_drop]
  rw [this, List.length_append]; omega

theorem mem_bytes {l : List (List Int)} (hB : Bytes l.flatten) (i : Nat) : Bytes (l.getD i []) := by
  rw [List.getD_eq_getElem?_getD]
  cases h : l[i]? with
  | none => exact Bytes.nil
  | some x =>
    intro c hc
    refine hB c ?_
    rw [List.mem_flatten]
    exact ⟨x, List.mem_of_getElem? h, hc⟩

theorem Unfold_loop (l : List (List Int)) (hB : Bytes l.flatten) (h1 : l.flatten.length ≤ 2000000) (h2 : l.length ≤ 2000000) : ∀ (k i : Nat), l.length - i = k → i ≤ l.length →
    fold_Unfold_L1 (pcL prog cfg) lpL ((l, (), (((l.take i).flatten.length : Nat) : Int), l, (l.length : Nat), (i : Int), ()), ((0, 0, ()), ())) = some (match firstBad l k i with
      | some j => Sum.inl (([], [], (), ()), ((11, (j : Nat), ()), ()))
      | none => Sum.inr ((l, (), ((l.flatten.length : Nat) : Int), ()), ((0, 0, ()), ()))) := by
  intro k
  induction k with
  | zero =>
    intro i hk hi
    refine fold_Unfold_L1_of ?_
    unfold fold_Unfold_L1_R
    dsimp only
    refine (ifd_f (by simp only [decide_eq_true_eq]; omega)).trans ?_
    rw [List.take_of_length_le (by omega)]; rfl
  | succ k ih =>
    intro i hk hi
    have hlt : i < l.length := by omega
    have hf := flat_take l i hlt
    have hle := flat_le l (i + 1)
    have hBi := mem_bytes hB i
    have hw : IntKind.wrap .i64 ((((l.take i).flatten.length : Nat) : Int) + (((l.getD i []).length : Nat) : Int)) = (((l.take (i + 1)).flatten.length : Nat) : Int) := by rw [wrap64 (by omega) (by omega)]; omega
    have ih := ih (i + 1) (by omega) (by omega)
    refine fold_Unfold_L1_of ?_
    unfold fold_Unfold_L1_R
    dsimp only
    rw [nx (by omega), Int.toNat_natCast, hw, firstBad]
    refine (ifd_t (by simp only [decide_eq_true_eq]; omega)).trans ?_
    refine (ifd_t (by simp only [decide_eq_true_eq]; omega)).trans ?_
    refine bnd2 (ContainsAny_spec _ hBi (by omega)) rfl ?_
    unfold badL
    cases (l.getD i []).any badB with
    | true => rfl
    | false =>
      refine (ifd_f (by simp)).trans ?_
      by_cases hi0 : 0 < i
      · refine (ifd_t (by simp only [decide_eq_true_eq]; omega)).trans ?_
        refine bnd2 (strTrimLeft_spec _ hBi) rfl ?_
        refine (ifd_f (by simp)).trans ?_
        refine (ifd_t (by simp only [decide_eq_true_eq]; omega)).trans ?_
        refine (ifd_f (by simp)).trans ?_
        rw [decide_eq_true hi0]
        cases (trimL (l.getD i []) == l.getD i []) with
        | true => rfl
        | false => exact ih
      · refine (ifd_f (by simp only [decide_eq_true_eq]; omega)).trans ?_
        refine (ifd_f (by simp)).trans ?_
        refine (ifd_f (by simp only [decide_eq_true_eq]; omega)).trans ?_
        refine (ifd_f (by simp)).trans ?_
        rw [decide_eq_false hi0]
        exact ih

abbrev UV := List Int × (List Int × ((Int × (Int × Unit)) × Unit))
def uFault (c i : Int) : UV := ([], ([], ((c, (i, ())), ())))
def unfoldV (l : List (List Int)) : UV :=
  if l.length > 300 then uFault 2 (-1) else match firstBad l l.length 0 with
    | some j => uFault 11 (j : Nat)
    | none => if l.flatten.length > 8000 then uFault 1 (-1) else if (joinV l.flatten).2.2.1 = false then uFault 11 (-2)
      else if (joinV l.flatten).2.1.length > 4000 then uFault 1 (-1) else ((joinV l.flatten).1, ((joinV l.flatten).2.1, ((0, (0, ())), ())))

theorem Unfold_spec (l : List (List Int)) (hB : Bytes l.flatten) (h1 : l.flatten.length ≤ 2000000) (h2 : l.length ≤ 2000000) : fold_Unfold_c (pcL prog cfg) l = some (unfoldV l) := by
  refine fold_Unfold_of ?_
  unfold fold_Unfold_B unfoldV
  by_cases h300 : l.length > 300
  · rw [if_pos h300]
    exact ifd_t (by simp only [decide_eq_true_eq]; omega)
  rw [if_neg h300]
  refine (ifd_f (by simp only [decide_eq_true_eq]; omega)).trans ?_
  have hl := Unfold_loop l hB h1 h2 _ 0 rfl (by omega)
  rw [Nat.sub_zero] at hl
  refine bnd1 hl ?_
  cases firstBad l l.length 0 with
  | some j => rfl
  | none =>
    dsimp only
    rw [Sum.elim_inr]
    refine bnd2 (Join_spec l hB h1 h2) rfl ?_
    by_cases h8 : l.flatten.length > 8000
    · rw [if_pos h8]
      exact ifd_t (by simp only [decide_eq_true_eq]; omega)
    rw [if_neg h8]
    refine (ifd_f (by simp only [decide_eq_true_eq]; omega)).trans ?_
    dsimp only
    cases (joinV l.flatten).2.2.1 with
    | false => exact ifd_t rfl
    | true =>
      refine (ifd_f (by simp)).trans ?_
      rw [if_neg (by simp)]
      by_cases h4 : (joinV l.flatten).2.1.length > 4000
      · rw [if_pos h4]
        exact ifd_t (by simp only [decide_eq_true_eq]; omega)
      · rw [if_neg h4]
        exact ifd_f (by simp only [decide_eq_true_eq]; omega)

end Go.Proofs.YthhllkiefncbnaaDoorSim
