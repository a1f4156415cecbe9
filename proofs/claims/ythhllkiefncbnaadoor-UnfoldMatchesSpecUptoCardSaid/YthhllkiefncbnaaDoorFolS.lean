/- fold: what the library's functions on strings compute: Trim, TrimLeft, ContainsAny, Cut. -/
import Derived.Test.YthhllkiefncbnaaDoorFolP
import Derived.Test.YthhllkiefncbnaaDoorUtfT
import Derived.Test.YthhllkiefncbnaaDoorGen1
namespace Go.Proofs.YthhllkiefncbnaaDoorSim
open Go Go.Proofs
open Go.Proofs.Tryd (prog)
set_option linter.unusedVariables false
set_option linter.unusedSimpArgs false

/-! ### Sets of ASCII characters -/
def setOf : List Int → List Bool
  | [] => List.replicate 256 false
  | c :: r => (setOf r).set c.toNat true

theorem setOf_len : ∀ l : List Int, (setOf l).length = 256
  | [] => by rw [setOf]; exact List.length_replicate
  | c :: r => by rw [setOf, List.length_set]; exact setOf_len r

theorem setOf_get (c : Int) (hc : 0 ≤ c ∧ c ≤ 255) : ∀ l : List Int, (∀ x ∈ l, 0 ≤ x) → (setOf l).getD c.toNat false = l.contains c
  | [], _ => by
    rw [setOf, List.getD_eq_getElem?_getD, List.getElem?_replicate]
    split <;> rfl
  | x :: r, h => by
    have ih := setOf_get c hc r (fun y hy => h y (by simp [hy]))
    have hl := setOf_len r
    have hx := h x (by simp)
    rw [setOf, List.getD_eq_getElem?_getD, List.getElem?_set, List.contains_cons]
    by_cases e : x.toNat = c.toNat
    · have : c = x := by omega
      rw [if_pos e, if_pos (by omega)]
      simp [this]
    · have : (c == x) = false := by
        rw [beq_eq_false_iff_ne]; intro q; exact e (by rw [q])
      rw [if_neg e, this, Bool.false_or, ← ih, List.getD_eq_getElem?_getD]

theorem row_all (l : List Int) : getRow (setOf l) false 0 256 = setOf l := getRow_all (setOf_len l)

theorem Trim_set : strings_Trim_L3 (pcL prog cfg) lpL (([32, 9], (), 0, ()), (setOf [], ())) = some (Sum.inr (((), ()), (setOf [9, 32], ()))) := by
  refine strings_Trim_L3_of ?_
  unfold strings_Trim_L3_R
  dsimp only
  refine (ifd_t (by decide)).trans ?_
  refine (ifd_t (by decide)).trans ?_
  refine (ifd_f (by decide)).trans ?_
  refine (ifd_t (by rw [setOf_len]; decide)).trans ?_
  refine (ifd_t (by rw [setOf_len]; decide)).trans ?_
  refine Eq.trans (show _ = strings_Trim_L3 (pcL prog cfg) lpL (([32, 9], (), 1, ()), (setOf [32], ())) from rfl) ?_
  refine strings_Trim_L3_of ?_
  unfold strings_Trim_L3_R
  dsimp only
  refine (ifd_t (by decide)).trans ?_
  refine (ifd_t (by decide)).trans ?_
  refine (ifd_f (by decide)).trans ?_
  refine (ifd_t (by rw [setOf_len]; decide)).trans ?_
  refine (ifd_t (by rw [setOf_len]; decide)).trans ?_
  refine Eq.trans (show _ = strings_Trim_L3 (pcL prog cfg) lpL (([32, 9], (), 2, ()), (setOf [9, 32], ())) from rfl) ?_
  refine strings_Trim_L3_of ?_
  unfold strings_Trim_L3_R
  dsimp only
  refine (ifd_f (by decide)).trans ?_
  rfl

theorem TrimLeft_set : strings_TrimLeft_L3 (pcL prog cfg) lpL (([32, 9], (), 0, ()), (setOf [], ())) = some (Sum.inr (((), ()), (setOf [9, 32], ()))) := by
  refine strings_TrimLeft_L3_of ?_
  unfold strings_TrimLeft_L3_R
  dsimp only
  refine (ifd_t (by decide)).trans ?_
  refine (ifd_t (by decide)).trans ?_
  refine (ifd_f (by decide)).trans ?_
  refine (ifd_t (by rw [setOf_len]; decide)).trans ?_
  refine (ifd_t (by rw [setOf_len]; decide)).trans ?_
  refine Eq.trans (show _ = strings_TrimLeft_L3 (pcL prog cfg) lpL (([32, 9], (), 1, ()), (setOf [32], ())) from rfl) ?_
  refine strings_TrimLeft_L3_of ?_
  unfold strings_TrimLeft_L3_R
  dsimp only
  refine (ifd_t (by decide)).trans ?_
  refine (ifd_t (by decide)).trans ?_
  refine (ifd_f (by decide)).trans ?_
  refine (ifd_t (by rw [setOf_len]; decide)).trans ?_
  refine (ifd_t (by rw [setOf_len]; decide)).trans ?_
  refine Eq.trans (show _ = strings_TrimLeft_L3 (pcL prog cfg) lpL (([32, 9], (), 2, ()), (setOf [9, 32], ())) from rfl) ?_
  refine strings_TrimLeft_L3_of ?_
  unfold strings_TrimLeft_L3_R
  dsimp only
  refine (ifd_f (by decide)).trans ?_
  rfl

theorem set_blank {c : Int} (hc : 0 ≤ c ∧ c ≤ 255) : (setOf [9, 32]).getD c.toNat false = blankB c := by
  rw [setOf_get c hc [9, 32] (by simp)]
  simp only [List.contains_cons, List.contains_nil, blankB, Bool.or_false]
  exact Bool.or_comm _ _

theorem head0 (c : Int) (r : List Int) : (c :: r).getD (Int.toNat 0) 0 = c := rfl
theorem drop1 (c : Int) (r : List Int) : List.drop (Int.toNat 1) (List.take (Int.toNat (((c :: r).length : Nat) : Int)) (c :: r)) = r := by
  rw [Int.toNat_natCast, List.take_length]; rfl

theorem Trim_left (T : List Bool) (hT : T.length = 256) (hb : ∀ c : Int, 0 ≤ c ∧ c ≤ 255 → T.getD c.toNat false = blankB c) (U : List Bool) : ∀ s : List Int, Bytes s →
    strings_Trim_L7 (pcL prog cfg) lpL ((s, (), ()), (U, T, ())) = some ((trimL s, ()), (U, T, ()))
  | [], _ => by
    refine strings_Trim_L7_of ?_
    unfold strings_Trim_L7_R
    dsimp only
    exact ifd_f (by simp)
  | c :: r, hB => by
    refine strings_Trim_L7_of ?_
    unfold strings_Trim_L7_R
    dsimp only
    have hc := hB.head
    rw [head0, hb c hc, drop1]
    refine (ifd_t (by simp only [decide_eq_true_eq, List.length_cons]; omega)).trans ?_
    refine (ifd_t (by simp only [decide_eq_true_eq, List.length_cons]; omega)).trans ?_
    refine (ifd_t (by rw [hT]; simp; omega)).trans ?_
    refine (ifd_t (by simp only [decide_eq_true_eq]; omega)).trans ?_
    rw [trimL]
    cases h : blankB c with
    | true =>
      refine (ifd_f (by simp)).trans ?_
      refine (ifd_t (by simp only [decide_eq_true_eq, List.length_cons]; omega)).trans ?_
      rw [Trim_left T hT hb U r hB.tail, if_pos rfl]
    | false =>
      refine (ifd_t rfl).trans ?_
      rw [if_neg (by simp)]

theorem TrimLeft_left (T : List Bool) (hT : T.length = 256) (hb : ∀ c : Int, 0 ≤ c ∧ c ≤ 255 → T.getD c.toNat false = blankB c) (U : List Bool) : ∀ s : List Int, Bytes s →
    strings_TrimLeft_L5 (pcL prog cfg) lpL ((s, (), ()), (U, T, ())) = some ((trimL s, ()), (U, T, ()))
  | [], _ => by
    refine strings_TrimLeft_L5_of ?_
    unfold strings_TrimLeft_L5_R
    dsimp only
    exact ifd_f (by simp)
  | c :: r, hB => by
    refine strings_TrimLeft_L5_of ?_
    unfold strings_TrimLeft_L5_R
    dsimp only
    have hc := hB.head
    rw [head0, hb c hc, drop1]
    refine (ifd_t (by simp only [decide_eq_true_eq, List.length_cons]; omega)).trans ?_
    refine (ifd_t (by simp only [decide_eq_true_eq, List.length_cons]; omega)).trans ?_
    refine (ifd_t (by rw [hT]; simp; omega)).trans ?_
    refine (ifd_t (by simp only [decide_eq_true_eq]; omega)).trans ?_
    rw [trimL]
    cases h : blankB c with
    | true =>
      refine (ifd_f (by simp)).trans ?_
      refine (ifd_t (by simp only [decide_eq_true_eq, List.length_cons]; omega)).trans ?_
      rw [TrimLeft_left T hT hb U r hB.tail, if_pos rfl]
    | false =>
      refine (ifd_t rfl).trans ?_
      rw [if_neg (by simp)]

theorem trimR_snoc (s : List Int) (c : Int) : trimR (s ++ [c]) = if blankB c then trimR s else s ++ [c] := by
  unfold trimR
  rw [List.reverse_append, List.reverse_singleton, List.singleton_append, trimL]
  split
  · rfl
  · simp

theorem Trim_right (T : List Bool) (hT : T.length = 256) (hb : ∀ c : Int, 0 ≤ c ∧ c ≤ 255 → T.getD c.toNat false = blankB c) (U : List Bool) : ∀ (k : Nat) (s : List Int), s.length = k → k ≤ 4000000000 → Bytes s →
    strings_Trim_L6 (pcL prog cfg) lpL ((s, (), ()), (U, T, ())) = some ((trimR s, ()), (U, T, ())) := by
  intro k
  induction k with
  | zero =>
    intro s hs _ _
    have : s = [] := List.eq_nil_of_length_eq_zero hs
    subst this
    refine strings_Trim_L6_of ?_
    unfold strings_Trim_L6_R
    dsimp only
    exact ifd_f (by simp)
  | succ k ih =>
    intro s hs hk hB
    obtain ⟨q, c, rfl⟩ : ∃ q c, s = q ++ [c] := ⟨s.dropLast, s.getLast (by intro e; rw [e] at hs; cases hs), (List.dropLast_concat_getLast _).symm⟩
    have hq : q.length = k := by simp at hs; omega
    refine strings_Trim_L6_of ?_
    unfold strings_Trim_L6_R
    dsimp only
    have hl : (q ++ [c]).length = k + 1 := hs
    have hw : IntKind.wrap .i64 (((q ++ [c]).length : Nat) - 1 : Int) = (k : Int) := by rw [hl, wrap64 (by omega) (by omega)]; omega
    have hg : (q ++ [c]).getD k 0 = c := by rw [← hq]; simp
    have hc := hB c (by simp)
    have htk : List.drop (Int.toNat 0) (List.take k (q ++ [c])) = q := by rw [← hq]; simp
    rw [hw, Int.toNat_natCast, hg, hb c hc, htk, hl]
    refine (ifd_t (by simp only [decide_eq_true_eq]; omega)).trans ?_
    refine (ifd_t (by simp only [decide_eq_true_eq]; omega)).trans ?_
    refine (ifd_t (by simp [hT]; omega)).trans ?_
    refine (ifd_t (by simp only [decide_eq_true_eq]; omega)).trans ?_
    rw [trimR_snoc]
    cases h : blankB c with
    | true =>
      refine (ifd_f (by simp)).trans ?_
      refine (ifd_t (by simp only [decide_eq_true_eq]; omega)).trans ?_
      rw [ih q hq (by omega) hB.left, if_pos rfl]
    | false =>
      refine (ifd_t rfl).trans ?_
      rw [if_neg (by simp)]

theorem trimR_bytes {s : List Int} (h : Bytes s) : Bytes (trimR s) := by
  obtain ⟨a, h1, _, _⟩ := trimL_split s.reverse
  intro x hx
  unfold trimR at hx
  rw [List.mem_reverse] at hx
  refine h x ?_
  rw [← List.mem_reverse, h1]
  simp [hx]

theorem strTrim_spec (s : List Int) (hB : Bytes s) (hs : s.length ≤ 4000000000) : strings_Trim_c (pcL prog cfg) s [32, 9] = some (trimB s) := by
  refine strings_Trim_of ?_
  unfold strings_Trim_B
  have c1 : strings_Trim_C1 (pcL prog cfg) lpL ((s, [32, 9], ()), ()) = some ((s, [32, 9], (s == []), ()), ()) := by
    unfold strings_Trim_C1
    dsimp only
    cases s with
    | nil => rfl
    | cons c r => rfl
  refine bnd1 c1 ?_
  dsimp only
  cases s with
  | nil => rfl
  | cons c r =>
    refine (ifd_f (by simp)).trans ?_
    have c2 : strings_Trim_C2 (pcL prog cfg) lpL ((c :: r, [32, 9], ()), ()) = some ((c :: r, [32, 9], false, ()), ()) := rfl
    refine bnd1 c2 ?_
    refine (ifd_f (by simp)).trans ?_
    refine bnd1 (show strings_Trim_L3 (pcL prog cfg) lpL (([32, 9], (), 0, ()), (List.replicate 256 false, ())) = _ from Trim_set) ?_
    rw [Sum.elim_inr]
    dsimp only
    rw [row_all, row_all]
    refine (ifd_t (by rw [decide_eq_true_eq]; exact setOf_len _)).trans ?_
    refine (ifd_t (by rw [decide_eq_true_eq]; exact setOf_len _)).trans ?_
    refine (ifd_t (setOf_len _)).trans ?_
    refine bnd1 (Trim_right (setOf [9, 32]) (setOf_len _) (fun c hc => set_blank hc) (setOf [9, 32]) _ (c :: r) rfl hs hB) ?_
    refine bnd1 (Trim_left (setOf [9, 32]) (setOf_len _) (fun c hc => set_blank hc) (setOf [9, 32]) _ (trimR_bytes hB)) ?_
    rfl

theorem strTrimLeft_spec (s : List Int) (hB : Bytes s) : strings_TrimLeft_c (pcL prog cfg) s [32, 9] = some (trimL s) := by
  refine strings_TrimLeft_of ?_
  unfold strings_TrimLeft_B
  have c1 : strings_TrimLeft_C1 (pcL prog cfg) lpL ((s, [32, 9], ()), ()) = some ((s, [32, 9], (s == []), ()), ()) := by
    unfold strings_TrimLeft_C1
    dsimp only
    cases s with
    | nil => rfl
    | cons c r => rfl
  refine bnd1 c1 ?_
  dsimp only
  cases s with
  | nil => rfl
  | cons c r =>
    refine (ifd_f (by simp)).trans ?_
    have c2 : strings_TrimLeft_C2 (pcL prog cfg) lpL ((c :: r, [32, 9], ()), ()) = some ((c :: r, [32, 9], false, ()), ()) := rfl
    refine bnd1 c2 ?_
    refine (ifd_f (by simp)).trans ?_
    refine bnd1 (show strings_TrimLeft_L3 (pcL prog cfg) lpL (([32, 9], (), 0, ()), (List.replicate 256 false, ())) = _ from TrimLeft_set) ?_
    rw [Sum.elim_inr]
    dsimp only
    rw [row_all, row_all]
    refine (ifd_t (by rw [decide_eq_true_eq]; exact setOf_len _)).trans ?_
    refine (ifd_t (by rw [decide_eq_true_eq]; exact setOf_len _)).trans ?_
    refine (ifd_t (setOf_len _)).trans ?_
    refine bnd1 (TrimLeft_left (setOf [9, 32]) (setOf_len _) (fun c hc => set_blank hc) (setOf [9, 32]) _ hB) ?_
    rfl

end Go.Proofs.YthhllkiefncbnaaDoorSim
