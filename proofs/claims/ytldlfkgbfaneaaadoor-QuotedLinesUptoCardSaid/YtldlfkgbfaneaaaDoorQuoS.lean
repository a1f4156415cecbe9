/- quoted: lines decoded. -/
import Derived.Test.YtldlfkgbfaneaaaDoorQuoD
namespace Go.Proofs.YtldlfkgbfaneaaaDoorSim
open Go Go.Proofs
open Go.Proofs.Tryd (prog)
set_option linter.unusedVariables false
set_option linter.unusedSimpArgs false

def lfLen : List Int → Nat
  | [] => 0
  | c :: r => if c = 10 then 0 else lfLen r + 1

theorem lfLen_le : ∀ b : List Int, lfLen b ≤ b.length
  | [] => by simp [lfLen]
  | c :: r => by
    have := lfLen_le r
    rw [lfLen]
    split <;> simp <;> omega

theorem findLf : ∀ b : List Int, b.findIdx? (· == 10) = if lfLen b < b.length then some (lfLen b) else none
  | [] => rfl
  | c :: r => by
    rw [List.findIdx?_cons, lfLen, findLf r]
    by_cases h : c = 10
    · simp [h]
    · have : (c == 10) = false := beq_eq_false_iff_ne.2 h
      rw [this, if_neg h]
      by_cases h2 : lfLen r < r.length
      · simp [h2]
      · simp [h2]

theorem Cut_spec (b : List Int) (hb : b.length ≤ 2000000) : bytes_Cut_c (pcL prog cfg) b [10] = some (b.take (lfLen b), (b.drop (lfLen b + 1), (decide (lfLen b < b.length), ()))) := by
  refine bytes_Cut_of ?_
  unfold bytes_Cut_B
  have hle := lfLen_le b
  have hi : bytes_Index_c (pcL prog cfg) b [10] = some (if lfLen b < b.length then (lfLen b : Int) else -1) := by
    refine bytes_Index_of ?_
    unfold bytes_Index_B
    refine (ifd_f (by simp)).trans ?_
    refine (ifd_t (by simp)).trans ?_
    refine (ifd_t (by simp)).trans ?_
    refine bnd2 (IndexByte_spec _ _) rfl ?_
    show some (indexByteL b 10) = _
    rw [indexByteL, findLf]
    split <;> rename_i h
    · split at h
      · rename_i h2; cases h; simp [h2]
      · cases h
    · split at h
      · cases h
      · rename_i h2; simp [h2]
  refine bnd2 hi rfl ?_
  by_cases h : lfLen b < b.length
  · simp only [h, if_true, decide_true]
    have e1 : (((List.length ([10] : List Int)) : Nat) : Int) = 1 := rfl
    have e2 : ((lfLen b : Int) + 1).toNat = lfLen b + 1 := by omega
    rw [e1, wrap64 (by omega) (by omega), e2]
    refine (ifd_t (by simp only [decide_eq_true_eq]; omega)).trans ?_
    refine (ifd_t (by simp only [decide_eq_true_eq]; omega)).trans ?_
    refine (ifd_t (by simp only [decide_eq_true_eq]; omega)).trans ?_
    simp
  · simp only [h, if_false, decide_false]
    refine (ifd_f (by simp)).trans ?_
    have : lfLen b = b.length := by omega
    rw [this, List.take_length, List.drop_eq_nil_of_le (by omega)]

/-- the last is CR -/
def crEnd (l : List Int) : Bool := decide (0 < l.length) && l.getD (l.length - 1) 0 == 13

/-- a line without its end, and the end -/
def bare (f : Bool) (l : List Int) : List Int := if f && crEnd l then l.take (l.length - 1) else l
def lend (f : Bool) (l : List Int) : List Int := if f && crEnd l then [13, 10] else [10]

/-- what a line stands for; f: it has an end -/
def pieceOf (f : Bool) (l : List Int) : List Int :=
  decL (softCut ((bare f l).take (tl (bare f l)))) ++ (if f && !softEnd ((bare f l).take (tl (bare f l))) then lend f l else [])

def piece (b : List Int) : List Int := pieceOf (decide (lfLen b < b.length)) (b.take (lfLen b))

def loose : List Int → List Int
  | [] => []
  | c :: r => piece (c :: r) ++ loose ((c :: r).drop (lfLen (c :: r) + 1))
termination_by b => b.length
decreasing_by simp; omega

theorem bare_len (f : Bool) (l : List Int) : (bare f l).length + (lend f l).length ≤ l.length + 1 := by
  unfold bare lend
  cases hc : (f && crEnd l) with
  | true =>
    simp only [Bool.and_eq_true, crEnd, decide_eq_true_eq] at hc
    simp; omega
  | false => simp

theorem softCut_len (l : List Int) : (softCut l).length ≤ l.length := by
  unfold softCut
  split
  · simp
  · exact Nat.le_refl _

theorem pieceOf_len (f : Bool) (l : List Int) : (pieceOf f l).length ≤ l.length + f.toNat := by
  unfold pieceOf
  have h1 := bare_len f l
  have h2 := softCut_len ((bare f l).take (tl (bare f l)))
  have h3 := decL_len _ (softCut ((bare f l).take (tl (bare f l)))) rfl
  rw [List.length_take] at h2
  have hl1 : 1 ≤ (lend f l).length := by unfold lend; split <;> simp
  rw [List.length_append]
  cases f with
  | true =>
    have : Bool.toNat true = 1 := rfl
    split
    · omega
    · simp; omega
  | false =>
    have : Bool.toNat false = 0 := rfl
    simp only [Bool.false_and, if_false, List.length_nil]
    have : bare false l = l := by simp [bare]
    rw [this] at h2 h3 ⊢
    simp; omega

theorem piece_len (b : List Int) : (piece b).length ≤ b.length - (b.drop (lfLen b + 1)).length := by
  have h := pieceOf_len (decide (lfLen b < b.length)) (b.take (lfLen b))
  have hle := lfLen_le b
  unfold piece
  rw [List.length_take] at h
  rw [List.length_drop]
  by_cases hc : lfLen b < b.length
  · simp only [hc, decide_true, Bool.toNat_true] at h ⊢
    omega
  · simp only [hc, decide_false, Bool.toNat_false] at h ⊢
    omega

theorem loose_len : ∀ (n : Nat) (b : List Int), b.length = n → (loose b).length ≤ n := by
  intro n
  induction n using Nat.strongRecOn with
  | _ n ih =>
    intro b hn
    cases b with
    | nil => simp [loose]
    | cons c r =>
      rw [loose, List.length_append]
      have h1 := piece_len (c :: r)
      have h2 := ih ((c :: r).drop (lfLen (c :: r) + 1)).length (by rw [List.length_drop]; simp only [List.length_cons] at hn ⊢; omega) _ rfl
      rw [List.length_drop] at h1 h2
      simp only [List.length_cons] at h1 h2 hn
      omega

theorem Loose_C4_spec (out l rest : List Int) (f : Bool) (hb : l.length ≤ 2000000) :
    quoted_Loose_C4 (pcL prog cfg) lpL ((out, l, rest, f, [10], ()), ()) = some ((out, bare f l, rest, f, lend f l, ()), ()) := by
  unfold quoted_Loose_C4
  dsimp only
  refine bnd1 (v := ((out, l, rest, f, [10], (f && crEnd l), ()), ())) ?_ ?_
  · unfold quoted_Loose_C3 crEnd
    dsimp only
    cases f with
    | false => rfl
    | true =>
      refine (ifd_t rfl).trans ?_
      refine (ifd_t rfl).trans ?_
      by_cases h : 0 < l.length
      · have e1 : Int.toNat ((l.length : Int) - 1) = l.length - 1 := by omega
        rw [wrap64 (by omega) (by omega), e1]
        refine (ifd_t (by simp only [decide_eq_true_eq]; omega)).trans ?_
        refine (ifd_t (by simp only [decide_eq_true_eq]; omega)).trans ?_
        refine (ifd_t (by simp only [decide_eq_true_eq]; omega)).trans ?_
        simp [h]
      · refine (ifd_f (by simp only [decide_eq_true_eq]; omega)).trans ?_
        refine (ifd_f (by simp only [decide_eq_true_eq]; omega)).trans ?_
        simp [h]
  dsimp only
  unfold bare lend
  cases hc : (f && crEnd l) with
  | true =>
    have h : 0 < l.length := by
      simp only [crEnd, Bool.and_eq_true, decide_eq_true_eq] at hc
      exact hc.2.1
    have e1 : Int.toNat ((l.length : Int) - 1) = l.length - 1 := by omega
    rw [wrap64 (by omega) (by omega), e1]
    refine (ifd_t rfl).trans ?_
    refine (ifd_t (by simp only [decide_eq_true_eq]; omega)).trans ?_
    simp
  | false => exact (ifd_f (by simp)).trans rfl

theorem Loose_L5_spec : ∀ (k : Nat) (b out : List Int), Bytes b → b.length = k → b.length ≤ 2000000 → out.length + k ≤ 1000000000 →
    quoted_Loose_L5 (pcL prog cfg) lpL ((b, out, ()), ()) = some ((out ++ loose b, ()), ()) := by
  intro k
  induction k using Nat.strongRecOn with
  | _ k ih =>
    intro b out hB hk hb hl
    refine quoted_Loose_L5_of ?_
    unfold quoted_Loose_L5_R
    dsimp only
    by_cases h : 0 < b.length
    · refine (ifd_t (by simp only [decide_eq_true_eq]; omega)).trans ?_
      refine bnd2 (Cut_spec b hb) rfl ?_
      have hle := lfLen_le b
      refine bnd1 (Loose_C4_spec out _ _ _ (by simp; omega)) ?_
      dsimp only
      have hBt := hB.take (lfLen b)
      have hpl := piece_len b
      have hbl : (bare (decide (lfLen b < b.length)) (b.take (lfLen b))).length ≤ (b.take (lfLen b)).length := by
        unfold bare; split <;> simp
      have hBb : Bytes (bare (decide (lfLen b < b.length)) (b.take (lfLen b))) := by
        unfold bare; split
        · exact hBt.take _
        · exact hBt
      rw [List.length_take] at hbl
      refine bnd2 (line_spec _ hBb (by omega)) rfl ?_
      dsimp only
      have hdl : (b.drop (lfLen b + 1)).length = b.length - (lfLen b + 1) := List.length_drop
      have ih1 := ih (b.drop (lfLen b + 1)).length (by omega) (b.drop (lfLen b + 1)) (out ++ piece b) (hB.drop _) rfl (by omega) (by rw [List.length_append]; omega)
      have hlo : loose b = piece b ++ loose (b.drop (lfLen b + 1)) := by
        cases b with
        | nil => simp at h
        | cons c r => rw [loose]
      rw [hlo, ← List.append_assoc, ← ih1]
      have hp : piece b = decL (softCut ((bare (decide (lfLen b < b.length)) (b.take (lfLen b))).take (tl (bare (decide (lfLen b < b.length)) (b.take (lfLen b)))))) ++ (if (decide (lfLen b < b.length)) && !softEnd ((bare (decide (lfLen b < b.length)) (b.take (lfLen b))).take (tl (bare (decide (lfLen b < b.length)) (b.take (lfLen b))))) then lend (decide (lfLen b < b.length)) (b.take (lfLen b)) else []) := rfl
      have hpl2 := congrArg List.length hp
      rw [hp]
      rw [List.length_append] at hpl2
      generalize decL (softCut ((bare (decide (lfLen b < b.length)) (b.take (lfLen b))).take (tl (bare (decide (lfLen b < b.length)) (b.take (lfLen b)))))) = x at hpl2 ⊢
      generalize softEnd ((bare (decide (lfLen b < b.length)) (b.take (lfLen b))).take (tl (bare (decide (lfLen b < b.length)) (b.take (lfLen b))))) = s at hpl2 ⊢
      generalize lend (decide (lfLen b < b.length)) (b.take (lfLen b)) = e at hpl2 ⊢
      generalize (decide (lfLen b < b.length)) = f at hpl2 ⊢
      refine (ifd_t (by simp only [decide_eq_true_eq]; omega)).trans ?_
      cases f with
      | true =>
        refine (ifd_t rfl).trans ?_
        refine (ifd_t rfl).trans ?_
        cases s with
        | false =>
          refine (ifd_t rfl).trans ?_
          simp only [Bool.not_false, Bool.and_self, if_true] at hpl2
          refine (ifd_t (by simp only [decide_eq_true_eq, List.length_append]; omega)).trans ?_
          simp
        | true =>
          refine (ifd_f (by simp)).trans ?_
          simp
      | false =>
        refine (ifd_f (by simp)).trans ?_
        refine (ifd_f (by simp)).trans ?_
        simp
    · refine (ifd_f (by simp only [decide_eq_true_eq]; omega)).trans ?_
      have : b = [] := List.length_eq_zero_iff.1 (by omega)
      subst this
      simp [loose]

theorem Loose_spec (b : List Int) (hB : Bytes b) (hb : b.length ≤ 2000000) : quoted_Loose_c (pcL prog cfg) b = some (loose b) := by
  refine quoted_Loose_of ?_
  unfold quoted_Loose_B
  exact bnd1 (Loose_L5_spec _ b [] hB rfl hb (by simp; omega)) rfl

theorem Lenient_spec (b : List Int) (hB : Bytes b) (hb : b.length ≤ 2000000) : quoted_Lenient_c (pcL prog cfg) b = some (if b.length > 48000 then ([], ((1, ((-1), ())), ())) else (loose b, ((0, (0, ())), ()))) := by
  refine quoted_Lenient_of ?_
  unfold quoted_Lenient_B
  by_cases h : b.length > 48000
  · rw [if_pos h]
    exact ifd_t (by simp only [decide_eq_true_eq]; omega)
  · rw [if_neg h]
    refine (ifd_f (by simp only [decide_eq_true_eq]; omega)).trans ?_
    exact bnd2 (Loose_spec b hB hb) rfl rfl

theorem Equal_spec (a b : List Int) : bytes_Equal_c (pcL prog cfg) a b = some (a == b) := bytes_Equal_of rfl

end Go.Proofs.YtldlfkgbfaneaaaDoorSim
