/- quoted: a line decoded. -/
import Derived.Test.YtldlfkgbfaneaaaDoorQuoH
namespace Go.Proofs.YtldlfkgbfaneaaaDoorSim
open Go Go.Proofs
open Go.Proofs.Tryd (prog)
set_option linter.unusedVariables false
set_option linter.unusedSimpArgs false

/-- a byte as digits is at the head -/
def hx (l : List Int) : Bool := l.getD 0 0 == 61 && (decide (2 < l.length) && (decide (0 ≤ hexv (l.getD 1 0)) && decide (0 ≤ hexv (l.getD 2 0))))

/-- a line decoded -/
def decL : List Int → List Int
  | [] => []
  | c :: r => if hx (c :: r) then (16 * hexv (r.getD 0 0) + hexv (r.getD 1 0)) :: decL (r.drop 2) else c :: decL r
termination_by l => l.length
decreasing_by all_goals simp; try omega

theorem hx_drop (l : List Int) (i : Nat) (h : i < l.length) : hx (l.drop i) = (l.getD i 0 == 61 && (decide (i + 2 < l.length) && (decide (0 ≤ hexv (l.getD (i + 1) 0)) && decide (0 ≤ hexv (l.getD (i + 2) 0))))) := by
  simp only [hx, getD_drop_add, Nat.add_zero, List.length_drop]
  congr 2
  simp only [decide_eq_decide]
  omega

theorem decL_len : ∀ (n : Nat) (l : List Int), l.length = n → (decL l).length ≤ n := by
  intro n
  induction n using Nat.strongRecOn with
  | _ n ih =>
    intro l hn
    cases l with
    | nil => simp [decL]
    | cons c r =>
      rw [decL]
      simp only [List.length_cons] at hn
      split
      · have := ih (r.drop 2).length (by simp; omega) (r.drop 2) rfl
        simp only [List.length_cons, List.length_drop] at this ⊢
        omega
      · have := ih r.length (by omega) r rfl
        simp only [List.length_cons]
        omega

theorem line_C4_spec (l out : List Int) (s : Bool) (i : Int) (h0 : 0 ≤ i) (h1 : i < l.length) (hB : Bytes l) (hb : l.length ≤ 2000000) :
    quoted_line_C4 (pcL prog cfg) lpL ((l, s, out, i, ()), ()) = some ((l, s, out, i, hx (l.drop i.toNat), ()), ()) := by
  unfold quoted_line_C4
  dsimp only
  rw [hx_drop _ _ (by omega)]
  have e1 : (i + 1).toNat = i.toNat + 1 := by omega
  have e2 : (i + 2).toNat = i.toNat + 2 := by omega
  rw [wrap64 (x := i + 1) (by omega) (by omega), wrap64 (x := i + 2) (by omega) (by omega), e1, e2]
  rw [Hex_spec (hB.getD _), Hex_spec (hB.getD _)]
  delta bnd
  dsimp only
  simp only [ifd_eq, decide_eq_true_eq, beq_iff_eq]
  rw [if_pos (by omega)]
  by_cases a1 : l.getD i.toNat 0 = 61
  · by_cases a2 : i + 2 < l.length
    · have a3 : i.toNat + 2 < l.length := by omega
      have a4 : (0 ≤ i + 1 ∧ i + 1 < l.length) = True := eq_true (by omega)
      have a5 : (0 ≤ i + 2) = True := eq_true (by omega)
      simp only [a1, a2, a3, a4, a5, if_true, true_and, decide_true, Bool.true_and, beq_self_eq_true]
      by_cases a6 : hexv (l.getD (i.toNat + 1) 0) ≥ 0
      · have a7 : 0 ≤ hexv (l.getD (i.toNat + 1) 0) := a6
        simp only [a7, if_true, decide_true, Bool.true_and, ge_iff_le]
      · have a7 : ¬ 0 ≤ hexv (l.getD (i.toNat + 1) 0) := a6
        simp only [a7, if_false, decide_false, Bool.false_and, ge_iff_le]
    · have a3 : ¬ i.toNat + 2 < l.length := by omega
      simp only [a1, a2, a3, if_true, if_false, decide_false, Bool.false_and, Bool.and_false]
  · have a3 : (l.getD i.toNat 0 == 61) = false := beq_eq_false_iff_ne.2 a1
    simp only [a1, if_false, a3, Bool.false_and]

theorem hex2 {x y : Int} (hx : 0 ≤ x ∧ x ≤ 15) (hy : 0 ≤ y ∧ y ≤ 15) : IntKind.wrap .u8 (ibits .or .i64 (IntKind.wrap .i64 (x * ((2 : Int) ^ (min (Int.toNat 4) 64)))) y) = 16 * x + y := by
  have e : ((2 : Int) ^ (min (Int.toNat 4) 64)) = ((2 ^ 4 : Nat) : Int) := rfl
  rw [e, wrap64 (by omega) (by omega), or_shift 4 hx.1 hy.1 (by omega) (by omega), wrapU8]
  omega

theorem line_L5_spec (l : List Int) (s : Bool) (hB : Bytes l) (hb : l.length ≤ 2000000) : ∀ (k : Nat) (out : List Int) (i : Int), 0 ≤ i → i ≤ l.length → l.length - i.toNat = k → out.length + k ≤ 1000000000 →
    quoted_line_L5 (pcL prog cfg) lpL ((l, s, out, i, ()), ()) = some ((s, out ++ decL (l.drop i.toNat), ()), ()) := by
  intro k
  induction k using Nat.strongRecOn with
  | _ k ih =>
    intro out i h0 h1 hk hl
    refine quoted_line_L5_of ?_
    unfold quoted_line_L5_R
    dsimp only
    by_cases hlt : i < l.length
    · refine (ifd_t (by simp only [decide_eq_true_eq]; exact hlt)).trans ?_
      refine bnd1 (line_C4_spec l out s i h0 hlt hB hb) ?_
      dsimp only
      have hd : l.drop i.toNat = l.getD i.toNat 0 :: l.drop (i.toNat + 1) := drop_getD _ _ (by omega)
      have hxd := hx_drop l i.toNat (by omega)
      have e1 : (i + 1).toNat = i.toNat + 1 := by omega
      have e2 : (i + 2).toNat = i.toNat + 2 := by omega
      have e3 : (i + 2 + 1).toNat = i.toNat + 1 + 2 := by omega
      cases hc : hx (l.drop i.toNat) with
      | true =>
        rw [hc] at hxd
        simp only [eq_comm (a := true), Bool.and_eq_true, decide_eq_true_eq] at hxd
        obtain ⟨q1, q2, q3, q4⟩ := hxd
        refine (ifd_t rfl).trans ?_
        rw [wrap64 (x := i + 1) (by omega) (by omega), wrap64 (x := i + 2) (by omega) (by omega), wrap64 (by omega) (by omega), e1, e2]
        refine (ifd_t (by simp only [decide_eq_true_eq]; omega)).trans ?_
        refine bnd2 (Hex_spec (hB.getD _)) rfl ?_
        refine (ifd_t (by simp only [decide_eq_true_eq]; omega)).trans ?_
        refine bnd2 (Hex_spec (hB.getD _)) rfl ?_
        have g1 := hexv_ge (l.getD (i.toNat + 1) 0)
        have g2 := hexv_ge (l.getD (i.toNat + 2) 0)
        rw [hex2 ⟨q3, g1.2⟩ ⟨q4, g2.2⟩]
        refine (ifd_t (by simp only [decide_eq_true_eq, List.length_cons, List.length_nil]; omega)).trans ?_
        have := ih (l.length - (i + 2 + 1).toNat) (by omega) (out ++ [16 * hexv (l.getD (i.toNat + 1) 0) + hexv (l.getD (i.toNat + 2) 0)]) (i + 2 + 1) (by omega) (by omega) rfl (by simp only [List.length_append, List.length_cons, List.length_nil]; omega)
        rw [e3] at this
        refine this.trans ?_
        rw [hd] at hc ⊢
        rw [decL, if_pos hc, getD_drop_add, getD_drop_add, List.drop_drop]
        simp
      | false =>
        refine (ifd_f (by simp)).trans ?_
        refine (ifd_t (by simp only [decide_eq_true_eq]; omega)).trans ?_
        refine (ifd_t (by simp only [decide_eq_true_eq, List.length_cons, List.length_nil]; omega)).trans ?_
        rw [wrap64 (by omega) (by omega)]
        have := ih (l.length - (i + 1).toNat) (by omega) (out ++ [l.getD i.toNat 0]) (i + 1) (by omega) (by omega) rfl (by simp only [List.length_append, List.length_cons, List.length_nil]; omega)
        rw [e1] at this
        refine this.trans ?_
        rw [hd] at hc ⊢
        rw [decL, if_neg (by rw [hc]; simp)]
        simp
    · refine (ifd_f (by simp only [decide_eq_true_eq]; exact hlt)).trans ?_
      rw [List.drop_eq_nil_of_le (by omega), decL]
      simp

/-- the last is '=' -/
def softEnd (l : List Int) : Bool := decide (0 < l.length) && l.getD (l.length - 1) 0 == 61

/-- the line without its soft end -/
def softCut (l : List Int) : List Int := if softEnd l then l.take (l.length - 1) else l

theorem line_spec (l : List Int) (hB : Bytes l) (hb : l.length ≤ 2000000) : quoted_line_c (pcL prog cfg) l = some (decL (softCut (l.take (tl l))), (softEnd (l.take (tl l)), ())) := by
  refine quoted_line_of ?_
  unfold quoted_line_B
  refine bnd2 (TrimRight_spec l hB hb) rfl ?_
  have hB' := hB.take (tl l)
  have hb' : (l.take (tl l)).length ≤ 2000000 := by simp; omega
  generalize l.take (tl l) = t at hB' hb'
  refine bnd1 (v := ((t, softEnd t, ()), ())) ?_ ?_
  · unfold quoted_line_C1 softEnd
    dsimp only
    by_cases h : 0 < t.length
    · have e1 : Int.toNat ((t.length : Int) - 1) = t.length - 1 := by omega
      rw [wrap64 (by omega) (by omega), e1]
      refine (ifd_t (by simp only [decide_eq_true_eq]; omega)).trans ?_
      refine (ifd_t (by simp only [decide_eq_true_eq]; omega)).trans ?_
      refine (ifd_t (by simp only [decide_eq_true_eq]; omega)).trans ?_
      simp [h]
    · refine (ifd_f (by simp only [decide_eq_true_eq]; omega)).trans ?_
      refine (ifd_f (by simp only [decide_eq_true_eq]; omega)).trans ?_
      simp [h]
  dsimp only
  refine bnd1 (v := ((softCut t, softEnd t, ()), ())) ?_ ?_
  · unfold quoted_line_C2 softCut
    dsimp only
    cases hs : softEnd t with
    | true =>
      have h : 0 < t.length := by
        simp only [softEnd, Bool.and_eq_true, decide_eq_true_eq] at hs
        exact hs.1
      have e1 : Int.toNat ((t.length : Int) - 1) = t.length - 1 := by omega
      rw [wrap64 (by omega) (by omega), e1]
      refine (ifd_t rfl).trans ?_
      refine (ifd_t (by simp only [decide_eq_true_eq]; omega)).trans ?_
      simp
    | false => exact (ifd_f (by simp)).trans rfl
  dsimp only
  have hB2 : Bytes (softCut t) := by
    unfold softCut
    split
    · exact hB'.take _
    · exact hB'
  have hb2 : (softCut t).length ≤ 2000000 := by
    unfold softCut
    split
    · simp; omega
    · exact hb'
  refine bnd1 (line_L5_spec (softCut t) (softEnd t) hB2 hb2 _ [] 0 (by omega) (by omega) rfl (by simp; omega)) ?_
  simp

end Go.Proofs.YtldlfkgbfaneaaaDoorSim
