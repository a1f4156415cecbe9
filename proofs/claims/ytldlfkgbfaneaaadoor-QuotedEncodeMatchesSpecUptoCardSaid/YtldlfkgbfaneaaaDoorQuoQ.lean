/- quoted: the reference's decoding. -/
import Derived.Test.YtldlfkgbfaneaaaDoorQuoS
namespace Go.Proofs.YtldlfkgbfaneaaaDoorSim
open Go Go.Proofs
open Go.Proofs.Tryd (prog)
set_option linter.unusedVariables false
set_option linter.unusedSimpArgs false

theorem getD_take (l : List Int) {n i : Nat} (h : i < n) : (l.take n).getD i 0 = l.getD i 0 := by
  simp [List.getD_eq_getElem?_getD, List.getElem?_take, h]

theorem LQ_C8_spec (b out : List Int) (e st : Int) (last : Nat) (s : Bool) (i : Int) (h0 : 0 ≤ i) (h1 : i < last) (h2 : last ≤ b.length) (hB : Bytes b) (hb : b.length ≤ 2000000) :
    ref1_LooseQuoted_C8 (pcL prog cfg) lpL ((b, out, e, st, (last : Int), s, i, ()), ()) = some ((b, out, e, st, (last : Int), s, i, hx ((b.take last).drop i.toNat), ()), ()) := by
  have hlen : (b.take last).length = last := by simp; omega
  unfold ref1_LooseQuoted_C8
  dsimp only
  rw [hx_drop _ _ (by omega), hlen, getD_take _ (by omega)]
  have e1 : (i + 1).toNat = i.toNat + 1 := by omega
  have e2 : (i + 2).toNat = i.toNat + 2 := by omega
  rw [wrap64 (x := i + 1) (by omega) (by omega), wrap64 (x := i + 2) (by omega) (by omega), e1, e2]
  rw [rHex_spec (hB.getD _), rHex_spec (hB.getD _)]
  delta bnd
  dsimp only
  simp only [ifd_eq, decide_eq_true_eq, beq_iff_eq]
  rw [if_pos (by omega)]
  by_cases a1 : b.getD i.toNat 0 = 61
  · by_cases a2 : i + 2 < last
    · have a3 : i.toNat + 2 < last := by omega
      have a4 : (0 ≤ i + 1 ∧ i + 1 < b.length) = True := eq_true (by omega)
      have a5 : (0 ≤ i + 2 ∧ i + 2 < b.length) = True := eq_true (by omega)
      rw [getD_take _ (by omega), getD_take _ (by omega)]
      simp only [a1, a2, a3, a4, a5, if_true, true_and, decide_true, Bool.true_and, beq_self_eq_true]
      by_cases a6 : hexv (b.getD (i.toNat + 1) 0) ≥ 0
      · have a7 : 0 ≤ hexv (b.getD (i.toNat + 1) 0) := a6
        simp only [a7, if_true, decide_true, Bool.true_and, ge_iff_le]
      · have a7 : ¬ 0 ≤ hexv (b.getD (i.toNat + 1) 0) := a6
        simp only [a7, if_false, decide_false, Bool.false_and, ge_iff_le]
    · have a3 : ¬ i.toNat + 2 < last := by omega
      simp only [a1, a2, a3, if_true, if_false, decide_false, Bool.false_and, Bool.and_false]
  · have a3 : (b.getD i.toNat 0 == 61) = false := beq_eq_false_iff_ne.2 a1
    simp only [a1, if_false, a3, Bool.false_and]

theorem LQ_L9_spec (b : List Int) (e st : Int) (last : Nat) (s : Bool) (h2 : last ≤ b.length) (hB : Bytes b) (hb : b.length ≤ 2000000) : ∀ (k : Nat) (out : List Int) (i : Int), 0 ≤ i → i ≤ last → last - i.toNat = k → out.length + k ≤ 1000000000 →
    ref1_LooseQuoted_L9 (pcL prog cfg) lpL ((b, out, e, st, (last : Int), s, i, ()), ()) = some ((b, out ++ decL ((b.take last).drop i.toNat), e, st, s, ()), ()) := by
  intro k
  have hlen : (b.take last).length = last := by simp; omega
  induction k using Nat.strongRecOn with
  | _ k ih =>
    intro out i h0 h1 hk hl
    refine ref1_LooseQuoted_L9_of ?_
    unfold ref1_LooseQuoted_L9_R
    dsimp only
    by_cases hlt : i < last
    · refine (ifd_t (by simp only [decide_eq_true_eq]; exact hlt)).trans ?_
      refine bnd1 (LQ_C8_spec b out e st last s i h0 hlt h2 hB hb) ?_
      dsimp only
      have hd : (b.take last).drop i.toNat = (b.take last).getD i.toNat 0 :: (b.take last).drop (i.toNat + 1) := drop_getD _ _ (by omega)
      have hxd := hx_drop (b.take last) i.toNat (by omega)
      have e1 : (i + 1).toNat = i.toNat + 1 := by omega
      have e2 : (i + 2).toNat = i.toNat + 2 := by omega
      have e3 : (i + 2 + 1).toNat = i.toNat + 1 + 2 := by omega
      cases hc : hx ((b.take last).drop i.toNat) with
      | true =>
        rw [hc] at hxd
        simp only [eq_comm (a := true), Bool.and_eq_true, decide_eq_true_eq] at hxd
        obtain ⟨q1, q2, q3, q4⟩ := hxd
        rw [hlen] at q2
        rw [getD_take _ (by omega)] at q3 q4
        refine (ifd_t rfl).trans ?_
        rw [wrap64 (x := i + 1) (by omega) (by omega), wrap64 (x := i + 2) (by omega) (by omega), wrap64 (x := i + 2 + 1) (by omega) (by omega), e1, e2]
        refine (ifd_t (by simp only [decide_eq_true_eq]; omega)).trans ?_
        refine bnd2 (rHex_spec (hB.getD _)) rfl ?_
        refine (ifd_t (by simp only [decide_eq_true_eq]; omega)).trans ?_
        refine bnd2 (rHex_spec (hB.getD _)) rfl ?_
        have g1 := hexv_ge (b.getD (i.toNat + 1) 0)
        have g2 := hexv_ge (b.getD (i.toNat + 2) 0)
        rw [wrap64 (x := 16 * _) (by omega) (by omega), wrap64 (by omega) (by omega), wrapU8i (by omega) (by omega)]
        refine (ifd_t (by simp only [decide_eq_true_eq, List.length_cons, List.length_nil]; omega)).trans ?_
        have := ih (last - (i + 2 + 1).toNat) (by omega) (out ++ [16 * hexv (b.getD (i.toNat + 1) 0) + hexv (b.getD (i.toNat + 2) 0)]) (i + 2 + 1) (by omega) (by omega) rfl (by simp only [List.length_append, List.length_cons, List.length_nil]; omega)
        rw [e3] at this
        refine this.trans ?_
        rw [hd] at hc ⊢
        rw [decL, if_pos hc, getD_drop_add, getD_drop_add, List.drop_drop, getD_take _ (by omega), getD_take _ (by omega)]
        simp
      | false =>
        refine (ifd_f (by simp)).trans ?_
        refine (ifd_t (by simp only [decide_eq_true_eq]; omega)).trans ?_
        refine (ifd_t (by simp only [decide_eq_true_eq, List.length_cons, List.length_nil]; omega)).trans ?_
        rw [wrap64 (by omega) (by omega)]
        have := ih (last - (i + 1).toNat) (by omega) (out ++ [b.getD i.toNat 0]) (i + 1) (by omega) (by omega) rfl (by simp only [List.length_append, List.length_cons, List.length_nil]; omega)
        rw [e1] at this
        refine this.trans ?_
        rw [hd] at hc ⊢
        rw [decL, if_neg (by rw [hc]; simp), getD_take _ (by omega)]
        simp
    · refine (ifd_f (by simp only [decide_eq_true_eq]; exact hlt)).trans ?_
      rw [List.drop_eq_nil_of_le (by omega), decL]
      simp

theorem LQ_L10_spec (b out : List Int) (a : Int) (hb : b.length ≤ 2000000) : ∀ (k : Nat) (e : Int), 0 ≤ e → e ≤ b.length → b.length - e.toNat = k →
    ref1_LooseQuoted_L10 (pcL prog cfg) lpL ((b, out, a, e, ()), ()) = some ((b, out, a, e + lfLen (b.drop e.toNat), ()), ()) := by
  intro k
  induction k with
  | zero =>
    intro e h0 h1 hk
    refine ref1_LooseQuoted_L10_of ?_
    unfold ref1_LooseQuoted_L10_R
    dsimp only
    refine (ifd_f (by simp only [decide_eq_true_eq]; omega)).trans ?_
    refine (ifd_f (by simp only [decide_eq_true_eq]; omega)).trans ?_
    rw [List.drop_eq_nil_of_le (by omega), lfLen]
    simp
  | succ k ih =>
    intro e h0 h1 hk
    refine ref1_LooseQuoted_L10_of ?_
    unfold ref1_LooseQuoted_L10_R
    dsimp only
    have hd : b.drop e.toNat = b.getD e.toNat 0 :: b.drop (e.toNat + 1) := drop_getD _ _ (by omega)
    refine (ifd_t (by simp only [decide_eq_true_eq]; omega)).trans ?_
    refine (ifd_t (by simp only [decide_eq_true_eq]; omega)).trans ?_
    refine (ifd_t (by simp only [decide_eq_true_eq]; omega)).trans ?_
    rw [hd, lfLen]
    by_cases h : b.getD e.toNat 0 = 10
    · rw [if_pos h]
      refine (ifd_f (by rw [h]; simp)).trans ?_
      simp
    · rw [if_neg h]
      refine (ifd_t (by rw [bne_iff_ne]; exact h)).trans ?_
      rw [wrap64 (by omega) (by omega)]
      have e2 : (e + 1).toNat = e.toNat + 1 := by omega
      rw [ih (e + 1) (by omega) (by omega) (by omega), e2]
      have : e + 1 + (lfLen (b.drop (e.toNat + 1)) : Int) = e + ((lfLen (b.drop (e.toNat + 1)) + 1 : Nat) : Int) := by omega
      rw [this]

end Go.Proofs.YtldlfkgbfaneaaaDoorSim
