/- quoted: the reference's decoding, its lines. -/
import Derived.Test.YtldlfkgbfaneaaaDoorQuoQ
namespace Go.Proofs.YtldlfkgbfaneaaaDoorSim
open Go Go.Proofs
open Go.Proofs.Tryd (prog)
set_option linter.unusedVariables false
set_option linter.unusedSimpArgs false

theorem seg_getD (b : List Int) (a m j : Nat) (h : j < m) : ((b.drop a).take m).getD j 0 = b.getD (a + j) 0 := by
  rw [getD_take _ h, getD_drop_add]

theorem LQ_C12_spec (b out : List Int) (a n : Nat) (h : a + n ≤ b.length) (hb : b.length ≤ 2000000) :
    ref1_LooseQuoted_C12 (pcL prog cfg) lpL ((b, out, (a : Int), ((a + n : Nat) : Int), ((a + n : Nat) : Int), ()), ()) =
      some ((b, out, (a : Int), ((a + n : Nat) : Int), ((a + (bare (decide (a + n < b.length)) ((b.drop a).take n)).length : Nat) : Int), ()), ()) := by
  unfold ref1_LooseQuoted_C12
  dsimp only
  have hlen : ((b.drop a).take n).length = n := by simp; omega
  refine bnd1 (v := ((b, out, (a : Int), ((a + n : Nat) : Int), ((a + n : Nat) : Int), (decide (a + n < b.length) && crEnd ((b.drop a).take n)), ()), ())) ?_ ?_
  · unfold ref1_LooseQuoted_C11 crEnd
    dsimp only
    rw [hlen]
    by_cases h1 : a + n < b.length
    · simp only [h1, decide_true, Bool.true_and]
      refine (ifd_t (by simp only [decide_eq_true_eq]; omega)).trans ?_
      refine (ifd_t (by simp only [decide_eq_true_eq]; omega)).trans ?_
      by_cases h2 : 0 < n
      · rw [wrap64 (by omega) (by omega)]
        have e1 : Int.toNat (((a + n : Nat) : Int) - 1) = a + (n - 1) := by omega
        rw [e1, seg_getD _ _ _ _ (by omega)]
        refine (ifd_t (by simp only [decide_eq_true_eq]; omega)).trans ?_
        refine (ifd_t (by simp only [decide_eq_true_eq]; omega)).trans ?_
        refine (ifd_t (by simp only [decide_eq_true_eq]; omega)).trans ?_
        simp [h2]
      · refine (ifd_f (by simp only [decide_eq_true_eq]; omega)).trans ?_
        refine (ifd_f (by simp only [decide_eq_true_eq]; omega)).trans ?_
        simp [h2]
    · simp only [h1, decide_false, Bool.false_and]
      refine (ifd_f (by simp only [decide_eq_true_eq]; omega)).trans ?_
      exact ifd_f (by simp only [decide_eq_true_eq]; omega)
  dsimp only
  unfold bare
  cases hc : (decide (a + n < b.length) && crEnd ((b.drop a).take n)) with
  | true =>
    have h0 : 0 < n := by
      simp only [crEnd, hlen, Bool.and_eq_true, decide_eq_true_eq] at hc
      exact hc.2.1
    refine (ifd_t rfl).trans ?_
    rw [wrap64 (by omega) (by omega), if_pos rfl, List.length_take, hlen, Nat.min_eq_left (by omega)]
    have : ((a + n : Nat) : Int) - 1 = ((a + (n - 1) : Nat) : Int) := by omega
    rw [this]
  | false =>
    refine (ifd_f (by simp)).trans ?_
    rw [if_neg (by simp), hlen]

theorem LQ_L13_spec (b out : List Int) (a : Nat) (e st : Int) (hb : b.length ≤ 2000000) : ∀ (m : Nat), a + m ≤ b.length →
    ref1_LooseQuoted_L13 (pcL prog cfg) lpL ((b, out, (a : Int), e, st, ((a + m : Nat) : Int), ()), ()) = some ((b, out, (a : Int), e, st, ((a + tl ((b.drop a).take m) : Nat) : Int), ()), ()) := by
  intro m
  induction m with
  | zero =>
    intro h
    refine ref1_LooseQuoted_L13_of ?_
    unfold ref1_LooseQuoted_L13_R
    dsimp only
    refine (ifd_f (by simp only [decide_eq_true_eq]; omega)).trans ?_
    refine (ifd_f (by simp only [decide_eq_true_eq]; omega)).trans ?_
    simp [tl]
  | succ m ih =>
    intro h
    refine ref1_LooseQuoted_L13_of ?_
    unfold ref1_LooseQuoted_L13_R
    dsimp only
    have e1 : Int.toNat (((a + (m + 1) : Nat) : Int) - 1) = a + m := by omega
    rw [wrap64 (by omega) (by omega), e1]
    refine (ifd_t (by simp only [decide_eq_true_eq]; omega)).trans ?_
    refine (ifd_t (by simp only [decide_eq_true_eq]; omega)).trans ?_
    refine bnd2 (Blank_spec _) rfl ?_
    refine (ifd_t (by simp only [decide_eq_true_eq]; omega)).trans ?_
    rw [tl_take _ _ (by simp; omega), getD_drop_add]
    cases hbl : blank (b.getD (a + m) 0)
    · refine (ifd_f (by simp)).trans ?_
      simp
    · refine (ifd_t rfl).trans ?_
      have : ((a + (m + 1) : Nat) : Int) - 1 = ((a + m : Nat) : Int) := by omega
      rw [this, if_pos rfl]
      exact ih (by omega)

theorem LQ_C14_spec (b out : List Int) (a m : Nat) (e st : Int) (h : a + m ≤ b.length) (hb : b.length ≤ 2000000) :
    ref1_LooseQuoted_C14 (pcL prog cfg) lpL ((b, out, (a : Int), e, st, ((a + m : Nat) : Int), ()), ()) = some ((b, out, (a : Int), e, st, ((a + m : Nat) : Int), softEnd ((b.drop a).take m), ()), ()) := by
  have hlen : ((b.drop a).take m).length = m := by simp; omega
  unfold ref1_LooseQuoted_C14 softEnd
  dsimp only
  rw [hlen]
  by_cases h2 : 0 < m
  · rw [wrap64 (by omega) (by omega)]
    have e1 : Int.toNat (((a + m : Nat) : Int) - 1) = a + (m - 1) := by omega
    rw [e1, seg_getD _ _ _ _ (by omega)]
    refine (ifd_t (by simp only [decide_eq_true_eq]; omega)).trans ?_
    refine (ifd_t (by simp only [decide_eq_true_eq]; omega)).trans ?_
    refine (ifd_t (by simp only [decide_eq_true_eq]; omega)).trans ?_
    simp [h2]
  · refine (ifd_f (by simp only [decide_eq_true_eq]; omega)).trans ?_
    refine (ifd_f (by simp only [decide_eq_true_eq]; omega)).trans ?_
    simp [h2]

theorem LQ_C15_spec (b out : List Int) (a m : Nat) (e st : Int) (h : a + m ≤ b.length) (hb : b.length ≤ 2000000) :
    ref1_LooseQuoted_C15 (pcL prog cfg) lpL ((b, out, (a : Int), e, st, ((a + m : Nat) : Int), softEnd ((b.drop a).take m), ()), ()) = some ((b, out, (a : Int), e, st, ((a + (softCut ((b.drop a).take m)).length : Nat) : Int), softEnd ((b.drop a).take m), ()), ()) := by
  have hlen : ((b.drop a).take m).length = m := by simp; omega
  unfold ref1_LooseQuoted_C15 softCut
  dsimp only
  cases hc : softEnd ((b.drop a).take m) with
  | true =>
    have h0 : 0 < m := by
      simp only [softEnd, hlen, Bool.and_eq_true, decide_eq_true_eq] at hc
      exact hc.1
    refine (ifd_t rfl).trans ?_
    rw [wrap64 (by omega) (by omega), if_pos rfl, List.length_take, hlen, Nat.min_eq_left (by omega)]
    have : ((a + m : Nat) : Int) - 1 = ((a + (m - 1) : Nat) : Int) := by omega
    rw [this]
  | false =>
    refine (ifd_f (by simp)).trans ?_
    rw [if_neg (by simp), hlen]

theorem lfLen_at : ∀ b : List Int, lfLen b < b.length → b.getD (lfLen b) 0 = 10
  | [], h => by simp [lfLen] at h
  | c :: r, h => by
    rw [lfLen] at h ⊢
    by_cases hc : c = 10
    · simp [hc]
    · rw [if_neg hc] at h ⊢
      have := lfLen_at r (by simpa using h)
      simpa using this

theorem bare_take (f : Bool) (l : List Int) : bare f l = l.take (bare f l).length := by
  unfold bare
  split
  · simp
  · simp

theorem softCut_take (l : List Int) : softCut l = l.take (softCut l).length := by
  unfold softCut
  split
  · simp
  · simp

theorem LQ_L16_spec (b : List Int) (hB : Bytes b) (hb : b.length ≤ 2000000) : ∀ (k : Nat) (out : List Int) (a : Nat), b.length - a = k → out.length + k ≤ 1000000000 →
    ref1_LooseQuoted_L16 (pcL prog cfg) lpL ((b, out, (a : Int), ()), ()) = some ((out ++ loose (b.drop a), ()), ()) := by
  intro k
  induction k using Nat.strongRecOn with
  | _ k ih =>
    intro out a hk hl
    refine ref1_LooseQuoted_L16_of ?_
    unfold ref1_LooseQuoted_L16_R
    dsimp only
    by_cases hlt : a < b.length
    · refine (ifd_t (by simp only [decide_eq_true_eq]; omega)).trans ?_
      have hdl : (b.drop a).length = b.length - a := List.length_drop
      have hle := lfLen_le (b.drop a)
      refine bnd1 (LQ_L10_spec b out a hb _ a (by omega) (by omega) rfl) ?_
      dsimp only
      rw [Int.toNat_natCast]
      have hat := lfLen_at (b.drop a)
      have hpl := piece_len (b.drop a)
      have hlo : loose (b.drop a) = piece (b.drop a) ++ loose (b.drop (a + (lfLen (b.drop a) + 1))) := by
        rw [← List.drop_drop]
        cases hq : b.drop a with
        | nil => rw [hq] at hdl; simp at hdl; omega
        | cons c r => rw [loose]
      rw [hlo]
      rw [List.length_drop, List.length_drop] at hpl
      have hpd : piece (b.drop a) = pieceOf (decide (lfLen (b.drop a) < (b.drop a).length)) ((b.drop a).take (lfLen (b.drop a))) := rfl
      rw [hdl] at hpd hat
      rw [getD_drop_add] at hat
      rw [hpd] at hpl ⊢
      have ec : (a : Int) + (lfLen (b.drop a) : Int) = ((a + lfLen (b.drop a) : Nat) : Int) := by omega
      rw [ec]
      generalize lfLen (b.drop a) = n at *
      have hf : decide (n < b.length - a) = decide (a + n < b.length) := by rw [decide_eq_decide]; omega
      rw [hf] at hpl ⊢
      refine bnd1 (LQ_C12_spec b out a n (by omega) hb) ?_
      dsimp only
      have hbl := bare_len (decide (a + n < b.length)) ((b.drop a).take n)
      have hbt := bare_take (decide (a + n < b.length)) ((b.drop a).take n)
      have hll : 1 ≤ (lend (decide (a + n < b.length)) ((b.drop a).take n)).length := by unfold lend; split <;> simp
      have hsl : ((b.drop a).take n).length = n := by simp; omega
      -- the end that is written
      have hend : a + n < b.length → (b.drop (a + (bare (decide (a + n < b.length)) ((b.drop a).take n)).length)).take (n + 1 - (bare (decide (a + n < b.length)) ((b.drop a).take n)).length) = lend (decide (a + n < b.length)) ((b.drop a).take n) := fun h => by
        have h10 := hat (by omega)
        have hd1 : b.drop (a + n) = 10 :: b.drop (a + n + 1) := by rw [drop_getD _ _ h, h10]
        unfold bare lend
        cases hc : (decide (a + n < b.length) && crEnd ((b.drop a).take n)) with
        | true =>
          simp only [crEnd, hsl, Bool.and_eq_true, decide_eq_true_eq, beq_iff_eq] at hc
          obtain ⟨_, h0, h13⟩ := hc
          rw [seg_getD _ _ _ _ (by omega)] at h13
          have hd0 : b.drop (a + (n - 1)) = 13 :: b.drop (a + n) := by
            rw [drop_getD _ _ (by omega), h13, show a + (n - 1) + 1 = a + n by omega]
          rw [if_pos rfl, if_pos rfl, List.length_take, hsl, Nat.min_eq_left (by omega), hd0, hd1, show n + 1 - (n - 1) = 2 by omega]
          rfl
        | false =>
          rw [if_neg (by simp), if_neg (by simp), hsl, hd1, show n + 1 - n = 1 by omega]
          rfl
      rw [hsl] at hbl
      have hseg : (b.drop a).take (bare (decide (a + n < b.length)) ((b.drop a).take n)).length = bare (decide (a + n < b.length)) ((b.drop a).take n) := by
        have h := hbt
        rw [List.take_take, Nat.min_eq_left (by omega)] at h
        exact h.symm
      unfold pieceOf at hpl ⊢
      generalize hL : lend (decide (a + n < b.length)) ((b.drop a).take n) = L at *
      generalize hbr : bare (decide (a + n < b.length)) ((b.drop a).take n) = br at *
      refine bnd1 (LQ_L13_spec b out a _ _ hb br.length (by omega)) ?_
      dsimp only
      rw [hseg]
      have htl := tl_le br
      have hseg2 : (b.drop a).take (tl br) = br.take (tl br) := by
        have h : br.take (tl br) = ((b.drop a).take br.length).take (tl br) := by rw [hseg]
        rw [h, List.take_take, Nat.min_eq_left htl]
      refine bnd1 (LQ_C14_spec b out a (tl br) _ _ (by omega) hb) ?_
      dsimp only
      refine bnd1 (LQ_C15_spec b out a (tl br) _ _ (by omega) hb) ?_
      dsimp only
      rw [hseg2]
      have hscl := softCut_len (br.take (tl br))
      have hsct := softCut_take (br.take (tl br))
      rw [List.length_take, Nat.min_eq_left htl] at hscl
      have hdrop : (b.take (a + (softCut (br.take (tl br))).length)).drop a = softCut (br.take (tl br)) := by
        rw [List.drop_take, show a + (softCut (br.take (tl br))).length - a = (softCut (br.take (tl br))).length by omega]
        have h : softCut (br.take (tl br)) = ((b.drop a).take (tl br)).take (softCut (br.take (tl br))).length := by rw [hseg2]; exact hsct
        rw [List.take_take, Nat.min_eq_left hscl] at h
        exact h.symm
      refine bnd1 (LQ_L9_spec b _ _ (a + (softCut (br.take (tl br))).length) _ (by omega) hB hb _ out a (by omega) (by omega) rfl (by omega)) ?_
      dsimp only
      rw [Int.toNat_natCast, hdrop]
      generalize softEnd (br.take (tl br)) = s at hpl ⊢
      generalize decL (softCut (br.take (tl br))) = x at hpl ⊢
      rw [List.length_append] at hpl
      have ew : IntKind.wrap .i64 (((a + n : Nat) : Int) + 1) = ((a + n + 1 : Nat) : Int) := by rw [wrap64 (by omega) (by omega)]; omega
      rw [ew]
      by_cases hfn : a + n < b.length
      · simp only [hfn, decide_true, Bool.true_and] at hpl ⊢
        have hend' := hend hfn
        refine (ifd_t (by simp only [decide_eq_true_eq]; omega)).trans ?_
        refine (ifd_t (by simp only [decide_eq_true_eq]; omega)).trans ?_
        cases s with
        | false =>
          refine (ifd_t rfl).trans ?_
          simp only [Bool.not_false, if_true] at hpl ⊢
          refine (ifd_t (by simp only [decide_eq_true_eq]; omega)).trans ?_
          have e3 : List.drop (Int.toNat ((a + br.length : Nat) : Int)) (List.take (Int.toNat ((a + n + 1 : Nat) : Int)) b) = L := by
            rw [Int.toNat_natCast, Int.toNat_natCast, List.drop_take, show a + n + 1 - (a + br.length) = n + 1 - br.length by omega]
            exact hend'
          rw [e3]
          refine (ifd_t (by simp only [decide_eq_true_eq, List.length_append]; omega)).trans ?_
          rw [ih (b.length - (a + n + 1)) (by omega) (out ++ x ++ L) (a + n + 1) rfl (by simp only [List.length_append]; omega)]
          simp [Nat.add_assoc]
        | true =>
          refine (ifd_f (by simp)).trans ?_
          simp only [Bool.not_true, Bool.false_eq_true, if_false, List.append_nil, List.length_nil] at hpl ⊢
          rw [ih (b.length - (a + n + 1)) (by omega) (out ++ x) (a + n + 1) rfl (by simp only [List.length_append]; omega)]
          simp [Nat.add_assoc]
      · simp only [hfn, decide_false, Bool.false_and, Bool.false_eq_true, if_false, List.append_nil, List.length_nil] at hpl ⊢
        refine (ifd_f (by simp only [decide_eq_true_eq]; omega)).trans ?_
        refine (ifd_f (by simp only [decide_eq_true_eq]; omega)).trans ?_
        rw [ih (b.length - (a + n + 1)) (by omega) (out ++ x) (a + n + 1) rfl (by simp only [List.length_append]; omega)]
        simp [Nat.add_assoc]
    · refine (ifd_f (by simp only [decide_eq_true_eq]; omega)).trans ?_
      rw [List.drop_eq_nil_of_le (by omega), loose]
      simp

theorem LooseQuoted_spec (b : List Int) (hB : Bytes b) (hb : b.length ≤ 2000000) : ref1_LooseQuoted_c (pcL prog cfg) b = some (loose b) := by
  refine ref1_LooseQuoted_of ?_
  unfold ref1_LooseQuoted_B
  exact bnd1 (LQ_L16_spec b hB hb _ [] 0 rfl (by simp; omega)) rfl

end Go.Proofs.YtldlfkgbfaneaaaDoorSim
