/- quoted: the laws answer true. -/
import Derived.Test.YtldlfkgbfaneaaaDoorQuoT
namespace Go.Proofs.YtldlfkgbfaneaaaDoorSim
open Go Go.Proofs
open Go.Proofs.Tryd (prog)
set_option linter.unusedVariables false
set_option linter.unusedSimpArgs false

theorem At_spec (a b : Int) : ref1_At_c (pcL prog cfg) a b = some (a, (b, ())) := ref1_At_of rfl
theorem Bytes_spec (a b : List Int) : ref1_Bytes_c (pcL prog cfg) a b = some (a == b) := ref1_Bytes_of rfl

theorem Decode_spec (b : List Int) (hB : Bytes b) (hb : b.length ≤ 2000000) : quoted_Decode_c (pcL prog cfg) b =
    some (if b.length > 48000 then ([], ((1, ((-1), ())), ())) else if (loose b).length > 12000 ∨ encL 0 (loose b) ≠ b then ([], ((11, ((-2), ())), ())) else (loose b, ((0, (0, ())), ()))) := by
  refine quoted_Decode_of ?_
  unfold quoted_Decode_B
  by_cases h : b.length > 48000
  · rw [if_pos h]
    exact ifd_t (by simp only [decide_eq_true_eq]; omega)
  · rw [if_neg h]
    refine (ifd_f (by simp only [decide_eq_true_eq]; omega)).trans ?_
    refine bnd2 (Loose_spec b hB hb) rfl ?_
    have hl := loose_len _ b rfl
    by_cases h2 : (loose b).length > 12000
    · rw [if_pos (Or.inl h2)]
      refine (ifd_t (by simp only [decide_eq_true_eq]; omega)).trans ?_
      exact ifd_t (by simp only [decide_eq_true_eq]; omega)
    · refine (ifd_f (by simp only [decide_eq_true_eq]; omega)).trans ?_
      refine bnd2 (qBytes_spec (loose b) (loose_bytes _ b rfl hB) (by omega)) rfl ?_
      refine bnd2 (Equal_spec _ _) rfl ?_
      refine (ifd_f (by simp only [decide_eq_true_eq]; omega)).trans ?_
      by_cases h3 : encL 0 (loose b) = b
      · rw [if_neg (by rintro (h | h); exact h2 h; exact h h3)]
        exact ifd_f (by simp [h3])
      · rw [if_pos (Or.inr h3)]
        exact ifd_t (by simp [h3])

theorem ex1 : encL 0 [97, 61, 98, 32] = [97, 61, 51, 68, 98, 61, 50, 48] := by
  simp (config := { decide := true }) [encL, tok, two, dg, room, lineEnd, crlf, blank]
theorem ex2 : loose [97, 61, 51, 68, 98, 61, 50, 48] = [97, 61, 98, 32] := by
  rw [← ex1]
  exact loose_encL _ (fun x hx => by simp at hx; omega)
theorem ex3 : loose [97, 61, 51, 100, 61, 10, 98, 61, 122, 122] = [97, 61, 98, 61, 122, 122] := by
  have e : ([97, 61, 51, 100, 61, 10, 98, 61, 122, 122] : List Int) = [97, 61, 51, 100, 61] ++ 10 :: [98, 61, 122, 122] := rfl
  rw [e, loose_line _ _ (by simp), loose_last _ (by simp)]
  have t1 : tl [97, 61, 51, 100, 61] = 5 := NB.tl (Or.inr ⟨[97, 61, 51, 100], 61, rfl, rfl⟩)
  have t2 : tl [98, 61, 122, 122] = 4 := NB.tl (Or.inr ⟨[98, 61, 122], 122, rfl, rfl⟩)
  have b1 : bare true [97, 61, 51, 100, 61] = [97, 61, 51, 100, 61] := rfl
  have b2 : bare false [98, 61, 122, 122] = [98, 61, 122, 122] := rfl
  have s1 : softEnd ([97, 61, 51, 100, 61] : List Int) = true := rfl
  have s2 : softEnd ([98, 61, 122, 122] : List Int) = false := rfl
  unfold pieceOf softCut
  rw [b1, b2, t1, t2, show ([97, 61, 51, 100, 61] : List Int).take 5 = [97, 61, 51, 100, 61] from rfl, show ([98, 61, 122, 122] : List Int).take 4 = [98, 61, 122, 122] from rfl, s1, s2]
  simp (config := { decide := true }) [decL, hx, hexv]

theorem example_spec : law1_quotedExample_c (pcL prog cfg) = some true := by
  refine law1_quotedExample_of ?_
  unfold law1_quotedExample_B
  have h1 := Encode_spec [97, 61, 98, 32] (fun x hx => by simp at hx; omega) (by simp)
  have h2 := Decode_spec [97, 61, 51, 68, 98, 61, 50, 48] (fun x hx => by simp at hx; omega) (by simp)
  have h3 := Lenient_spec [97, 61, 51, 100, 61, 10, 98, 61, 122, 122] (fun x hx => by simp at hx; omega) (by simp)
  rw [ex1] at h1
  rw [ex2, ex1] at h2
  rw [ex3] at h3
  refine bnd2 h1 rfl ?_
  refine bnd2 h2 rfl ?_
  refine bnd2 h3 rfl ?_
  rfl

theorem law1 (a : List Int) (h : Bytes a) (hl : a.length ≤ 1048576) : law1_QuotedEncodeMatchesSpec_c (pcL prog cfg) a = some true := by
  refine law1_QuotedEncodeMatchesSpec_of ?_
  unfold law1_QuotedEncodeMatchesSpec_B
  have h1 := Encode_spec a h (by omega)
  have h2 := Quoted_spec a h (by omega)
  refine bnd2 example_spec rfl ?_
  refine (ifd_f (by simp)).trans ?_
  refine bnd2 h1 rfl ?_
  by_cases h12 : a.length > 12000
  · rw [if_pos h12]
    refine (ifd_t (by simp only [decide_eq_true_eq]; omega)).trans ?_
    refine bnd2 (At_spec _ _) rfl ?_
    rfl
  · rw [if_neg h12]
    refine (ifd_f (by simp only [decide_eq_true_eq]; omega)).trans ?_
    refine (ifd_t rfl).trans ?_
    refine bnd2 h2 rfl ?_
    refine bnd2 (Bytes_spec _ _) rfl ?_
    refine (ifd_t rfl).trans ?_
    simp

theorem law2 (a : List Int) (h : Bytes a) (hl : a.length ≤ 1048576) : law1_QuotedLenientMatchesSpec_c (pcL prog cfg) a = some true := by
  refine law1_QuotedLenientMatchesSpec_of ?_
  unfold law1_QuotedLenientMatchesSpec_B
  have h1 := Lenient_spec a h (by omega)
  have h2 := LooseQuoted_spec a h (by omega)
  refine bnd2 example_spec rfl ?_
  refine (ifd_f (by simp)).trans ?_
  refine bnd2 h1 rfl ?_
  by_cases h12 : a.length > 48000
  · rw [if_pos h12]
    refine (ifd_t (by simp only [decide_eq_true_eq]; omega)).trans ?_
    refine bnd2 (At_spec _ _) rfl ?_
    rfl
  · rw [if_neg h12]
    refine (ifd_f (by simp only [decide_eq_true_eq]; omega)).trans ?_
    refine (ifd_t rfl).trans ?_
    refine bnd2 h2 rfl ?_
    refine bnd2 (Bytes_spec _ _) rfl ?_
    refine (ifd_t rfl).trans ?_
    simp

theorem law3 (a : List Int) (h : Bytes a) (hl : a.length ≤ 1048576) : law1_QuotedRoundTrip_c (pcL prog cfg) a = some true := by
  refine law1_QuotedRoundTrip_of ?_
  unfold law1_QuotedRoundTrip_B
  have h1 := Encode_spec a h (by omega)
  refine bnd2 example_spec rfl ?_
  refine (ifd_f (by simp)).trans ?_
  refine bnd2 h1 rfl ?_
  by_cases h12 : a.length > 12000
  · rw [if_pos h12]
    exact (ifd_t rfl).trans rfl
  · rw [if_neg h12]
    refine (ifd_f (by simp)).trans ?_
    have hle := encL_len _ a 0 rfl
    have hB := encL_bytes _ a rfl h 0
    have h2 := Decode_spec (encL 0 a) hB (by omega)
    have h3 := Lenient_spec (encL 0 a) hB (by omega)
    rw [loose_encL a h, if_neg (by omega), if_neg (by simp; omega)] at h2
    rw [loose_encL a h, if_neg (by omega)] at h3
    refine bnd2 h2 rfl ?_
    refine bnd2 h3 rfl ?_
    refine (ifd_t rfl).trans ?_
    refine (ifd_t rfl).trans ?_
    refine (ifd_t rfl).trans ?_
    refine bnd2 (Bytes_spec _ _) rfl ?_
    refine (ifd_t rfl).trans ?_
    refine (ifd_t (by simp)).trans ?_
    refine bnd2 (Bytes_spec _ _) rfl ?_
    refine (ifd_t (by simp)).trans ?_
    simp

theorem law4 (a : List Int) (h : Bytes a) (hl : a.length ≤ 1048576) : law1_QuotedUnique_c (pcL prog cfg) a = some true := by
  refine law1_QuotedUnique_of ?_
  unfold law1_QuotedUnique_B
  have h1 := Decode_spec a h (by omega)
  refine bnd2 example_spec rfl ?_
  refine (ifd_f (by simp)).trans ?_
  by_cases h12 : a.length > 48000
  · exact ifd_t (by simp only [decide_eq_true_eq]; omega)
  · refine (ifd_f (by simp only [decide_eq_true_eq]; omega)).trans ?_
    rw [if_neg h12] at h1
    refine bnd2 h1 rfl ?_
    by_cases hc : (loose a).length > 12000 ∨ encL 0 (loose a) ≠ a
    · rw [if_pos hc]
      refine (ifd_t rfl).trans ?_
      refine bnd2 (At_spec _ _) rfl ?_
      rfl
    · rw [if_neg hc]
      refine (ifd_f (by simp)).trans ?_
      have hlo := loose_len _ a rfl
      refine bnd2 (Quoted_spec (loose a) (loose_bytes _ a rfl h) (by omega)) rfl ?_
      refine bnd2 (Bytes_spec _ _) rfl ?_
      have : encL 0 (loose a) = a := Classical.byContradiction fun h => hc (Or.inr h)
      simp [this]

/-! ### the lines -/

theorem lines_C1 (x : List Int) (hx : x.length ≤ 1000000) (col i : Int) (u : Int × (Int × Unit)) (h0 : 0 ≤ i) (h1 : i ≤ x.length) :
    law1_QuotedLines_C1 (pcL prog cfg) lpL ((x, col, i, ()), (u, ())) = some ((x, col, i, lineEnd (x.drop i.toNat), ()), (u, ())) := by
  unfold law1_QuotedLines_C1
  dsimp only
  have hle := lineEnd_drop x i.toNat (by omega)
  by_cases h : i = x.length
  · have e : lineEnd (x.drop i.toNat) = true := by rw [hle]; simp [h]
    rw [e]
    refine (ifd_t (by simp [h])).trans ?_
    exact ifd_t (by simp [h])
  · have e : lineEnd (x.drop i.toNat) = crlf (x.drop i.toNat) := by
      rw [hle, crlf_drop]
      have : ¬ i.toNat = x.length := by omega
      simp [this]
    rw [e]
    refine (ifd_f (by simp [h])).trans ?_
    refine bnd2 (Crlf_spec x i h0 (by omega) (by omega)) rfl ?_
    exact ifd_f (by simp [h])

theorem lines_C2 (x : List Int) (hx : x.length ≤ 1000000) (col : Nat) (i : Int) (u : Int × (Int × Unit)) (h0 : 0 ≤ i) (h1 : i ≤ x.length) (hc : (col : Int) ≤ i) (h76 : col ≤ 76) (hb : col = 0 ∨ blank (x.getD (i.toNat - 1) 0) = false) :
    law1_QuotedLines_C2 (pcL prog cfg) lpL ((x, (col : Int), i, ()), (u, ())) = some ((x, i, false, ()), (u, ())) := by
  unfold law1_QuotedLines_C2
  dsimp only
  have n76 : ¬ ((decide ((col : Int) > 76)) = true) := by simp only [decide_eq_true_eq]; omega
  refine (ifd_f n76).trans ?_
  by_cases h : col = 0
  · have n0 : ¬ ((decide ((col : Int) > 0)) = true) := by simp only [decide_eq_true_eq]; omega
    refine (ifd_f n0).trans ?_
    refine (ifd_f n76).trans ?_
    refine (ifd_f n0).trans ?_
    exact ifd_f n76
  · have y0 : (decide ((col : Int) > 0)) = true := by simp only [decide_eq_true_eq]; omega
    have hbl := hb.resolve_left h
    refine (ifd_t y0).trans ?_
    have e1 : Int.toNat (i - 1) = i.toNat - 1 := by omega
    rw [wrap64 (by omega) (by omega), e1]
    refine (ifd_t (by simp only [decide_eq_true_eq]; omega)).trans ?_
    refine bnd2 (Blank_spec _) rfl ?_
    refine (ifd_f n76).trans ?_
    refine (ifd_t y0).trans ?_
    rw [hbl]
    exact ifd_f n76

theorem lines_end (x : List Int) (hx : x.length ≤ 1000000) (col i : Int) (u : Int × (Int × Unit)) (h : i > x.length) :
    law1_QuotedLines_L3 (pcL prog cfg) lpL ((x, col, i, ()), (u, ())) = some (Sum.inr ((), (u, ()))) := by
  refine law1_QuotedLines_L3_of ?_
  unfold law1_QuotedLines_L3_R
  dsimp only
  exact ifd_f (by simp only [decide_eq_true_eq]; omega)

theorem lines_loop (x : List Int) (hB : Bytes x) (hx : x.length ≤ 1000000) (u : Int × (Int × Unit)) : ∀ (k : Nat) (col i : Nat) (p : Int), i ≤ x.length → x.length - i = k → col ≤ i → (col = 0 ∨ p = x.getD (i - 1) 0) → linesOk col p (x.drop i) = true →
    law1_QuotedLines_L3 (pcL prog cfg) lpL ((x, (col : Int), (i : Int), ()), (u, ())) = some (Sum.inr ((), (u, ()))) := by
  intro k
  induction k using Nat.strongRecOn with
  | _ k ih =>
    intro col i p h1 hk hc hp hok
    refine law1_QuotedLines_L3_of ?_
    unfold law1_QuotedLines_L3_R
    dsimp only
    refine (ifd_t (by simp only [decide_eq_true_eq]; omega)).trans ?_
    refine bnd1 (lines_C1 x hx col i u (by omega) (by omega)) ?_
    dsimp only
    rw [Int.toNat_natCast]
    by_cases hlt : i < x.length
    · have hd : x.drop i = x.getD i 0 :: x.drop (i + 1) := drop_getD _ _ hlt
      rw [hd] at hok ⊢
      rw [lineEnd_cons]
      rw [linesOk] at hok
      by_cases hcr : crlf (x.getD i 0 :: x.drop (i + 1)) = true
      · rw [if_pos hcr] at hok
        simp only [Bool.and_eq_true, Bool.not_eq_true', Bool.or_eq_false_iff, Bool.and_eq_false_iff, decide_eq_false_iff_not] at hok
        obtain ⟨⟨ho1, ho2⟩, ho3⟩ := hok
        refine (ifd_t hcr).trans ?_
        have hbl : col = 0 ∨ blank (x.getD ((i : Int).toNat - 1) 0) = false := by
          rw [Int.toNat_natCast]
          rcases ho2 with h | h
          · exact Or.inl (by omega)
          · rcases hp with hp | hp
            · exact Or.inl hp
            · exact Or.inr (by rw [← hp]; exact h)
        refine bnd1 (lines_C2 x hx col i u (by omega) (by omega) (by omega) (by omega) hbl) ?_
        dsimp only
        refine (ifd_f (by simp)).trans ?_
        have e : IntKind.wrap .i64 (IntKind.wrap .i64 ((i : Int) + 1) + 1) = ((i + 2 : Nat) : Int) := by
          rw [wrap64 (x := (i : Int) + 1) (by omega) (by omega), wrap64 (by omega) (by omega)]; omega
        rw [e]
        have hr1 : i + 1 < x.length := by
          by_cases h : i + 1 < x.length
          · exact h
          · rw [List.drop_eq_nil_of_le (by omega)] at hcr
            simp [crlf] at hcr
        rw [List.drop_drop] at ho3
        exact ih (x.length - (i + 2)) (by omega) 0 (i + 2) 10 (by omega) rfl (by omega) (Or.inl rfl) ho3
      · rw [if_neg hcr] at hok
        refine (ifd_f hcr).trans ?_
        have hbx := hB.getD i
        have hg : List.getD x (Int.toNat (i : Int)) 0 = x.getD i 0 := by rw [Int.toNat_natCast]
        refine (ifd_t (by simp only [decide_eq_true_eq]; omega)).trans ?_
        try rw [hg]
        refine bnd2 (In_spec _ _ _) rfl ?_
        rw [wrap64 (x := x.getD i 0) (by omega) (by omega), wrap64 (x := (i : Int) + 1) (by omega) (by omega), wrap64 (x := (col : Int) + 1) (by omega) (by omega)]
        simp only [Bool.and_eq_true] at hok
        obtain ⟨ho1, ho2⟩ := hok
        have := ih (x.length - (i + 1)) (by omega) (col + 1) (i + 1) (x.getD i 0) (by omega) rfl (by omega) (Or.inr (by rw [Nat.add_sub_cancel])) ho2
        cases hin : (decide (32 ≤ x.getD i 0 ∧ x.getD i 0 ≤ 126)) with
        | true =>
          refine (ifd_f (by simp)).trans ?_
          refine (ifd_f (by simp)).trans ?_
          exact this
        | false =>
          rw [hin, Bool.false_or, beq_iff_eq] at ho1
          refine (ifd_t rfl).trans ?_
          refine (ifd_t (by simp only [decide_eq_true_eq]; omega)).trans ?_
          refine (ifd_t rfl).trans ?_
          refine (ifd_f (by rw [ho1]; simp)).trans ?_
          exact this
    · have hi : i = x.length := by omega
      have hd : x.drop i = [] := List.drop_eq_nil_of_le (by omega)
      rw [hd] at hok ⊢
      rw [linesOk] at hok
      simp only [Bool.not_eq_true', Bool.or_eq_false_iff, Bool.and_eq_false_iff, decide_eq_false_iff_not] at hok
      obtain ⟨ho1, ho2⟩ := hok
      refine (ifd_t rfl).trans ?_
      have hbl : col = 0 ∨ blank (x.getD ((i : Int).toNat - 1) 0) = false := by
        rw [Int.toNat_natCast]
        rcases ho2 with h | h
        · exact Or.inl (by omega)
        · rcases hp with hp | hp
          · exact Or.inl hp
          · exact Or.inr (by rw [← hp]; exact h)
      refine bnd1 (lines_C2 x hx col i u (by omega) (by omega) (by omega) (by omega) hbl) ?_
      dsimp only
      refine (ifd_f (by simp)).trans ?_
      rw [wrap64 (x := (i : Int) + 1) (by omega) (by omega), wrap64 (by omega) (by omega)]
      exact lines_end x hx 0 _ u (by omega)

theorem law5 (a : List Int) (h : Bytes a) (hl : a.length ≤ 1048576) : law1_QuotedLines_c (pcL prog cfg) a = some true := by
  refine law1_QuotedLines_of ?_
  unfold law1_QuotedLines_B
  have h1 := Encode_spec a h (by omega)
  refine bnd2 example_spec rfl ?_
  refine (ifd_f (by simp)).trans ?_
  refine bnd2 h1 rfl ?_
  by_cases h12 : a.length > 12000
  · rw [if_pos h12]
    exact (ifd_t rfl).trans rfl
  · rw [if_neg h12]
    refine (ifd_f (by simp)).trans ?_
    have hle := encL_len _ a 0 rfl
    have hB := encL_bytes _ a rfl h 0
    exact bnd1 (lines_loop (encL 0 a) hB (by omega) _ _ 0 0 0 (by omega) rfl (by omega) (Or.inl rfl) (linesOk_encL a h)) rfl

end Go.Proofs.YtldlfkgbfaneaaaDoorSim
