/- The reference's characters of a text. -/
import Derived.Test.YtagnebpehdonaaaDoorGen1
import Derived.Test.YtagnebpehdonaaaDoorUtf
namespace Go.Proofs.YtagnebpehdonaaaDoorSim
open Go Go.Proofs
open Go.Proofs.Tryd (prog)
set_option linter.unusedVariables false
set_option linter.unusedSimpArgs false

theorem In_spec (n a b : Int) : ref1_In_c (pcL prog cfg) n a b = some (decide (a ≤ n ∧ n ≤ b)) := by
  refine ref1_In_of ?_
  unfold ref1_In_B
  simp only [ifd_eq, decide_eq_true_eq]
  by_cases h : n ≥ a
  · have : a ≤ n := h
    simp [this]
  · have : ¬ a ≤ n := h
    simp [this]

def szR (c : Int) : Int := if c < 192 then 0 else if c < 224 then 2 else if c < 240 then 3 else if c < 248 then 4 else 0
def nR (c : Int) : Int := if c < 192 then 0 else if c < 224 then c - 192 else if c < 240 then c - 224 else if c < 248 then c - 240 else 0
def leR (c : Int) : Int := if c < 192 then 0 else if c < 224 then 128 else if c < 240 then 2048 else if c < 248 then 65536 else 0

theorem Rune_C1_spec (s : List Int) (i c : Int) (hc : 0 ≤ c ∧ c ≤ 255) :
    ref1_Rune_C1 (pcL prog cfg) lpL ((s, i, c, 0, 0, 0, ()), ()) = some ((s, i, szR c, nR c, leR c, ()), ()) := by
  unfold ref1_Rune_C1 szR nR leR
  dsimp only
  refine bnd2 (In_spec _ _ _) rfl ?_
  by_cases h1 : 192 ≤ c ∧ c ≤ 223
  · refine (ifd_t (decide_eq_true h1)).trans ?_
    rw [wrap64 (by omega) (by omega)]
    have a1 : ¬ c < 192 := by omega
    have a2 : c < 224 := by omega
    simp only [a1, a2, if_true, if_false]
  · refine (ifd_f (by simpa using h1)).trans ?_
    refine bnd2 (In_spec _ _ _) rfl ?_
    by_cases h2 : 224 ≤ c ∧ c ≤ 239
    · refine (ifd_t (decide_eq_true h2)).trans ?_
      rw [wrap64 (by omega) (by omega)]
      have a1 : ¬ c < 192 := by omega
      have a2 : ¬ c < 224 := by omega
      have a3 : c < 240 := by omega
      simp only [a1, a2, a3, if_true, if_false]
    · refine (ifd_f (by simpa using h2)).trans ?_
      refine bnd2 (In_spec _ _ _) rfl ?_
      by_cases h3 : 240 ≤ c ∧ c ≤ 247
      · refine (ifd_t (decide_eq_true h3)).trans ?_
        rw [wrap64 (by omega) (by omega)]
        have a1 : ¬ c < 192 := by omega
        have a2 : ¬ c < 224 := by omega
        have a3 : ¬ c < 240 := by omega
        have a4 : c < 248 := by omega
        simp only [a1, a2, a3, a4, if_true, if_false]
      · refine (ifd_f (by simpa using h3)).trans ?_
        by_cases h4 : c < 192
        · simp only [h4, if_true]
        · have a2 : ¬ c < 224 := by omega
          have a3 : ¬ c < 240 := by omega
          have a4 : ¬ c < 248 := by omega
          simp only [h4, a2, a3, a4, if_false]

theorem Rune_C2_spec (s : List Int) (i size n least : Int) (h0 : 0 ≤ i) (hs : 0 ≤ size) (hs' : size ≤ 4) (hi : i ≤ 4000000) :
    ref1_Rune_C2 (pcL prog cfg) lpL ((s, i, size, n, least, ()), ()) = some ((s, i, size, n, least, (size == 0 || decide (i + size > s.length)), ()), ()) := by
  unfold ref1_Rune_C2
  dsimp only
  rw [wrap64 (by omega) (by omega)]
  by_cases h : size = 0
  · subst h
    exact ifd_t rfl
  · have e : (size == 0) = false := beq_eq_false_iff_ne.2 h
    rw [e]
    refine (ifd_f (by simp)).trans ?_
    refine (ifd_f (by simp)).trans ?_
    rfl

theorem Rune_L3_bad (s : List Int) (hB : Bytes s) (i size n least k : Int) (h0 : 0 ≤ i) (hk0 : 1 ≤ k) (hk : k < size) (hl : i + size ≤ s.length) (hs : s.length ≤ 4000000) (hx : cont (s.getD (i + k).toNat 0) = false) :
    ref1_Rune_L3 (pcL prog cfg) lpL ((s, i, size, n, least, k, ()), ()) = some (Sum.inl ((-1, 1, ()), ())) := by
  refine ref1_Rune_L3_of ?_
  unfold ref1_Rune_L3_R
  dsimp only
  have hb := hB.getD (i + k).toNat
  rw [wrap64 (x := i + k) (by omega) (by omega), wrap64 (x := s.getD (i + k).toNat 0) (by omega) (by omega)]
  refine (ifd_t (by simp only [decide_eq_true_eq]; omega)).trans ?_
  refine (ifd_t (by simp only [decide_eq_true_eq]; omega)).trans ?_
  refine bnd2 (In_spec _ _ _) rfl ?_
  have e : (decide (128 ≤ s.getD (i + k).toNat 0 ∧ s.getD (i + k).toNat 0 ≤ 191)) = false := hx
  rw [e]
  exact ifd_t rfl

theorem Rune_L3_good (s : List Int) (hB : Bytes s) (i size n least k : Int) (h0 : 0 ≤ i) (hk0 : 1 ≤ k) (hk : k < size) (hl : i + size ≤ s.length) (hs : s.length ≤ 4000000) (hn : 0 ≤ n) (hn' : n ≤ 100000)
    (hx : cont (s.getD (i + k).toNat 0) = true) {x : ref1_Rune_L3_X} (h : ref1_Rune_L3 (pcL prog cfg) lpL ((s, i, size, 64 * n + (s.getD (i + k).toNat 0 - 128), least, k + 1, ()), ()) = some x) :
    ref1_Rune_L3 (pcL prog cfg) lpL ((s, i, size, n, least, k, ()), ()) = some x := by
  refine ref1_Rune_L3_of ?_
  unfold ref1_Rune_L3_R
  dsimp only
  have hb := hB.getD (i + k).toNat
  rw [wrap64 (x := i + k) (by omega) (by omega), wrap64 (x := s.getD (i + k).toNat 0) (by omega) (by omega), wrap64 (x := 64 * n) (by omega) (by omega), wrap64 (x := k + 1) (by omega) (by omega),
    wrap64 (x := 64 * n + s.getD (i + k).toNat 0) (by omega) (by omega), wrap64 (x := 64 * n + s.getD (i + k).toNat 0 - 128) (by omega) (by omega)]
  refine (ifd_t (by simp only [decide_eq_true_eq]; omega)).trans ?_
  refine (ifd_t (by simp only [decide_eq_true_eq]; omega)).trans ?_
  refine bnd2 (In_spec _ _ _) rfl ?_
  have e : (decide (128 ≤ s.getD (i + k).toNat 0 ∧ s.getD (i + k).toNat 0 ≤ 191)) = true := hx
  rw [e]
  refine (ifd_f (by simp)).trans ?_
  rw [show 64 * n + s.getD (i + k).toNat 0 - 128 = 64 * n + (s.getD (i + k).toNat 0 - 128) by omega]
  exact h

theorem Rune_L3_end (s : List Int) (i size n least k : Int) (hk : k = size) :
    ref1_Rune_L3 (pcL prog cfg) lpL ((s, i, size, n, least, k, ()), ()) = some (Sum.inr ((size, n, least, ()), ())) := by
  refine ref1_Rune_L3_of ?_
  unfold ref1_Rune_L3_R
  dsimp only
  exact ifd_f (by simp only [decide_eq_true_eq]; omega)

/-- what the loop comes to, and the character -/
theorem Rune_mid (s : List Int) (hB : Bytes s) (i : Nat) (hi : i < s.length) (hs : s.length ≤ 4000000) (h192 : 192 ≤ s.getD i 0) (h248 : s.getD i 0 < 248) (hl : (i : Int) + szR (s.getD i 0) ≤ s.length) :
    ∃ (ok : Bool) (n : Int), 0 ≤ n ∧ n ≤ 3000000 ∧
      ref1_Rune_L3 (pcL prog cfg) lpL ((s, (i : Int), szR (s.getD i 0), nR (s.getD i 0), leR (s.getD i 0), 1, ()), ()) = some (if ok = true then Sum.inr ((szR (s.getD i 0), n, leR (s.getD i 0), ()), ()) else Sum.inl ((-1, 1, ()), ())) ∧
      rune1 (s.drop i) = if ok = true ∧ leR (s.getD i 0) ≤ n ∧ n ≤ 1114111 ∧ ¬ (55296 ≤ n ∧ n ≤ 57343) then (n, (szR (s.getD i 0)).toNat) else (-1, 1) := by
  have hd := drop_getD s i hi
  have hr : (s.drop (i + 1)).length = s.length - (i + 1) := List.length_drop
  have hg : ∀ k : Nat, (s.drop (i + 1)).getD k 0 = s.getD ((i : Int) + ((k : Int) + 1)).toNat 0 := fun k => by
    have : ((i : Int) + ((k : Int) + 1)).toNat = i + 1 + k := by omega
    rw [this]
    simp [List.getD_eq_getElem?_getD]
  have g0 := hg 0
  have g1 := hg 1
  have g2 := hg 2
  have g0 : (s.drop (i + 1)).getD 0 0 = s.getD ((i : Int) + 1).toNat 0 := g0
  have g1 : (s.drop (i + 1)).getD 1 0 = s.getD ((i : Int) + 2).toNat 0 := g1
  have g2' : (s.drop (i + 1)).getD 2 0 = s.getD ((i : Int) + 3).toNat 0 := g2
  have hc := hB.getD i
  rw [hd]
  generalize hcc : s.getD i 0 = c at *
  have a1 : ¬ c < 128 := by omega
  have a2 : ¬ c < 192 := by omega
  by_cases h3 : c < 224
  · have es : szR c = 2 := by simp [szR, a2, h3]
    have en : nR c = c - 192 := by simp [nR, a2, h3]
    have el : leR c = 128 := by simp [leR, a2, h3]
    rw [es] at hl
    rw [es, en, el]
    cases hx : cont ((s.drop (i + 1)).getD 0 0) with
    | false =>
      refine ⟨false, 0, by omega, by omega, ?_, ?_⟩
      · exact Rune_L3_bad s hB i 2 _ _ 1 (by omega) (by omega) (by omega) hl hs (by rw [← g0]; exact hx)
      · rw [rune1, if_neg a1, if_neg a2, if_pos h3, if_neg (by rw [hx]; simp)]
        simp
    | true =>
      have hx' := cont_iff.1 hx
      refine ⟨true, n2 c ((s.drop (i + 1)).getD 0 0), by simp only [n2]; omega, by simp only [n2]; omega, ?_, ?_⟩
      · refine Rune_L3_good s hB i 2 _ _ 1 (by omega) (by omega) (by omega) hl hs (by omega) (by omega) (by rw [← g0]; exact hx) ?_
        rw [← g0]
        exact Rune_L3_end s i 2 _ _ _ rfl
      · rw [rune1, if_neg a1, if_neg a2, if_pos h3, hx]
        have e1 : 1 ≤ (s.drop (i + 1)).length := by omega
        have e2 : n2 c ((s.drop (i + 1)).getD 0 0) ≤ 2047 := by simp only [n2]; omega
        generalize n2 c ((s.drop (i + 1)).getD 0 0) = n at e2
        by_cases hn : 128 ≤ n
        · rw [if_pos ⟨e1, rfl, hn⟩, if_pos ⟨rfl, hn, by omega, by omega⟩]
          rfl
        · rw [if_neg (fun h => hn h.2.2), if_neg (fun h => hn h.2.1)]
  · by_cases h4 : c < 240
    · have es : szR c = 3 := by simp [szR, a2, h3, h4]
      have en : nR c = c - 224 := by simp [nR, a2, h3, h4]
      have el : leR c = 2048 := by simp [leR, a2, h3, h4]
      rw [es] at hl
      rw [es, en, el]
      cases hx : cont ((s.drop (i + 1)).getD 0 0) with
      | false =>
        refine ⟨false, 0, by omega, by omega, ?_, ?_⟩
        · exact Rune_L3_bad s hB i 3 _ _ 1 (by omega) (by omega) (by omega) hl hs (by rw [← g0]; exact hx)
        · rw [rune1, if_neg a1, if_neg a2, if_neg h3, if_pos h4, if_neg (by rw [hx]; simp)]
          simp
      | true =>
        have hx' := cont_iff.1 hx
        cases hy : cont ((s.drop (i + 1)).getD 1 0) with
        | false =>
          refine ⟨false, 0, by omega, by omega, ?_, ?_⟩
          · refine Rune_L3_good s hB i 3 _ _ 1 (by omega) (by omega) (by omega) hl hs (by omega) (by omega) (by rw [← g0]; exact hx) ?_
            exact Rune_L3_bad s hB i 3 _ _ 2 (by omega) (by omega) (by omega) hl hs (by rw [← g1]; exact hy)
          · rw [rune1, if_neg a1, if_neg a2, if_neg h3, if_pos h4, if_neg (by rw [hy]; simp)]
            simp
        | true =>
          have hy' := cont_iff.1 hy
          refine ⟨true, n3 c ((s.drop (i + 1)).getD 0 0) ((s.drop (i + 1)).getD 1 0), by simp only [n3]; omega, by simp only [n3]; omega, ?_, ?_⟩
          · refine Rune_L3_good s hB i 3 _ _ 1 (by omega) (by omega) (by omega) hl hs (by omega) (by omega) (by rw [← g0]; exact hx) ?_
            rw [← g0]
            refine Rune_L3_good s hB i 3 _ _ 2 (by omega) (by omega) (by omega) hl hs (by omega) (by omega) (by rw [← g1]; exact hy) ?_
            rw [← g1]
            exact Rune_L3_end s i 3 _ _ _ rfl
          · rw [rune1, if_neg a1, if_neg a2, if_neg h3, if_pos h4, hx, hy]
            have e1 : 2 ≤ (s.drop (i + 1)).length := by omega
            have e2 : n3 c ((s.drop (i + 1)).getD 0 0) ((s.drop (i + 1)).getD 1 0) ≤ 65535 := by simp only [n3]; omega
            generalize n3 c ((s.drop (i + 1)).getD 0 0) ((s.drop (i + 1)).getD 1 0) = n at e2
            by_cases hn : 2048 ≤ n ∧ ¬ (55296 ≤ n ∧ n ≤ 57343)
            · rw [if_pos ⟨e1, rfl, rfl, hn⟩, if_pos ⟨rfl, hn.1, by omega, hn.2⟩]
              rfl
            · rw [if_neg (fun h => hn h.2.2.2), if_neg (fun h => hn ⟨h.2.1, h.2.2.2⟩)]
    · have es : szR c = 4 := by simp [szR, a2, h3, h4, h248]
      have en : nR c = c - 240 := by simp [nR, a2, h3, h4, h248]
      have el : leR c = 65536 := by simp [leR, a2, h3, h4, h248]
      rw [es] at hl
      rw [es, en, el]
      cases hx : cont ((s.drop (i + 1)).getD 0 0) with
      | false =>
        refine ⟨false, 0, by omega, by omega, ?_, ?_⟩
        · exact Rune_L3_bad s hB i 4 _ _ 1 (by omega) (by omega) (by omega) hl hs (by rw [← g0]; exact hx)
        · rw [rune1, if_neg a1, if_neg a2, if_neg h3, if_neg h4, if_pos h248, if_neg (by rw [hx]; simp)]
          simp
      | true =>
        have hx' := cont_iff.1 hx
        cases hy : cont ((s.drop (i + 1)).getD 1 0) with
        | false =>
          refine ⟨false, 0, by omega, by omega, ?_, ?_⟩
          · refine Rune_L3_good s hB i 4 _ _ 1 (by omega) (by omega) (by omega) hl hs (by omega) (by omega) (by rw [← g0]; exact hx) ?_
            exact Rune_L3_bad s hB i 4 _ _ 2 (by omega) (by omega) (by omega) hl hs (by rw [← g1]; exact hy)
          · rw [rune1, if_neg a1, if_neg a2, if_neg h3, if_neg h4, if_pos h248, if_neg (by rw [hy]; simp)]
            simp
        | true =>
          have hy' := cont_iff.1 hy
          cases hz : cont ((s.drop (i + 1)).getD 2 0) with
          | false =>
            refine ⟨false, 0, by omega, by omega, ?_, ?_⟩
            · refine Rune_L3_good s hB i 4 _ _ 1 (by omega) (by omega) (by omega) hl hs (by omega) (by omega) (by rw [← g0]; exact hx) ?_
              rw [← g0]
              refine Rune_L3_good s hB i 4 _ _ 2 (by omega) (by omega) (by omega) hl hs (by omega) (by omega) (by rw [← g1]; exact hy) ?_
              exact Rune_L3_bad s hB i 4 _ _ 3 (by omega) (by omega) (by omega) hl hs (by rw [← g2']; exact hz)
            · rw [rune1, if_neg a1, if_neg a2, if_neg h3, if_neg h4, if_pos h248, if_neg (by rw [hz]; simp)]
              simp
          | true =>
            have hz' := cont_iff.1 hz
            refine ⟨true, n4 c ((s.drop (i + 1)).getD 0 0) ((s.drop (i + 1)).getD 1 0) ((s.drop (i + 1)).getD 2 0), by simp only [n4]; omega, by simp only [n4]; omega, ?_, ?_⟩
            · refine Rune_L3_good s hB i 4 _ _ 1 (by omega) (by omega) (by omega) hl hs (by omega) (by omega) (by rw [← g0]; exact hx) ?_
              rw [← g0]
              refine Rune_L3_good s hB i 4 _ _ 2 (by omega) (by omega) (by omega) hl hs (by omega) (by omega) (by rw [← g1]; exact hy) ?_
              rw [← g1]
              refine Rune_L3_good s hB i 4 _ _ 3 (by omega) (by omega) (by omega) hl hs (by omega) (by omega) (by rw [← g2']; exact hz) ?_
              rw [← g2']
              exact Rune_L3_end s i 4 _ _ _ rfl
            · rw [rune1, if_neg a1, if_neg a2, if_neg h3, if_neg h4, if_pos h248, hx, hy, hz]
              have e1 : 3 ≤ (s.drop (i + 1)).length := by omega
              generalize n4 c ((s.drop (i + 1)).getD 0 0) ((s.drop (i + 1)).getD 1 0) ((s.drop (i + 1)).getD 2 0) = n
              by_cases hn : 65536 ≤ n ∧ n ≤ 1114111
              · rw [if_pos ⟨e1, rfl, rfl, rfl, hn⟩, if_pos ⟨rfl, hn.1, hn.2, by omega⟩]
                rfl
              · rw [if_neg (fun h => hn h.2.2.2.2), if_neg (fun h => hn ⟨h.2.1, h.2.2.1⟩)]

theorem Rune_spec (s : List Int) (hB : Bytes s) (hs : s.length ≤ 4000000) (i : Nat) (hi : i < s.length) :
    ref1_Rune_c (pcL prog cfg) s i = some ((rune1 (s.drop i)).1, (((rune1 (s.drop i)).2 : Int), ())) := by
  refine ref1_Rune_of ?_
  unfold ref1_Rune_B
  have hc := hB.getD i
  have hg : List.getD s (Int.toNat (i : Int)) 0 = s.getD i 0 := by rw [Int.toNat_natCast]
  rw [hg, wrap64 (x := s.getD i 0) (by omega) (by omega)]
  refine (ifd_t (by simp only [decide_eq_true_eq]; omega)).trans ?_
  have hd := drop_getD s i hi
  have hr : (s.drop (i + 1)).length = s.length - (i + 1) := List.length_drop
  by_cases h1 : s.getD i 0 < 128
  · refine (ifd_t (decide_eq_true h1)).trans ?_
    rw [hd, rune1, if_pos h1]
    rfl
  · refine (ifd_f (by simpa using h1)).trans ?_
    refine bnd1 (Rune_C1_spec s i _ hc) ?_
    dsimp only
    have hsz : 0 ≤ szR (s.getD i 0) ∧ szR (s.getD i 0) ≤ 4 := by
      unfold szR
      repeat' split
      all_goals omega
    refine bnd1 (Rune_C2_spec s i _ _ _ (by omega) hsz.1 hsz.2 (by omega)) ?_
    dsimp only
    by_cases hbad : (szR (s.getD i 0) == 0 || decide ((i : Int) + szR (s.getD i 0) > s.length)) = true
    · refine (ifd_t hbad).trans ?_
      have : rune1 (s.drop i) = (-1, 1) := by
        rw [hd, rune1, if_neg h1]
        rw [Bool.or_eq_true, beq_iff_eq, decide_eq_true_eq] at hbad
        unfold szR at hbad
        by_cases h2 : s.getD i 0 < 192
        · rw [if_pos h2]
        · rw [if_neg h2]
          by_cases h3 : s.getD i 0 < 224
          · simp only [h2, h3, if_true, if_false] at hbad
            rw [if_pos h3, if_neg (fun h => by omega)]
          · rw [if_neg h3]
            by_cases h4 : s.getD i 0 < 240
            · simp only [h2, h3, h4, if_true, if_false] at hbad
              rw [if_pos h4, if_neg (fun h => by omega)]
            · rw [if_neg h4]
              by_cases h5 : s.getD i 0 < 248
              · simp only [h2, h3, h4, h5, if_true, if_false] at hbad
                rw [if_pos h5, if_neg (fun h => by omega)]
              · rw [if_neg h5]
      rw [this]
      rfl
    · refine (ifd_f hbad).trans ?_
      rw [Bool.or_eq_true, beq_iff_eq, decide_eq_true_eq, not_or] at hbad
      have h192 : 192 ≤ s.getD i 0 := by
        by_cases h : s.getD i 0 < 192
        · exact absurd (by unfold szR; rw [if_pos h]) hbad.1
        · omega
      have h248 : s.getD i 0 < 248 := by
        by_cases h : s.getD i 0 < 248
        · exact h
        · exact absurd (by
            have a1 : ¬ s.getD i 0 < 192 := by omega
            have a2 : ¬ s.getD i 0 < 224 := by omega
            have a3 : ¬ s.getD i 0 < 240 := by omega
            unfold szR
            rw [if_neg a1, if_neg a2, if_neg a3, if_neg h]) hbad.1
      obtain ⟨ok, n, hn0, hn1, hL, hv⟩ := Rune_mid s hB i hi hs h192 h248 (by omega)
      have hle : 0 ≤ leR (s.getD i 0) ∧ leR (s.getD i 0) ≤ 65536 := by
        unfold leR
        repeat' split
        all_goals omega
      generalize szR (s.getD i 0) = sz at *
      generalize nR (s.getD i 0) = n0 at *
      generalize leR (s.getD i 0) = le at *
      rw [hv]
      refine bnd1 hL ?_
      cases ok with
      | false => rfl
      | true =>
        simp only [if_true, Sum.elim_inr]
        by_cases q1 : n < le
        · refine (ifd_t (decide_eq_true q1)).trans ?_
          refine (ifd_t (decide_eq_true q1)).trans ?_
          rw [if_neg (fun h => by omega)]
          rfl
        · refine (ifd_f (by simpa using q1)).trans ?_
          refine (ifd_f (by simpa using q1)).trans ?_
          by_cases q2 : n > 1114111
          · refine (ifd_t (decide_eq_true q2)).trans ?_
            refine (ifd_t (decide_eq_true q2)).trans ?_
            rw [if_neg (fun h => by omega)]
            rfl
          · refine (ifd_f (by simpa using q2)).trans ?_
            refine bnd2 (In_spec _ _ _) rfl ?_
            refine (ifd_f (by simpa using q2)).trans ?_
            by_cases q3 : 55296 ≤ n ∧ n ≤ 57343
            · refine (ifd_t (decide_eq_true q3)).trans ?_
              rw [if_neg (fun h => h.2.2.2 q3)]
              rfl
            · refine (ifd_f (by simpa using q3)).trans ?_
              rw [if_pos ⟨trivial, by omega, by omega, q3⟩]
              have : ((sz.toNat : Nat) : Int) = sz := by omega
              simp only [this]

theorem runesL_len : ∀ (k : Nat) (l : List Int), l.length = k → (runesL l).length ≤ k := by
  intro k
  induction k using Nat.strongRecOn with
  | _ k ih =>
    intro l hk
    cases l with
    | nil => rw [runesL]; simp
    | cons c r =>
      rw [runesL_cons]
      have := (rune1_size c r).1
      simp only [List.length_cons] at hk ⊢
      have := ih ((c :: r).drop (rune1 (c :: r)).2).length (by simp; omega) _ rfl
      simp only [List.length_drop, List.length_cons] at this
      omega

theorem Runes_L1_spec (s : List Int) (hB : Bytes s) (hs : s.length ≤ 2000000) : ∀ (k i : Nat) (out : List Int), s.length - i = k → out.length + k ≤ 10000000 →
    ref1_Runes_L1 (pcL prog cfg) lpL ((s, out, (i : Int), ()), ()) = some ((out ++ runesL (s.drop i), ()), ()) := by
  intro k
  induction k using Nat.strongRecOn with
  | _ k ih =>
    intro i out hk ho
    refine ref1_Runes_L1_of ?_
    unfold ref1_Runes_L1_R
    dsimp only
    by_cases hi : i < s.length
    · refine (ifd_t (by simp only [decide_eq_true_eq]; omega)).trans ?_
      refine bnd2 (Rune_spec s hB (by omega) i hi) rfl ?_
      dsimp only
      have hd := drop_getD s i hi
      have hsz := rune1_size (s.getD i 0) (s.drop (i + 1))
      have hv := runesL_cons (s.getD i 0) (s.drop (i + 1))
      rw [← hd] at hsz hv
      rw [hv]
      generalize rune1 (s.drop i) = q at hsz
      refine (ifd_t (by simp only [decide_eq_true_eq, List.length_cons, List.length_nil]; omega)).trans ?_
      rw [wrap64 (by omega) (by omega), List.drop_drop]
      have := ih (s.length - (i + q.2)) (by omega) (i + q.2) (out ++ [q.1]) rfl (by simp; omega)
      rw [Int.natCast_add] at this
      refine this.trans ?_
      simp
    · refine (ifd_f (by simp only [decide_eq_true_eq]; omega)).trans ?_
      rw [List.drop_eq_nil_of_le (by omega), runesL]
      simp

theorem Runes_spec (s : List Int) (hB : Bytes s) (hs : s.length ≤ 2000000) : ref1_Runes_c (pcL prog cfg) s = some (runesL s) := by
  refine ref1_Runes_of ?_
  unfold ref1_Runes_B
  have := Runes_L1_spec s hB hs _ 0 [] rfl (by simp; omega)
  rw [List.drop_zero, List.nil_append] at this
  exact bnd1 this rfl

end Go.Proofs.YtagnebpehdonaaaDoorSim
