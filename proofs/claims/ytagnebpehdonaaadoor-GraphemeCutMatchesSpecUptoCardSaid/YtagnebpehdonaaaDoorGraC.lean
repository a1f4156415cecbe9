/- grapheme: the longest beginning of whole pieces. -/
import Derived.Test.YtagnebpehdonaaaDoorGraB
namespace Go.Proofs.YtagnebpehdonaaaDoorSim
open Go Go.Proofs
open Go.Proofs.Tryd (prog)
set_option linter.unusedVariables false
set_option linter.unusedSimpArgs false

/-- how many bytes are taken, n of them already -/
def cutLen (most : Int) (n : Nat) : List (List Int) → Nat
  | [] => n
  | p :: r => if ((n + p.length : Nat) : Int) > most then n else cutLen most (n + p.length) r

theorem cutLen_take (most : Int) : ∀ (ps : List (List Int)) (n : Nat), ∃ k, cutLen most n ps = n + (ps.take k).flatten.length
  | [], n => ⟨0, by simp [cutLen]⟩
  | p :: r, n => by
    rw [cutLen]
    split
    · exact ⟨0, by simp⟩
    · obtain ⟨k, hk⟩ := cutLen_take most r (n + p.length)
      exact ⟨k + 1, by rw [hk, List.take_succ_cons, List.flatten_cons, List.length_append]; omega⟩

theorem seg_len (s : List Int) (start i : Nat) (h1 : start ≤ i) (h2 : i ≤ s.length) : ((s.drop start).take (i - start)).length = i - start := by
  rw [List.length_take, List.length_drop]; omega

theorem Cut_Cc (s : List Int) (hs : s.length ≤ 2000000) (most : Int) (l : Int) (v : Bool) (f : Int) (start i : Nat) (size c : Int) (inv : Bool) (h1 : start ≤ i) (h2 : i ≤ s.length) :
    grapheme_Cut_C3 (pcL prog cfg) lpL (((), (), (start : Int), (), (i : Int), size, inv, c, ()), ((most, ()), (0, 0, ()), ((start : Int), ()), (s, ()), ((), (), ()), (l, v, f, ()), ())) =
      some (if (decide (i > start) && (inv || !joinsV l v f c)) = true then (if (i : Int) > most then Sum.inl ((), ((most, ()), (0, 0, ()), ((start : Int), ()), (s, ()), ((), (), ()), (l, v, f, ()), ()))
        else Sum.inr (((), (), (i : Int), (), (i : Int), size, inv, c, ()), ((most, ()), (0, 0, ()), ((i : Int), ()), (s, ()), ((), (), ()), (0, false, 0, ()), ())))
        else Sum.inr (((), (), (start : Int), (), (i : Int), size, inv, c, ()), ((most, ()), (0, 0, ()), ((start : Int), ()), (s, ()), ((), (), ()), (l, v, f, ()), ()))) := by
  unfold grapheme_Cut_C3
  dsimp only
  refine bnd1 (Cut_Cb s most start l v f start i size c inv) ?_
  dsimp only
  have hd : decide ((i : Int) > (start : Int)) = decide (i > start) := by rw [decide_eq_decide]; omega
  rw [hd]
  by_cases h : (decide (i > start) && (inv || !joinsV l v f c)) = true
  · rw [if_pos h]
    refine (ifd_t h).trans ?_
    refine (ifd_t (by simp only [decide_eq_true_eq]; omega)).trans ?_
    have hw : IntKind.wrap .i64 ((start : Int) + ((((s.drop start).take (i - start)).length : Nat) : Int)) = (i : Int) := by
      rw [seg_len s start i h1 h2, wrap64 (by omega) (by omega)]; omega
    rw [seg_eq, hw]
    by_cases hm : (i : Int) > most
    · rw [if_pos hm]
      exact ifd_t (decide_eq_true hm)
    · rw [if_neg hm]
      exact ifd_f (by simpa using hm)
  · rw [if_neg h]
    exact ifd_f h

theorem Cut_loop (s : List Int) (hB : Bytes s) (hs : s.length ≤ 2000000) (most : Int) : ∀ (k i start : Nat) (st : GS), s.length - i = k → start ≤ i → i ≤ s.length → (i = start → st = gs0) → 0 ≤ st.2.2 → st.2.2 ≤ i →
    (∃ (n : Nat) (st' : GS), n ≤ s.length ∧ grapheme_Cut_L4 (pcL prog cfg) lpL (((), (), (start : Int), (), (i : Int), ()), ((most, ()), (0, 0, ()), ((start : Int), ()), (s, ()), ((), (), ()), (st.1, st.2.1, st.2.2, ()), ())) = some (Sum.inl ((), ((most, ()), (0, 0, ()), ((n : Int), ()), (s, ()), ((), (), ()), (st'.1, st'.2.1, st'.2.2, ()), ()))) ∧
      n = cutLen most start (rest s start i st)) ∨
    (∃ (a : Nat) (st' : GS), a ≤ s.length ∧ grapheme_Cut_L4 (pcL prog cfg) lpL (((), (), (start : Int), (), (i : Int), ()), ((most, ()), (0, 0, ()), ((start : Int), ()), (s, ()), ((), (), ()), (st.1, st.2.1, st.2.2, ()), ())) = some (Sum.inr (((), (), (a : Int), ()), ((most, ()), (0, 0, ()), ((a : Int), ()), (s, ()), ((), (), ()), (st'.1, st'.2.1, st'.2.2, ()), ()))) ∧
      cutLen most a (if a < s.length then [s.drop a] else []) = cutLen most start (rest s start i st)) := by
  intro k
  induction k using Nat.strongRecOn with
  | _ k ih =>
    intro i start st hk h1 h2 hst hf0 hf1
    by_cases hi : i < s.length
    · have hd := drop_getD s i hi
      have hsz := rune1_size (s.getD i 0) (s.drop (i + 1))
      have hinv := inv_eq (s.getD i 0) (s.drop (i + 1)) (hB.getD i).1
      have hBd : Bytes (s.getD i 0 :: s.drop (i + 1)) := by rw [← hd]; exact hB.drop i
      have hdr := DecodeRune_spec (s.getD i 0) (s.drop (i + 1)) hBd (by rw [List.length_drop]; omega)
      rw [← hd] at hsz hinv hdr
      rw [List.length_drop] at hsz
      have fl : ∀ st1 : GS, 0 ≤ st1.2.2 → st1.2.2 ≤ i → 0 ≤ (upd st1 (rune1 (s.drop i)).1).2.2 ∧ (upd st1 (rune1 (s.drop i)).1).2.2 ≤ ((i + (rune1 (s.drop i)).2 : Nat) : Int) := fun st1 g1 g2 => by
        unfold upd
        dsimp only
        split <;> omega
      -- one round, as it goes on
      have round : ∀ (start' : Nat) (st1 : GS), start' ≤ i → 0 ≤ st1.2.2 → st1.2.2 ≤ i →
          (some (if (decide (i > start) && (decide ((rune1 (s.drop i)).1 < 0) || !joinsV st.1 st.2.1 st.2.2 (cls (fix (rune1 (s.drop i)).1)))) = true then (if (i : Int) > most then Sum.inl ((), ((most, ()), (0, 0, ()), ((start : Int), ()), (s, ()), ((), (), ()), (st.1, st.2.1, st.2.2, ()), ()))
            else Sum.inr (((), (), (i : Int), (), (i : Int), (((rune1 (s.drop i)).2 : Nat) : Int), decide ((rune1 (s.drop i)).1 < 0), cls (fix (rune1 (s.drop i)).1), ()), ((most, ()), (0, 0, ()), ((i : Int), ()), (s, ()), ((), (), ()), (0, false, 0, ()), ())))
            else Sum.inr (((), (), (start : Int), (), (i : Int), (((rune1 (s.drop i)).2 : Nat) : Int), decide ((rune1 (s.drop i)).1 < 0), cls (fix (rune1 (s.drop i)).1), ()), ((most, ()), (0, 0, ()), ((start : Int), ()), (s, ()), ((), (), ()), (st.1, st.2.1, st.2.2, ()), ())))
            : Option grapheme_Cut_C3_X) = some (Sum.inr (((), (), (start' : Int), (), (i : Int), (((rune1 (s.drop i)).2 : Nat) : Int), decide ((rune1 (s.drop i)).1 < 0), cls (fix (rune1 (s.drop i)).1), ()), ((most, ()), (0, 0, ()), ((start' : Int), ()), (s, ()), ((), (), ()), (st1.1, st1.2.1, st1.2.2, ()), ()))) →
          ∀ x, grapheme_Cut_L4 (pcL prog cfg) lpL (((), (), (start' : Int), (), ((i + (rune1 (s.drop i)).2 : Nat) : Int), ()), ((most, ()), (0, 0, ()), ((start' : Int), ()), (s, ()), ((), (), ()), ((upd st1 (rune1 (s.drop i)).1).1, (upd st1 (rune1 (s.drop i)).1).2.1, (upd st1 (rune1 (s.drop i)).1).2.2, ()), ())) = some x →
          grapheme_Cut_L4 (pcL prog cfg) lpL (((), (), (start : Int), (), (i : Int), ()), ((most, ()), (0, 0, ()), ((start : Int), ()), (s, ()), ((), (), ()), (st.1, st.2.1, st.2.2, ()), ())) = some x := by
        intro start' st1 g1 g2 g3 he x hx
        refine grapheme_Cut_L4_of ?_
        unfold grapheme_Cut_L4_R
        dsimp only
        refine (ifd_t (by simp only [decide_eq_true_eq]; omega)).trans ?_
        refine (ifd_t (by simp only [decide_eq_true_eq]; omega)).trans ?_
        rw [tail_eq]
        refine bnd2 hdr rfl ?_
        refine bnd1 (Cut_Ca s most start _ _ _ _ _ _ _) ?_
        dsimp only
        refine bnd2 (class_spec _) rfl ?_
        rw [hinv]
        refine bnd1 ((Cut_Cc s hs most _ _ _ start i _ _ _ h1 (by omega)).trans he) ?_
        simp only [Sum.elim_inr]
        rw [wrap64 (x := (i : Int) + (((rune1 (s.drop i)).2 : Nat) : Int)) (by omega) (by omega)]
        rw [Int.natCast_add] at hx
        unfold upd at hx
        by_cases h6 : cls (fix (rune1 (s.drop i)).1) = 6
        · refine (ifd_t (by rw [h6]; rfl)).trans ?_
          rw [wrap64 (by omega) (by omega)]
          simp only [h6, if_true] at hx ⊢
          exact hx
        · refine (ifd_f (by simpa using h6)).trans ?_
          simp only [h6, if_false] at hx ⊢
          exact hx
      by_cases hcase : i > start
      · by_cases hstop : stops st (rune1 (s.drop i)).1 = true
        · have hcond : (decide (i > start) && (decide ((rune1 (s.drop i)).1 < 0) || !joinsV st.1 st.2.1 st.2.2 (cls (fix (rune1 (s.drop i)).1)))) = true := by
            rw [decide_eq_true hcase, Bool.true_and]; exact hstop
          have hrs := rest_stop s start i st hi hcase hstop
          have hsl := seg_len s start i h1 h2
          have hcl : cutLen most start (rest s start i st) = if (i : Int) > most then start else cutLen most i (pieces (s.drop i)) := by
            rw [hrs, cutLen, hsl, show start + (i - start) = i by omega]
          by_cases hm : (i : Int) > most
          · left
            refine ⟨start, st, by omega, ?_, by rw [hcl, if_pos hm]⟩
            refine grapheme_Cut_L4_of ?_
            unfold grapheme_Cut_L4_R
            dsimp only
            refine (ifd_t (by simp only [decide_eq_true_eq]; omega)).trans ?_
            refine (ifd_t (by simp only [decide_eq_true_eq]; omega)).trans ?_
            rw [tail_eq]
            refine bnd2 hdr rfl ?_
            refine bnd1 (Cut_Ca s most start _ _ _ _ _ _ _) ?_
            dsimp only
            refine bnd2 (class_spec _) rfl ?_
            rw [hinv]
            refine bnd1 ((Cut_Cc s hs most _ _ _ start i _ _ _ h1 (by omega)).trans (by rw [if_pos hcond, if_pos hm])) ?_
            rfl
          · have hf := fl gs0 (by simp [gs0]) (by simp [gs0])
            have go := round i gs0 (by omega) (by simp [gs0]) (by simp [gs0]) (by rw [if_pos hcond, if_neg hm]; rfl)
            rw [hcl, if_neg hm, rest_fresh s i hi]
            rcases ih (s.length - (i + (rune1 (s.drop i)).2)) (by omega) (i + (rune1 (s.drop i)).2) i (upd gs0 (rune1 (s.drop i)).1) rfl (by omega) (by omega) (fun h => by omega) hf.1 hf.2 with ⟨n, b, r1, r2, r3⟩ | ⟨a, b, r1, r2, r3⟩
            · exact Or.inl ⟨n, b, r1, go _ r2, r3⟩
            · exact Or.inr ⟨a, b, r1, go _ r2, r3⟩
        · have hcond : ¬ (decide (i > start) && (decide ((rune1 (s.drop i)).1 < 0) || !joinsV st.1 st.2.1 st.2.2 (cls (fix (rune1 (s.drop i)).1)))) = true := by
            rw [decide_eq_true hcase, Bool.true_and]; exact hstop
          have hf := fl st hf0 hf1
          have go := round start st (by omega) hf0 hf1 (by rw [if_neg hcond])
          rw [rest_go s start i st hi hcase hstop]
          rcases ih (s.length - (i + (rune1 (s.drop i)).2)) (by omega) (i + (rune1 (s.drop i)).2) start (upd st (rune1 (s.drop i)).1) rfl (by omega) (by omega) (fun h => by omega) hf.1 hf.2 with ⟨n, b, r1, r2, r3⟩ | ⟨a, b, r1, r2, r3⟩
          · exact Or.inl ⟨n, b, r1, go _ r2, r3⟩
          · exact Or.inr ⟨a, b, r1, go _ r2, r3⟩
      · have hs0 : i = start := by omega
        have hst0 := hst hs0
        subst hst0
        have hcond : ¬ (decide (i > start) && (decide ((rune1 (s.drop i)).1 < 0) || !joinsV gs0.1 gs0.2.1 gs0.2.2 (cls (fix (rune1 (s.drop i)).1)))) = true := by
          rw [decide_eq_false hcase]; simp
        have hf := fl gs0 hf0 hf1
        have go := round start gs0 (by omega) hf0 hf1 (by rw [if_neg hcond])
        have hre : rest s start i gs0 = rest s start (i + (rune1 (s.drop i)).2) (upd gs0 (rune1 (s.drop i)).1) := by
          have : rest s start i gs0 = pieces (s.drop i) := by unfold rest; rw [if_pos hs0, hs0]
          rw [this, rest_fresh s i hi, hs0]
        rw [hre]
        rcases ih (s.length - (i + (rune1 (s.drop i)).2)) (by omega) (i + (rune1 (s.drop i)).2) start (upd gs0 (rune1 (s.drop i)).1) rfl (by omega) (by omega) (fun h => by omega) hf.1 hf.2 with ⟨n, b, r1, r2, r3⟩ | ⟨a, b, r1, r2, r3⟩
        · exact Or.inl ⟨n, b, r1, go _ r2, r3⟩
        · exact Or.inr ⟨a, b, r1, go _ r2, r3⟩
    · have hie : i = s.length := by omega
      right
      refine ⟨start, st, by omega, ?_, ?_⟩
      · refine grapheme_Cut_L4_of ?_
        unfold grapheme_Cut_L4_R
        dsimp only
        exact ifd_f (by simp only [decide_eq_true_eq]; omega)
      · rw [hie, rest_end s start st (by omega)]

theorem take_eq (s : List Int) (n : Nat) : List.drop (Int.toNat 0) (List.take (Int.toNat (n : Int)) s) = s.take n := by
  rw [Int.toNat_natCast]; rfl

theorem Cut_spec (s : List Int) (most : Int) (hB : Bytes s) (hs : s.length ≤ 2000000) : grapheme_Cut_c (pcL prog cfg) s most =
    some (if s.length > 12000 then ([], ((1, (-1, ())), ())) else if most < 0 then ([], ((3, (-2, ())), ())) else (s.take (cutLen most 0 (pieces s)), ((0, (0, ())), ()))) := by
  refine grapheme_Cut_of ?_
  unfold grapheme_Cut_B
  by_cases h12 : s.length > 12000
  · rw [if_pos h12]
    exact ifd_t (by simp only [decide_eq_true_eq]; omega)
  rw [if_neg h12]
  refine (ifd_f (by simp only [decide_eq_true_eq]; omega)).trans ?_
  by_cases hm : most < 0
  · rw [if_pos hm]
    exact ifd_t (decide_eq_true hm)
  rw [if_neg hm]
  refine (ifd_f (by simpa using hm)).trans ?_
  have hr : rest s 0 0 gs0 = pieces s := by unfold rest; rw [if_pos rfl, List.drop_zero]
  rcases Cut_loop s hB hs most _ 0 0 gs0 rfl (by omega) (by omega) (fun _ => rfl) (by simp [gs0]) (by simp [gs0]) with ⟨n, b, r1, r2, r3⟩ | ⟨a, b, r1, r2, r3⟩
  · refine bnd1 r2 ?_
    simp only [Sum.elim_inl]
    rw [hr] at r3
    refine (ifd_t (by simp only [decide_eq_true_eq]; omega)).trans ?_
    rw [take_eq, r3]
  · refine bnd1 r2 ?_
    simp only [Sum.elim_inr]
    rw [hr] at r3
    by_cases h : a < s.length
    · rw [if_pos h, cutLen, cutLen, List.length_drop, show a + (s.length - a) = s.length by omega] at r3
      refine (ifd_t (by simp only [decide_eq_true_eq]; omega)).trans ?_
      refine (ifd_t (by simp only [decide_eq_true_eq]; omega)).trans ?_
      have hw : IntKind.wrap .i64 ((a : Int) + (((s.drop a).length : Nat) : Int)) = (s.length : Int) := by
        rw [List.length_drop, wrap64 (by omega) (by omega)]; omega
      rw [tail_eq, hw]
      by_cases hc : (s.length : Int) > most
      · rw [if_pos hc] at r3
        refine (ifd_t (decide_eq_true hc)).trans ?_
        refine (ifd_t (by simp only [decide_eq_true_eq]; omega)).trans ?_
        rw [take_eq, r3]
      · rw [if_neg hc] at r3
        refine (ifd_f (by simpa using hc)).trans ?_
        refine (ifd_t (by simp only [decide_eq_true_eq]; omega)).trans ?_
        rw [take_eq, r3]
    · rw [if_neg h, cutLen] at r3
      refine (ifd_f (by simp only [decide_eq_true_eq]; omega)).trans ?_
      refine (ifd_t (by simp only [decide_eq_true_eq]; omega)).trans ?_
      rw [take_eq, r3]

end Go.Proofs.YtagnebpehdonaaaDoorSim
