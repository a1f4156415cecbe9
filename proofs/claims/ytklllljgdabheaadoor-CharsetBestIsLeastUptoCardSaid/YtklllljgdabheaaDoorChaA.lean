/- charset: names; the smallest set. -/
import Derived.Test.YtklllljgdabheaaDoorUtfW
namespace Go.Proofs.YtklllljgdabheaaDoorSim
open Go Go.Proofs
open Go.Proofs.Tryd (prog)
set_option linter.unusedVariables false
set_option linter.unusedSimpArgs false

def lowb (c : Int) : Int := if 65 ≤ c ∧ c ≤ 90 then c + 32 else c
def lowL (l : List Int) : List Int := l.map lowb

theorem set_take (m : List Int) (i : Nat) (v : Int) (h : i < m.length) : (m.set i v).take (i + 1) = m.take i ++ [v] := by
  rw [List.take_add_one, List.take_set_of_le (Nat.le_refl _)]
  simp [h]

theorem take_snoc (m : List Int) (i : Nat) (h : i < m.length) : m.take (i + 1) = m.take i ++ [m.getD i 0] := by
  rw [List.take_add_one, List.getD_eq_getElem?_getD, List.getElem?_eq_getElem h]
  rfl

theorem Lower_L1_spec : ∀ (k : Nat) (m : List Int) (i : Nat), Bytes m → m.length ≤ 2000000 → m.length - i = k →
    ref1_Lower_L1 (pcL prog cfg) lpL (((), (i : Int), ()), (m, ())) = some (((), ()), (m.take i ++ (m.drop i).map lowb, ())) := by
  intro k
  induction k with
  | zero =>
    intro m i hB hm hk
    refine ref1_Lower_L1_of ?_
    unfold ref1_Lower_L1_R
    dsimp only
    refine (ifd_f (by simp only [decide_eq_true_eq]; omega)).trans ?_
    rw [List.drop_eq_nil_of_le (by omega), List.take_of_length_le (by omega)]
    simp
  | succ k ih =>
    intro m i hB hm hk
    refine ref1_Lower_L1_of ?_
    unfold ref1_Lower_L1_R
    dsimp only
    have hb := hB.getD i
    rw [Int.toNat_natCast]
    refine (ifd_t (by simp only [decide_eq_true_eq]; omega)).trans ?_
    refine (ifd_t (by simp only [decide_eq_true_eq]; omega)).trans ?_
    refine (ifd_t (by simp only [decide_eq_true_eq]; omega)).trans ?_
    rw [wrap64 (x := m.getD i 0) (by omega) (by omega), wrap64 (x := (i : Int) + 1) (by omega) (by omega)]
    refine bnd2 (In_spec _ _ _) rfl ?_
    rw [drop_getD m i (by omega), List.map_cons]
    have hi1 : (i : Int) + 1 = ((i + 1 : Nat) : Int) := by omega
    rw [hi1]
    by_cases h : 65 ≤ m.getD i 0 ∧ m.getD i 0 ≤ 90
    · refine (ifd_t (decide_eq_true h)).trans ?_
      refine (ifd_t (by simp only [decide_eq_true_eq]; omega)).trans ?_
      refine (ifd_t (by simp only [decide_eq_true_eq]; omega)).trans ?_
      refine (ifd_t (by simp only [decide_eq_true_eq]; omega)).trans ?_
      refine (ifd_t (by simp only [decide_eq_true_eq]; omega)).trans ?_
      rw [wrapU8i (by omega) (by omega)]
      have e : lowb (m.getD i 0) = m.getD i 0 + 32 := if_pos h
      rw [e]
      have hB' : Bytes (m.set i (m.getD i 0 + 32)) := fun x hx => by
        rcases List.mem_or_eq_of_mem_set hx with hx | hx
        · exact hB x hx
        · omega
      have := ih (m.set i (m.getD i 0 + 32)) (i + 1) hB' (by simpa using hm) (by simp; omega)
      rw [set_take _ _ _ (by omega), List.drop_set_of_lt (by omega)] at this
      refine this.trans ?_
      simp
    · refine (ifd_f (by simpa using h)).trans ?_
      have e : lowb (m.getD i 0) = m.getD i 0 := if_neg h
      rw [e]
      have := ih m (i + 1) hB hm (by omega)
      rw [take_snoc _ _ (by omega)] at this
      refine this.trans ?_
      simp

theorem rLower_spec (l : List Int) (hB : Bytes l) (hl : l.length ≤ 2000000) : ref1_Lower_c (pcL prog cfg) l = some (lowL l) := by
  refine ref1_Lower_of ?_
  unfold ref1_Lower_B
  refine (ifd_t (by simp only [decide_eq_true_eq]; omega)).trans ?_
  exact bnd1 (Lower_L1_spec _ l 0 hB hl rfl) (by simp [lowL])

theorem lower_L1_spec (n : Nat) : ∀ (k : Nat) (m : List Int) (i : Nat), Bytes m → m.length ≤ 2000000 → m.length = n → m.length - i = k →
    charset_lower_L1 (pcL prog cfg) lpL (((), (), (n : Int), (i : Int), ()), (m, ())) = some (((), ()), (m.take i ++ (m.drop i).map lowb, ())) := by
  intro k
  induction k with
  | zero =>
    intro m i hB hm hn hk
    refine charset_lower_L1_of ?_
    unfold charset_lower_L1_R
    dsimp only
    refine (ifd_f (by simp only [decide_eq_true_eq]; omega)).trans ?_
    rw [List.drop_eq_nil_of_le (by omega), List.take_of_length_le (by omega)]
    simp
  | succ k ih =>
    intro m i hB hm hn hk
    refine charset_lower_L1_of ?_
    unfold charset_lower_L1_R
    dsimp only
    have hb := hB.getD i
    rw [Int.toNat_natCast]
    refine (ifd_t (by simp only [decide_eq_true_eq]; omega)).trans ?_
    refine (ifd_t (by simp only [decide_eq_true_eq]; omega)).trans ?_
    refine (ifd_t (by simp only [decide_eq_true_eq]; omega)).trans ?_
    rw [wrap64 (x := (i : Int) + 1) (by omega) (by omega)]
    rw [drop_getD m i (by omega), List.map_cons]
    have hi1 : (i : Int) + 1 = ((i + 1 : Nat) : Int) := by omega
    rw [hi1]
    have stay : ¬ (65 ≤ m.getD i 0 ∧ m.getD i 0 ≤ 90) → charset_lower_L1 (pcL prog cfg) lpL (((), (), (n : Int), ((i + 1 : Nat) : Int), ()), (m, ())) = some (((), ()), (m.take i ++ lowb (m.getD i 0) :: (m.drop (i + 1)).map lowb, ())) := fun h => by
      have e : lowb (m.getD i 0) = m.getD i 0 := if_neg h
      rw [e]
      have := ih m (i + 1) hB hm hn (by omega)
      rw [take_snoc _ _ (by omega)] at this
      refine this.trans ?_
      simp
    by_cases h65 : m.getD i 0 ≥ 65
    · refine (ifd_t (decide_eq_true h65)).trans ?_
      refine (ifd_t (decide_eq_true h65)).trans ?_
      by_cases h90 : m.getD i 0 ≤ 90
      · refine (ifd_t (decide_eq_true h90)).trans ?_
        refine (ifd_t (by simp only [decide_eq_true_eq]; omega)).trans ?_
        refine (ifd_t (by simp only [decide_eq_true_eq]; omega)).trans ?_
        have e0 : IntKind.wrap .u8 (IntKind.wrap .u8 (m.getD i 0 + 97) - 65) = m.getD i 0 + 32 := by
          rw [wrapU8, wrapU8]; omega
        rw [e0]
        have e : lowb (m.getD i 0) = m.getD i 0 + 32 := if_pos ⟨h65, h90⟩
        rw [e]
        have hB' : Bytes (m.set i (m.getD i 0 + 32)) := fun x hx => by
          rcases List.mem_or_eq_of_mem_set hx with hx | hx
          · exact hB x hx
          · omega
        have := ih (m.set i (m.getD i 0 + 32)) (i + 1) hB' (by simpa using hm) (by simpa using hn) (by simp; omega)
        rw [set_take _ _ _ (by omega), List.drop_set_of_lt (by omega)] at this
        refine this.trans ?_
        simp
      · refine (ifd_f (by simpa using h90)).trans ?_
        exact stay (fun h => h90 h.2)
    · refine (ifd_f (by simpa using h65)).trans ?_
      refine (ifd_f (by simpa using h65)).trans ?_
      exact stay (fun h => h65 h.1)

theorem lower_spec (l : List Int) (hB : Bytes l) (hl : l.length ≤ 2000000) : charset_lower_c (pcL prog cfg) l = some (lowL l) := by
  refine charset_lower_of ?_
  unfold charset_lower_B
  refine (ifd_t (by simp only [decide_eq_true_eq]; omega)).trans ?_
  exact bnd1 (lower_L1_spec l.length _ l 0 hB hl rfl rfl) (by simp [lowL])

/-- the number of a set -/
def setOf (name : List Int) : Int :=
  if lowL name = [97, 115, 99, 105, 105] then 0 else if lowL name = [108, 97, 116, 105, 110, 49] then 1
  else if lowL name = [117, 116, 102, 56] then 2 else if lowL name = [117, 116, 102, 49, 54, 98, 101] then 3 else -1

theorem Alike_spec (a b : List Int) (ha : Bytes a) (hb : Bytes b) (hla : a.length ≤ 2000000) (hlb : b.length ≤ 2000000) : ref1_Alike_c (pcL prog cfg) a b = some (lowL a == lowL b) := by
  refine ref1_Alike_of ?_
  unfold ref1_Alike_B
  refine bnd2 (rLower_spec a ha hla) rfl ?_
  exact bnd2 (rLower_spec b hb hlb) rfl rfl

theorem SetOf_spec (name : List Int) (hB : Bytes name) (hl : name.length ≤ 2000000) : ref1_SetOf_c (pcL prog cfg) name = some (setOf name) := by
  refine ref1_SetOf_of ?_
  unfold ref1_SetOf_B
  have b0 : Bytes [97, 115, 99, 105, 105] := fun x hx => by simp at hx; omega
  have b1 : Bytes [108, 97, 116, 105, 110, 49] := fun x hx => by simp at hx; omega
  have b2 : Bytes [117, 116, 102, 56] := fun x hx => by simp at hx; omega
  have b3 : Bytes [117, 116, 102, 49, 54, 98, 101] := fun x hx => by simp at hx; omega
  have a0 := Alike_spec _ name b0 hB (by simp) hl
  have a1 := Alike_spec _ name b1 hB (by simp) hl
  have a2 := Alike_spec _ name b2 hB (by simp) hl
  have a3 := Alike_spec _ name b3 hB (by simp) hl
  rw [show lowL [97, 115, 99, 105, 105] = [97, 115, 99, 105, 105] from rfl] at a0
  rw [show lowL [108, 97, 116, 105, 110, 49] = [108, 97, 116, 105, 110, 49] from rfl] at a1
  rw [show lowL [117, 116, 102, 56] = [117, 116, 102, 56] from rfl] at a2
  rw [show lowL [117, 116, 102, 49, 54, 98, 101] = [117, 116, 102, 49, 54, 98, 101] from rfl] at a3
  have r4 : ref1_SetOf_L1 (pcL prog cfg) lpL ((name, [[97, 115, 99, 105, 105], [108, 97, 116, 105, 110, 49], [117, 116, 102, 56], [117, 116, 102, 49, 54, 98, 101]], 4, ()), ()) = some (Sum.inr ((), ())) := by
    refine ref1_SetOf_L1_of ?_
    unfold ref1_SetOf_L1_R
    exact ifd_f (by simp)
  have step : ∀ (k : Nat) (s : List Int), k < 4 → ([[97, 115, 99, 105, 105], [108, 97, 116, 105, 110, 49], [117, 116, 102, 56], [117, 116, 102, 49, 54, 98, 101]] : List (List Int)).getD k [] = s → ref1_Alike_c (pcL prog cfg) s name = some (s == lowL name) →
      ∀ x, (lowL name ≠ s → ref1_SetOf_L1 (pcL prog cfg) lpL ((name, [[97, 115, 99, 105, 105], [108, 97, 116, 105, 110, 49], [117, 116, 102, 56], [117, 116, 102, 49, 54, 98, 101]], ((k + 1 : Nat) : Int), ()), ()) = some x) → (lowL name = s → x = Sum.inl (((k : Int), ()), ())) →
      ref1_SetOf_L1 (pcL prog cfg) lpL ((name, [[97, 115, 99, 105, 105], [108, 97, 116, 105, 110, 49], [117, 116, 102, 56], [117, 116, 102, 49, 54, 98, 101]], (k : Int), ()), ()) = some x := by
    intro k s hk hs ha x h1 h2
    refine ref1_SetOf_L1_of ?_
    unfold ref1_SetOf_L1_R
    dsimp only
    refine (ifd_t (by simp only [decide_eq_true_eq, List.length_cons, List.length_nil]; omega)).trans ?_
    refine (ifd_t (by simp only [decide_eq_true_eq, List.length_cons, List.length_nil]; omega)).trans ?_
    rw [Int.toNat_natCast, hs]
    refine bnd2 ha rfl ?_
    by_cases h : lowL name = s
    · refine (ifd_t (by rw [h]; simp)).trans ?_
      rw [h2 h]
    · refine (ifd_f (by intro hc; rw [beq_iff_eq] at hc; exact h hc.symm)).trans ?_
      rw [wrap64 (by omega) (by omega)]
      have := h1 h
      rwa [Int.natCast_add] at this
  unfold setOf
  by_cases h0 : lowL name = [97, 115, 99, 105, 105]
  · rw [if_pos h0]
    exact bnd1 (step 0 _ (by omega) rfl a0 _ (fun h => absurd h0 h) (fun _ => rfl)) rfl
  · rw [if_neg h0]
    by_cases h1 : lowL name = [108, 97, 116, 105, 110, 49]
    · rw [if_pos h1]
      exact bnd1 (step 0 _ (by omega) rfl a0 _ (fun _ => step 1 _ (by omega) rfl a1 _ (fun h => absurd h1 h) (fun _ => rfl)) (fun h => absurd h h0)) rfl
    · rw [if_neg h1]
      by_cases h2 : lowL name = [117, 116, 102, 56]
      · rw [if_pos h2]
        exact bnd1 (step 0 _ (by omega) rfl a0 _ (fun _ => step 1 _ (by omega) rfl a1 _ (fun _ => step 2 _ (by omega) rfl a2 _ (fun h => absurd h2 h) (fun _ => rfl)) (fun h => absurd h h1)) (fun h => absurd h h0)) rfl
      · rw [if_neg h2]
        by_cases h3 : lowL name = [117, 116, 102, 49, 54, 98, 101]
        · rw [if_pos h3]
          exact bnd1 (step 0 _ (by omega) rfl a0 _ (fun _ => step 1 _ (by omega) rfl a1 _ (fun _ => step 2 _ (by omega) rfl a2 _ (fun _ => step 3 _ (by omega) rfl a3 _ (fun h => absurd h3 h) (fun _ => rfl)) (fun h => absurd h h2)) (fun h => absurd h h1)) (fun h => absurd h h0)) rfl
        · rw [if_neg h3]
          exact bnd1 (step 0 _ (by omega) rfl a0 _ (fun _ => step 1 _ (by omega) rfl a1 _ (fun _ => step 2 _ (by omega) rfl a2 _ (fun _ => step 3 _ (by omega) rfl a3 _ (fun _ => r4) (fun h => absurd h h3)) (fun h => absurd h h2)) (fun h => absurd h h1)) (fun h => absurd h h0)) rfl

/-! ### the greatest character -/

def most (m : Int) (l : List Int) : Int := l.foldl (fun m n => max m (fix n)) m
def bestName (m : Int) : List Int := if m < 128 then [97, 115, 99, 105, 105] else if m < 256 then [108, 97, 116, 105, 110, 49] else [117, 116, 102, 56]

theorem decFix (l : List Int) (i : Nat) (hB : Bytes l) (h : i < l.length) : ((decRune l i).1 : Int) = fix (rune1 (l.drop i)).1 ∧ (decRune l i).2 = (rune1 (l.drop i)).2 := by
  rw [decRune_spec l i hB h]
  refine ⟨?_, rfl⟩
  unfold fix
  dsimp only
  split <;> omega

theorem Best_L1_spec (s : List Int) (hB : Bytes s) : ∀ (k i : Nat) (m : Int), s.length - i = k →
    ∃ p, charset_Best_L1 (pcL prog cfg) lpL ((m, (), ()), ((s, i), ())) = some ((most m (runesL (s.drop i)), ()), ((s, p), ())) := by
  intro k
  induction k using Nat.strongRecOn with
  | _ k ih =>
    intro i m hk
    by_cases hi : i < s.length
    · have hd := drop_getD s i hi
      have hsz := rune1_size (s.getD i 0) (s.drop (i + 1))
      have hv := runesL_cons (s.getD i 0) (s.drop (i + 1))
      rw [← hd] at hsz hv
      obtain ⟨d1, d2⟩ := decFix s i hB hi
      obtain ⟨p, hp⟩ := ih (s.length - (i + (rune1 (s.drop i)).2)) (by omega) (i + (rune1 (s.drop i)).2) (max m (fix (rune1 (s.drop i)).1)) rfl
      refine ⟨p, ?_⟩
      refine charset_Best_L1_of ?_
      unfold charset_Best_L1_R
      dsimp only
      refine (ifd_t hi).trans ?_
      rw [d1, d2, hv, hp, ← List.drop_drop]
      rfl
    · refine ⟨i, ?_⟩
      refine charset_Best_L1_of ?_
      unfold charset_Best_L1_R
      dsimp only
      refine (ifd_f hi).trans ?_
      rw [List.drop_eq_nil_of_le (by omega), runesL]
      rfl

theorem Best_spec (s : List Int) (hB : Bytes s) : charset_Best_c (pcL prog cfg) s = some (bestName (most 0 (runesL s))) := by
  refine charset_Best_of ?_
  unfold charset_Best_B
  obtain ⟨p, hp⟩ := Best_L1_spec s hB _ 0 0 rfl
  rw [List.drop_zero] at hp
  refine bnd1 hp ?_
  dsimp only
  unfold bestName
  generalize most 0 (runesL s) = m
  by_cases h1 : m < 128
  · rw [if_pos h1]; exact ifd_t (decide_eq_true h1)
  · rw [if_neg h1]
    refine (ifd_f (by simpa using h1)).trans ?_
    by_cases h2 : m < 256
    · rw [if_pos h2]; exact ifd_t (decide_eq_true h2)
    · rw [if_neg h2]; exact ifd_f (by simpa using h2)

theorem rBest_L1_spec (l : List Int) (hl : l.length ≤ 2000000) : ∀ (k i : Nat) (m : Int), l.length - i = k → 0 ≤ m →
    ref1_Best_L1 (pcL prog cfg) lpL ((m, l, (i : Int), ()), ()) = some ((most m (l.drop i), ()), ()) := by
  intro k
  induction k with
  | zero =>
    intro i m hk hm
    refine ref1_Best_L1_of ?_
    unfold ref1_Best_L1_R
    dsimp only
    refine (ifd_f (by simp only [decide_eq_true_eq]; omega)).trans ?_
    rw [List.drop_eq_nil_of_le (by omega)]
    rfl
  | succ k ih =>
    intro i m hk hm
    refine ref1_Best_L1_of ?_
    unfold ref1_Best_L1_R
    dsimp only
    rw [Int.toNat_natCast, wrap64 (by omega) (by omega)]
    refine (ifd_t (by simp only [decide_eq_true_eq]; omega)).trans ?_
    refine (ifd_t (by simp only [decide_eq_true_eq]; omega)).trans ?_
    have hd := drop_getD l i (by omega)
    have hi1 : (i : Int) + 1 = ((i + 1 : Nat) : Int) := by omega
    rw [hd, hi1]
    have e : most m (l.getD i 0 :: l.drop (i + 1)) = most (max m (fix (l.getD i 0))) (l.drop (i + 1)) := rfl
    rw [e]
    generalize l.getD i 0 = n
    unfold fix
    by_cases h : n < 0
    · refine (ifd_t (decide_eq_true h)).trans ?_
      rw [if_pos h]
      by_cases h2 : (65533 : Int) > m
      · refine (ifd_t (decide_eq_true h2)).trans ?_
        rw [Int.max_eq_right (by omega)]
        exact ih (i + 1) 65533 (by omega) (by omega)
      · refine (ifd_f (by simpa using h2)).trans ?_
        rw [Int.max_eq_left (by omega)]
        exact ih (i + 1) m (by omega) hm
    · refine (ifd_f (by simpa using h)).trans ?_
      rw [if_neg h]
      by_cases h2 : n > m
      · refine (ifd_t (decide_eq_true h2)).trans ?_
        rw [Int.max_eq_right (by omega)]
        exact ih (i + 1) n (by omega) (by omega)
      · refine (ifd_f (by simpa using h2)).trans ?_
        rw [Int.max_eq_left (by omega)]
        exact ih (i + 1) m (by omega) hm

theorem rBest_spec (s : List Int) (hB : Bytes s) (hs : s.length ≤ 2000000) : ref1_Best_c (pcL prog cfg) s = some (bestName (most 0 (runesL s))) := by
  refine ref1_Best_of ?_
  unfold ref1_Best_B
  refine bnd2 (Runes_spec s hB hs) rfl ?_
  have hl := runesL_len _ s rfl
  refine bnd1 (rBest_L1_spec (runesL s) (by omega) _ 0 0 rfl (by omega)) ?_
  dsimp only
  rw [List.drop_zero]
  unfold bestName
  generalize most 0 (runesL s) = m
  by_cases h1 : m < 128
  · rw [if_pos h1]; exact ifd_t (decide_eq_true h1)
  · rw [if_neg h1]
    refine (ifd_f (by simpa using h1)).trans ?_
    by_cases h2 : m < 256
    · rw [if_pos h2]; exact ifd_t (decide_eq_true h2)
    · rw [if_neg h2]; exact ifd_f (by simpa using h2)

end Go.Proofs.YtklllljgdabheaaDoorSim
