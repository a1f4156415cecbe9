/- base64: the functions in plain form. -/
import Derived.Test.YthnfcjbglfkhlaaGen1
import Derived.Test.YthnfcjbglfkhlaaPl
namespace Go.Proofs.YthnfcjbglfkhlaaSim
open Go Go.Proofs
open Go.Proofs.Try (prog)
set_option linter.unusedVariables false
set_option linter.unusedSimpArgs false

def al : List Int := [65, 66, 67, 68, 69, 70, 71, 72, 73, 74, 75, 76, 77, 78, 79, 80, 81, 82, 83, 84, 85, 86, 87, 88, 89, 90, 97, 98, 99, 100, 101, 102, 103, 104, 105, 106, 107, 108, 109, 110, 111, 112, 113, 114, 115, 116, 117, 118, 119, 120, 121, 122, 48, 49, 50, 51, 52, 53, 54, 55, 56, 57, 43, 47]
theorem al_def : al = [65, 66, 67, 68, 69, 70, 71, 72, 73, 74, 75, 76, 77, 78, 79, 80, 81, 82, 83, 84, 85, 86, 87, 88, 89, 90, 97, 98, 99, 100, 101, 102, 103, 104, 105, 106, 107, 108, 109, 110, 111, 112, 113, 114, 115, 116, 117, 118, 119, 120, 121, 122, 48, 49, 50, 51, 52, 53, 54, 55, 56, 57, 43, 47] := rfl
def chr (n : Int) : Int := al.getD n.toNat 0

def g1 (a : Int) : List Int := [chr (a / 4), chr (a % 4 * 16), 61, 61]
def g2 (a b : Int) : List Int := [chr (a / 4), chr (a % 4 * 16 + b / 16), chr (b % 16 * 4), 61]
def g3 (a b c : Int) : List Int := [chr (a / 4), chr (a % 4 * 16 + b / 16), chr (b % 16 * 4 + c / 64), chr (c % 64)]

def enc : List Int → List Int
  | [] => []
  | [a] => g1 a
  | [a, b] => g2 a b
  | a :: b :: c :: r => g3 a b c ++ enc r

theorem or8 {x y : Int} (hx : 0 ≤ x) (hx' : x ≤ 1000000) (hy : 0 ≤ y ∧ y ≤ 255) : ibits .or .i64 (x * 256) y = x * 256 + y :=
  or_shift 8 hx hy.1 (by omega) (by omega)

theorem and63 {x : Int} (hx : 0 ≤ x) (hx' : x ≤ 9223372036854775807) : ibits .and .i64 x 63 = x % 64 := and_mask 6 hx hx' (by decide)

theorem Group_L2_spec (i : Int) (l : List Int) (hl : l.length = 4) (k : Nat) (hi : i = 4 - k) (hk : k ≤ 3) :
    base64_Group_L2 (pcL prog cfg) lpL (((), i, ()), (l, ())) = some (((), ()), (l.take i.toNat ++ List.replicate k 61, ())) := by
  induction k generalizing i l with
  | zero =>
    refine base64_Group_L2_of ?_
    have : i = 4 := by omega
    subst this
    simp [base64_Group_L2_R, ifd_eq, ← hl]
  | succ k ih =>
    refine base64_Group_L2_of ?_
    unfold base64_Group_L2_R
    dsimp only
    refine (ifd_t (by simp only [decide_eq_true_eq]; omega)).trans ?_
    refine (ifd_t (by simp only [decide_eq_true_eq]; omega)).trans ?_
    refine (ifd_t (by simp only [decide_eq_true_eq]; omega)).trans ?_
    rw [wrap64 (by omega) (by omega), ih _ _ (by simp [hl]) (by omega) (by omega)]
    have e : (i + 1).toNat = i.toNat + 1 := by omega
    rw [e, List.take_succ_eq_append_getElem (by simp [hl]; omega)]
    simp [List.replicate_succ, List.take_set]
    rw [List.set_eq_of_length_le (by simp; omega)]

theorem L1_stop (l : List Int) (n : Int) : base64_Group_L1 (pcL prog cfg) lpL ((l, n, 3, ()), ()) = some ((l, n, ()), ()) := by
  refine base64_Group_L1_of ?_
  unfold base64_Group_L1_R
  dsimp only
  exact ifd_f (by simp)

theorem L1_in (l : List Int) (n i b : Int) (hi : 0 ≤ i) (hi3 : i < 3) (hl : i < l.length) (hb : l.getD i.toNat 0 = b) (hb' : 0 ≤ b ∧ b ≤ 255) (hn : 0 ≤ n) (hn' : n ≤ 1000000) (x) (h : base64_Group_L1 (pcL prog cfg) lpL ((l, n * 256 + b, i + 1, ()), ()) = some x) :
    base64_Group_L1 (pcL prog cfg) lpL ((l, n, i, ()), ()) = some x := by
  refine base64_Group_L1_of ?_
  unfold base64_Group_L1_R
  dsimp only
  refine (ifd_t (by simp only [decide_eq_true_eq]; omega)).trans ?_
  refine (ifd_t (by simp only [decide_eq_true_eq]; omega)).trans ?_
  refine (ifd_t (by simp only [decide_eq_true_eq]; omega)).trans ?_
  rw [show (2 : Int) ^ (min (Int.toNat 8) 64) = 256 from rfl, hb, wrap64 (by omega) (by omega), wrap64 (by omega) (by omega), or8 hn hn' hb', wrap64 (by omega) (by omega)]
  exact h

theorem L1_out (l : List Int) (n i : Int) (hi : 0 ≤ i) (hi3 : i < 3) (hl : ¬ i < l.length) (hn : 0 ≤ n) (hn' : n ≤ 1000000) (x) (h : base64_Group_L1 (pcL prog cfg) lpL ((l, n * 256, i + 1, ()), ()) = some x) :
    base64_Group_L1 (pcL prog cfg) lpL ((l, n, i, ()), ()) = some x := by
  refine base64_Group_L1_of ?_
  unfold base64_Group_L1_R
  dsimp only
  refine (ifd_t (by simp only [decide_eq_true_eq]; omega)).trans ?_
  refine (ifd_f (by simp only [decide_eq_true_eq]; omega)).trans ?_
  rw [show (2 : Int) ^ (min (Int.toNat 8) 64) = 256 from rfl, wrap64 (by omega) (by omega), wrap64 (by omega) (by omega)]
  exact h

/-- the four characters of a number of 24 bits -/
def four (n : Int) : List Int := [chr (n / 262144), chr (n / 4096 % 64), chr (n / 64 % 64), chr (n % 64)]

theorem al_len : (List.length al : Int) = 64 := rfl

theorem Group_of_n (l : List Int) (n : Int) (hl : 1 ≤ l.length) (hl3 : l.length ≤ 3) (hn : 0 ≤ n) (hn' : n < 16777216) (h : base64_Group_L1 (pcL prog cfg) lpL ((l, 0, 0, ()), ()) = some ((l, n, ()), ())) :
    base64_Group_c (pcL prog cfg) l = some ((four n).take (l.length + 1) ++ List.replicate (3 - l.length) 61) := by
  refine base64_Group_of ?_
  unfold base64_Group_B
  refine bnd1 h ?_
  dsimp only
  rw [show (2 : Int) ^ (min (Int.toNat 18) 64) = 262144 from rfl, show (2 : Int) ^ (min (Int.toNat 12) 64) = 4096 from rfl, show (2 : Int) ^ (min (Int.toNat 6) 64) = 64 from rfl]
  rw [fdiv_pos (by omega), fdiv_pos (by omega), fdiv_pos (by omega), and63 (by omega) (by omega), and63 (by omega) (by omega), and63 (by omega) (by omega)]
  change ifd (decide (0 ≤ n / 262144 ∧ n / 262144 < (List.length al : Int)) = true) _ _ = _
  rw [al_len]
  refine (ifd_t (by simp only [decide_eq_true_eq]; omega)).trans ?_
  change ifd (decide (0 ≤ n / 4096 % 64 ∧ n / 4096 % 64 < (List.length al : Int)) = true) _ _ = _
  rw [al_len]
  refine (ifd_t (by simp only [decide_eq_true_eq]; omega)).trans ?_
  change ifd (decide (0 ≤ n / 64 % 64 ∧ n / 64 % 64 < (List.length al : Int)) = true) _ _ = _
  rw [al_len]
  refine (ifd_t (by simp only [decide_eq_true_eq]; omega)).trans ?_
  change ifd (decide (0 ≤ n % 64 ∧ n % 64 < (List.length al : Int)) = true) _ _ = _
  rw [al_len]
  refine (ifd_t (by simp only [decide_eq_true_eq]; omega)).trans ?_
  rw [wrap64 (by omega) (by omega)]
  refine bnd1 (Group_L2_spec (l.length + 1) (four n) rfl (3 - l.length) (by omega) (by omega)) ?_
  have e : ((l.length : Int) + 1).toNat = l.length + 1 := by omega
  rw [e]

theorem Group1 (a : Int) (ha : 0 ≤ a ∧ a ≤ 255) : base64_Group_c (pcL prog cfg) [a] = some (g1 a) := by
  rw [Group_of_n [a] (((0 * 256 + a) * 256) * 256) (by simp) (by simp) (by omega) (by omega)
    (L1_in _ _ _ a (by omega) (by omega) (by simp) rfl ha (by omega) (by omega) _ (L1_out _ _ _ (by omega) (by omega) (by simp) (by omega) (by omega) _ (L1_out _ _ _ (by omega) (by omega) (by simp) (by omega) (by omega) _ (L1_stop _ _))))]
  simp only [four, g1, List.length_cons, List.length_nil]
  congr 1
  simp
  constructor <;> congr 1 <;> omega

theorem Group2 (a b : Int) (ha : 0 ≤ a ∧ a ≤ 255) (hb : 0 ≤ b ∧ b ≤ 255) : base64_Group_c (pcL prog cfg) [a, b] = some (g2 a b) := by
  rw [Group_of_n [a, b] (((0 * 256 + a) * 256 + b) * 256) (by simp) (by simp) (by omega) (by omega)
    (L1_in _ _ _ a (by omega) (by omega) (by simp) rfl ha (by omega) (by omega) _ (L1_in _ _ _ b (by omega) (by omega) (by simp) rfl hb (by omega) (by omega) _ (L1_out _ _ _ (by omega) (by omega) (by simp) (by omega) (by omega) _ (L1_stop _ _))))]
  simp only [four, g2, List.length_cons, List.length_nil]
  congr 1
  simp
  refine ⟨?_, ?_, ?_⟩ <;> congr 1 <;> omega

theorem Group3 (a b c : Int) (ha : 0 ≤ a ∧ a ≤ 255) (hb : 0 ≤ b ∧ b ≤ 255) (hc : 0 ≤ c ∧ c ≤ 255) : base64_Group_c (pcL prog cfg) [a, b, c] = some (g3 a b c) := by
  rw [Group_of_n [a, b, c] (((0 * 256 + a) * 256 + b) * 256 + c) (by simp) (by simp) (by omega) (by omega)
    (L1_in _ _ _ a (by omega) (by omega) (by simp) rfl ha (by omega) (by omega) _ (L1_in _ _ _ b (by omega) (by omega) (by simp) rfl hb (by omega) (by omega) _ (L1_in _ _ _ c (by omega) (by omega) (by simp) rfl hc (by omega) (by omega) _ (L1_stop _ _))))]
  simp only [four, g3, List.length_cons, List.length_nil]
  congr 1
  simp
  refine ⟨?_, ?_, ?_, ?_⟩ <;> congr 1 <;> omega

theorem enc_take (l : List Int) (hl : l ≠ []) : ∃ g, enc l = g ++ enc (l.drop 3) ∧ g.length = 4 ∧ (Bytes l → base64_Group_c (pcL prog cfg) (l.take 3) = some g) := by
  match l, hl with
  | [a], _ => exact ⟨g1 a, by simp [enc], rfl, fun h => Group1 a (h a (by simp))⟩
  | [a, b], _ => exact ⟨g2 a b, by simp [enc], rfl, fun h => Group2 a b (h a (by simp)) (h b (by simp))⟩
  | a :: b :: c :: r, _ => exact ⟨g3 a b c, by simp [enc], rfl, fun h => Group3 a b c (h a (by simp)) (h b (by simp)) (h c (by simp))⟩

theorem Plain_L1_spec (s : List Int) (hs : Bytes s) (hb : s.length ≤ 4000000000) : ∀ (k i : Nat) (out : List Int), s.length - i ≤ k → out.length + 4 * (s.length - i) ≤ 100000000000 →  i ≤ s.length + 3 →
    base64_Plain_L1 (pcL prog cfg) lpL (((), (), (), (i : Int), ()), ((out, ()), (s, ()), (3, ()), ((), ()), ())) = some ((), ((out ++ enc (s.drop i), ()), (s, ()), (3, ()), ((), ()), ())) := by
  intro k
  induction k with
  | zero =>
    intro i out hk ho hi
    refine base64_Plain_L1_of ?_
    unfold base64_Plain_L1_R
    dsimp only
    refine (ifd_f (by simp only [decide_eq_true_eq]; omega)).trans ?_
    rw [List.drop_of_length_le (by omega)]
    simp [enc]
  | succ k ih =>
    intro i out hk ho hi
    by_cases hlt : i < s.length
    · refine base64_Plain_L1_of ?_
      unfold base64_Plain_L1_R
      dsimp only
      rw [chunk_end s i 3 (by omega) (by omega) (by omega) (by omega) hb, chunk_part s i 3 (by omega) (by omega) (by omega)]
      refine (ifd_t (by simp only [decide_eq_true_eq]; omega)).trans ?_
      refine (ifd_t (by simp only [decide_eq_true_eq]; omega)).trans ?_
      refine (ifd_t (by simp only [decide_eq_true_eq]; omega)).trans ?_
      rw [Int.toNat_natCast]
      obtain ⟨g, hg1, hg2, hg3⟩ := enc_take (s.drop i) (by simp; omega)
      refine bnd2 (hg3 (hs.drop i)) rfl ?_
      refine (ifd_t (by simp only [decide_eq_true_eq]; omega)).trans ?_
      rw [wrap64 (by omega) (by omega)]
      have := ih (i + 3) (out ++ g) (by omega) (by simp; omega) (by omega)
      rw [show ((i : Int) + 3) = ((i + 3 : Nat) : Int) by omega, this, hg1, List.drop_drop]
      simp
    · refine base64_Plain_L1_of ?_
      unfold base64_Plain_L1_R
      dsimp only
      refine (ifd_f (by simp only [decide_eq_true_eq]; omega)).trans ?_
      rw [List.drop_of_length_le (by omega)]
      simp [enc]

theorem Plain_spec (s : List Int) (hs : Bytes s) (hb : s.length ≤ 4000000000) : base64_Plain_c (pcL prog cfg) s = some (enc s) := by
  refine base64_Plain_of ?_
  unfold base64_Plain_B
  refine bnd1 (Plain_L1_spec s hs hb s.length 0 [] (by omega) (by simp; omega) (by omega)) ?_
  simp

def lines : Nat → List Int → List Int
  | 0, _ => []
  | k + 1, l => if l = [] then [] else l.take 76 ++ [13, 10] ++ lines k (l.drop 76)

def enc76 (l : List Int) : List Int := lines l.length l

theorem lines_more : ∀ (k j : Nat) (l : List Int), l.length ≤ k → l.length ≤ j → lines k l = lines j l
  | 0, j, l, h1, h2 => by
    have : l = [] := List.eq_nil_of_length_eq_zero (by omega)
    subst this
    cases j <;> simp [lines]
  | k + 1, 0, l, h1, h2 => by
    have : l = [] := List.eq_nil_of_length_eq_zero (by omega)
    subst this
    simp [lines]
  | k + 1, j + 1, l, h1, h2 => by
    simp only [lines]
    split
    · rfl
    · rename_i hl
      have : 0 < l.length := List.length_pos_iff.2 hl
      rw [lines_more k j _ (by simp; omega) (by simp; omega)]

theorem enc76_nil : enc76 [] = [] := rfl
theorem enc76_step {l : List Int} (h : l ≠ []) : enc76 l = l.take 76 ++ [13, 10] ++ enc76 (l.drop 76) := by
  have hp : 0 < l.length := List.length_pos_iff.2 h
  unfold enc76
  obtain ⟨k, hk⟩ : ∃ k, l.length = k + 1 := ⟨l.length - 1, by omega⟩
  conv => lhs; rw [hk]
  simp only [lines, if_neg h]
  rw [lines_more k (l.drop 76).length _ (by simp; omega) (by omega)]

theorem Encode_L1_spec (s : List Int) (a b : Int) (hb : s.length ≤ 4000000000) : ∀ (k i : Nat) (out : List Int), s.length - i ≤ k → out.length + 3 * (s.length - i) ≤ 100000000000 →  i ≤ s.length + 76 →
    base64_Encode_L1 (pcL prog cfg) lpL (((), (), (), (i : Int), ()), ((a, b, ()), (out, ()), (s, ()), (76, ()), ((), ()), ())) = some ((), ((a, b, ()), (out ++ enc76 (s.drop i), ()), (s, ()), (76, ()), ((), ()), ())) := by
  intro k
  induction k with
  | zero =>
    intro i out hk ho hi
    refine base64_Encode_L1_of ?_
    unfold base64_Encode_L1_R
    dsimp only
    refine (ifd_f (by simp only [decide_eq_true_eq]; omega)).trans ?_
    rw [List.drop_of_length_le (by omega)]
    simp [enc76_nil]
  | succ k ih =>
    intro i out hk ho hi
    by_cases hlt : i < s.length
    · refine base64_Encode_L1_of ?_
      unfold base64_Encode_L1_R
      dsimp only
      rw [chunk_end s i 76 (by omega) (by omega) (by omega) (by omega) hb, chunk_part s i 76 (by omega) (by omega) (by omega)]
      rw [Int.toNat_natCast, show (76 : Int).toNat = 76 from rfl]
      have hl1 : (List.take 76 (List.drop i s)).length ≤ s.length - i := by simp; omega
      refine (ifd_t (by simp only [decide_eq_true_eq]; omega)).trans ?_
      refine (ifd_t (by simp only [decide_eq_true_eq]; omega)).trans ?_
      refine (ifd_t (by simp only [decide_eq_true_eq]; omega)).trans ?_
      refine (ifd_t (by simp only [decide_eq_true_eq]; omega)).trans ?_
      refine (ifd_t (by simp only [decide_eq_true_eq, List.length_append, List.length_cons, List.length_nil]; omega)).trans ?_
      rw [wrap64 (by omega) (by omega)]
      have hl2 : (List.take 76 (List.drop i s)).length = min 76 (s.length - i) := by simp
      have := ih (i + 76) (out ++ List.take 76 (List.drop i s) ++ [13, 10]) (by omega) (by simp only [List.length_append, List.length_cons, List.length_nil]; omega) (by omega)
      rw [show ((i : Int) + 76) = ((i + 76 : Nat) : Int) by omega, this, enc76_step (l := s.drop i) (by simp; omega), List.drop_drop]
      simp
    · refine base64_Encode_L1_of ?_
      unfold base64_Encode_L1_R
      dsimp only
      refine (ifd_f (by simp only [decide_eq_true_eq]; omega)).trans ?_
      rw [List.drop_of_length_le (by omega)]
      simp [enc76_nil]

theorem enc_length : ∀ l : List Int, (enc l).length ≤ 4 * l.length
  | [] => by simp [enc]
  | [a] => by simp [enc, g1]
  | [a, b] => by simp [enc, g2]
  | a :: b :: c :: r => by
    have := enc_length r
    simp only [enc, g3, List.length_append, List.length_cons, List.length_nil]
    omega

theorem Encode_big (s : List Int) (h : 12000 < s.length) : base64_Encode_c (pcL prog cfg) s = some ([], ((1, (-1, ())), ())) := by
  refine base64_Encode_of ?_
  unfold base64_Encode_B
  exact ifd_t (by simp only [decide_eq_true_eq]; omega)

theorem Encode_spec (s : List Int) (hs : Bytes s) (h : s.length ≤ 12000) : base64_Encode_c (pcL prog cfg) s = some (enc76 (enc s), ((0, (0, ())), ())) := by
  refine base64_Encode_of ?_
  unfold base64_Encode_B
  refine (ifd_f (by simp only [decide_eq_true_eq]; omega)).trans ?_
  refine bnd2 (Plain_spec s hs (by omega)) rfl ?_
  have := enc_length s
  refine bnd1 (Encode_L1_spec (enc s) 0 0 (by omega) (enc s).length 0 [] (by omega) (by simp; omega) (by omega)) ?_
  simp

end Go.Proofs.YthnfcjbglfkhlaaSim
