/- base64: the reference in plain form. -/
import Derived.Test.YthnfcjbglfkhlaaB64
namespace Go.Proofs.YthnfcjbglfkhlaaSim
open Go Go.Proofs
open Go.Proofs.Try (prog)
set_option linter.unusedVariables false
set_option linter.unusedSimpArgs false

/-! ### Bits -/
def bitsN : Nat → Int → List Int
  | 0, _ => []
  | k + 1, v => (v / 2 ^ k % 2) :: bitsN k v

def num (l : List Int) : Int := l.foldl (fun n x => 2 * n + x) 0
def Bit (l : List Int) : Prop := ∀ x ∈ l, x = 0 ∨ x = 1

theorem bitsN_len : ∀ k v, (bitsN k v).length = k
  | 0, _ => rfl
  | k + 1, v => by simp [bitsN, bitsN_len k]

theorem bitsN_bit : ∀ k v, Bit (bitsN k v)
  | 0, _, x, h => by cases h
  | k + 1, v, x, h => by
    simp only [bitsN, List.mem_cons] at h
    rcases h with rfl | h
    · omega
    · exact bitsN_bit k v x h

theorem Bit.append {a b : List Int} (ha : Bit a) (hb : Bit b) : Bit (a ++ b) := fun x hx => by
  rcases List.mem_append.1 hx with h | h
  · exact ha x h
  · exact hb x h

theorem foldl_num (l : List Int) (n : Int) : l.foldl (fun n x => 2 * n + x) n = n * 2 ^ l.length + num l := by
  unfold num
  induction l generalizing n with
  | nil => simp
  | cons a l ih =>
    simp only [List.foldl_cons, List.length_cons]
    rw [ih, ih (2 * 0 + a), Int.pow_succ]
    have : (2 * n + a) * 2 ^ l.length = n * (2 ^ l.length * 2) + a * 2 ^ l.length := by
      rw [Int.add_mul, Int.mul_comm 2 n, Int.mul_assoc, Int.mul_comm 2]
    rw [this]
    simp [Int.add_assoc]

theorem num_cons (a : Int) (l : List Int) : num (a :: l) = a * 2 ^ l.length + num l := by
  have := foldl_num l (2 * 0 + a)
  unfold num at this ⊢
  simp only [List.foldl_cons]
  rw [this]; simp

theorem num_bound {l : List Int} (h : Bit l) : 0 ≤ num l ∧ num l < 2 ^ l.length := by
  induction l with
  | nil => simp [num]
  | cons a l ih =>
    rw [num_cons, List.length_cons, Int.pow_succ]
    have := ih (fun x hx => h x (by simp [hx]))
    rcases h a (by simp) with rfl | rfl <;> omega

theorem num_bits : ∀ (k : Nat) (v : Int), 0 ≤ v → num (bitsN k v) = v % 2 ^ k
  | 0, v, h => by simp [bitsN, num]
  | k + 1, v, h => by
    rw [bitsN, num_cons, bitsN_len, num_bits k v h, Int.pow_succ]
    have hp : (0 : Int) < 2 ^ k := Int.pow_pos (by decide)
    have h1 := Int.emod_emod_of_dvd v (show (2 ^ k : Int) ∣ 2 ^ k * 2 from ⟨2, rfl⟩)
    have h2 : v % (2 ^ k * 2) = 2 ^ k * (v / 2 ^ k % 2) + v % 2 ^ k := by
      rw [Int.emod_def v (2 ^ k * 2), Int.emod_def (v / 2 ^ k) 2, Int.ediv_ediv_of_nonneg (Int.le_of_lt hp), Int.emod_def v (2 ^ k), Int.mul_sub, Int.mul_assoc]
      omega
    rw [h2, Int.mul_comm]

/-- A number cut in two. -/
theorem bitsN_add (a b : Nat) (x y : Int) (hx : 0 ≤ x) (hy : 0 ≤ y) (hy' : y < 2 ^ b) : bitsN (a + b) (x * 2 ^ b + y) = bitsN a x ++ bitsN b y := by
  have hp : (0 : Int) < 2 ^ b := Int.pow_pos (by decide)
  have low : ∀ c, c ≤ b → bitsN c (x * 2 ^ b + y) = bitsN c y := by
    intro c
    induction c with
    | zero => intro _; rfl
    | succ c ih =>
      intro hc
      simp only [bitsN]
      rw [ih (by omega)]
      congr 1
      have hb : b = c + ((b - c - 1) + 1) := by omega
      have e : (2 : Int) ^ b = 2 ^ c * (2 ^ (b - c - 1) * 2) := by
        conv => lhs; rw [hb]
        rw [Int.pow_add, Int.pow_succ]
      have hpc : (0 : Int) < 2 ^ c := Int.pow_pos (by decide)
      rw [e, show x * (2 ^ c * (2 ^ (b - c - 1) * 2)) + y = y + (x * 2 ^ (b - c - 1) * 2) * 2 ^ c by
        rw [Int.add_comm]; congr 1
        rw [Int.mul_assoc, Int.mul_assoc]
        congr 1
        rw [Int.mul_comm (2 ^ c), Int.mul_assoc]]
      rw [Int.add_mul_ediv_right _ _ (by omega), Int.add_mul_emod_self_right]
  induction a with
  | zero => rw [Nat.zero_add]; exact low b (Nat.le_refl _)
  | succ a ih =>
    rw [show a + 1 + b = (a + b) + 1 by omega]
    simp only [bitsN, List.cons_append]
    rw [ih]
    congr 1
    rw [Nat.add_comm a b, Int.pow_add, ← Int.ediv_ediv_of_nonneg (Int.le_of_lt hp)]
    congr 2
    rw [Int.add_comm, Int.add_mul_ediv_right _ _ (by omega), Int.ediv_eq_zero_of_lt hy hy']
    simp

/-! ### sum -/
theorem sum_L1_spec (l : List Int) (hb : Bit l) (hl : l.length ≤ 50) : ∀ (k i : Nat) (n : Int), l.length - i ≤ k → i ≤ l.length → 0 ≤ n → n < 2 ^ i →
    ref1_sum_L1 (pcL prog cfg) lpL ((l, n, (i : Int), ()), ()) = some (((l.drop i).foldl (fun n x => 2 * n + x) n, ()), ()) := by
  intro k
  induction k with
  | zero =>
    intro i n hk hi h0 h1
    refine ref1_sum_L1_of ?_
    unfold ref1_sum_L1_R
    dsimp only
    refine (ifd_f (by simp only [decide_eq_true_eq]; omega)).trans ?_
    rw [List.drop_of_length_le (by omega)]
    rfl
  | succ k ih =>
    intro i n hk hi h0 h1
    by_cases hlt : i < l.length
    · refine ref1_sum_L1_of ?_
      unfold ref1_sum_L1_R
      dsimp only
      refine (ifd_t (by simp only [decide_eq_true_eq]; omega)).trans ?_
      refine (ifd_t (by simp only [decide_eq_true_eq]; omega)).trans ?_
      have hx : l.getD i 0 = 0 ∨ l.getD i 0 = 1 := hb _ (by rw [List.getD_eq_getElem?_getD, List.getElem?_eq_getElem hlt]; exact List.getElem_mem hlt)
      have hpow : (2 : Int) ^ i ≤ 2 ^ 50 := by
        have := Nat.pow_le_pow_right (show 0 < 2 by decide) (show i ≤ 50 by omega)
        exact_mod_cast this
      rw [Int.toNat_natCast, wrap64 (x := 2 * n) (by omega) (by omega), wrap64 (by omega) (by omega), wrap64 (by omega) (by omega)]
      rw [show ((i : Int) + 1) = ((i + 1 : Nat) : Int) by omega, ih (i + 1) _ (by omega) (by omega) (by omega) (by rw [Int.pow_succ]; omega), drop_getD l i hlt, List.foldl_cons]
    · refine ref1_sum_L1_of ?_
      unfold ref1_sum_L1_R
      dsimp only
      refine (ifd_f (by simp only [decide_eq_true_eq]; omega)).trans ?_
      rw [List.drop_of_length_le (by omega)]
      rfl

theorem sum_spec (l : List Int) (hb : Bit l) (hl : l.length ≤ 50) : ref1_sum_c (pcL prog cfg) l = some (num l) := by
  refine ref1_sum_of ?_
  unfold ref1_sum_B
  refine bnd1 (sum_L1_spec l hb hl l.length 0 0 (by omega) (by omega) (by omega) (by simp)) ?_
  simp [num]

/-! ### Bits -/
theorem pow_min {k : Int} {j : Nat} (h : k = j) (hj : j ≤ 64) : (2 : Int) ^ (min k.toNat 64) = 2 ^ j := by
  subst h
  rw [Int.toNat_natCast, Nat.min_eq_left hj]

theorem Bits_L1_spec (s : List Int) (i : Int) (v : Int) (hv : 0 ≤ v ∧ v ≤ 255) (hi : 0 ≤ i) (hi' : i < s.length) (hs : s.getD i.toNat 0 = v) : ∀ (j : Nat) (out : List Int), j ≤ 8 → out.length + j ≤ 1000000000 →
    ref1_Bits_L1 (pcL prog cfg) lpL ((s, out, i, (j : Int) - 1, ()), ()) = some ((s, out ++ bitsN j v, i, ()), ()) := by
  intro j
  induction j with
  | zero =>
    intro out hj ho
    refine ref1_Bits_L1_of ?_
    unfold ref1_Bits_L1_R
    dsimp only
    refine (ifd_f (by simp only [decide_eq_true_eq]; omega)).trans ?_
    simp [bitsN]
  | succ j ih =>
    intro out hj ho
    refine ref1_Bits_L1_of ?_
    unfold ref1_Bits_L1_R
    dsimp only
    rw [wrapU64 (by omega) (by omega), pow_min (j := j) (by omega) (by omega), hs, wrap64 (x := v) (by omega) (by omega), wrap64 (x := ((j + 1 : Nat) : Int) - 1 - 1) (by omega) (by omega)]
    have hp : (0 : Int) < 2 ^ j := Int.pow_pos (by decide)
    rw [fdiv_pos (Int.le_of_lt hp), tmod_pos (Int.ediv_nonneg hv.1 (Int.le_of_lt hp))]
    refine (ifd_t (by simp only [decide_eq_true_eq]; omega)).trans ?_
    refine (ifd_t (by simp only [decide_eq_true_eq]; omega)).trans ?_
    refine (ifd_t (by simp only [decide_eq_true_eq]; omega)).trans ?_
    refine (ifd_t (by simp only [decide_eq_true_eq, List.length_cons, List.length_nil]; omega)).trans ?_
    rw [show ((j + 1 : Nat) : Int) - 1 - 1 = (j : Int) - 1 by omega, ih _ (by omega) (by simp; omega)]
    simp [bitsN]

theorem Bits_L2_spec (s : List Int) (hs : Bytes s) (hb : s.length ≤ 10000000) : ∀ (k i : Nat) (out : List Int), s.length - i ≤ k → i ≤ s.length → out.length + 8 * (s.length - i) ≤ 900000000 →
    ref1_Bits_L2 (pcL prog cfg) lpL ((s, out, (i : Int), ()), ()) = some ((out ++ (s.drop i).flatMap (bitsN 8), ()), ()) := by
  intro k
  induction k with
  | zero =>
    intro i out hk hi ho
    refine ref1_Bits_L2_of ?_
    unfold ref1_Bits_L2_R
    dsimp only
    refine (ifd_f (by simp only [decide_eq_true_eq]; omega)).trans ?_
    rw [List.drop_of_length_le (by omega)]
    simp
  | succ k ih =>
    intro i out hk hi ho
    by_cases hlt : i < s.length
    · refine ref1_Bits_L2_of ?_
      unfold ref1_Bits_L2_R
      dsimp only
      refine (ifd_t (by simp only [decide_eq_true_eq]; omega)).trans ?_
      refine bnd1 (Bits_L1_spec s i (s.getD i 0) (hs.getD i) (by omega) (by omega) (by simp) 8 out (by omega) (by omega)) ?_
      dsimp only
      rw [wrap64 (by omega) (by omega), show ((i : Int) + 1) = ((i + 1 : Nat) : Int) by omega, ih (i + 1) _ (by omega) (by omega) (by simp [bitsN_len]; omega), drop_getD s i hlt]
      simp
    · refine ref1_Bits_L2_of ?_
      unfold ref1_Bits_L2_R
      dsimp only
      refine (ifd_f (by simp only [decide_eq_true_eq]; omega)).trans ?_
      rw [List.drop_of_length_le (by omega)]
      simp

theorem Bits_spec (s : List Int) (hs : Bytes s) (hb : s.length ≤ 10000000) : ref1_Bits_c (pcL prog cfg) s = some (s.flatMap (bitsN 8)) := by
  refine ref1_Bits_of ?_
  unfold ref1_Bits_B
  refine bnd1 (Bits_L2_spec s hs hb s.length 0 [] (by omega) (by omega) (by simp; omega)) ?_
  simp

/-! ### Chars64 -/
theorem pad6_spec : ∀ (m : Nat) (l : List Int), (l.length + m) % 6 = 0 → m < 6 → l.length + m ≤ 1000000000 →
    ref1_Chars64_L1 (pcL prog cfg) lpL ((l, ()), ()) = some ((l ++ List.replicate m 0, ()), ()) := by
  intro m
  induction m with
  | zero =>
    intro l h1 h2 h3
    refine ref1_Chars64_L1_of ?_
    unfold ref1_Chars64_L1_R
    dsimp only
    rw [tmod_pos (by omega)]
    refine (ifd_f (by simp; omega)).trans ?_
    simp
  | succ m ih =>
    intro l h1 h2 h3
    refine ref1_Chars64_L1_of ?_
    unfold ref1_Chars64_L1_R
    dsimp only
    rw [tmod_pos (by omega)]
    refine (ifd_t (by simp; omega)).trans ?_
    refine (ifd_t (by simp only [decide_eq_true_eq, List.length_cons, List.length_nil]; omega)).trans ?_
    rw [ih _ (by simp; omega) (by omega) (by simp; omega)]
    simp [List.replicate_succ]

def sx : List Int → List Int
  | a :: b :: c :: d :: e :: f :: r => chr (num [a, b, c, d, e, f]) :: sx r
  | _ => []

theorem letter_spec (k : Int) (h0 : 0 ≤ k) (h1 : k < 64) : List.drop k.toNat (List.take (k + 1).toNat al) = [chr k] := by
  have : ∀ j : Fin 64, List.drop j.val (List.take (j.val + 1) al) = [al.getD j.val 0] := by decide
  have h2 := this ⟨k.toNat, by omega⟩
  simp only at h2
  rw [show (k + 1).toNat = k.toNat + 1 by omega, h2]
  rfl

theorem six {l : List Int} (h : l.length % 6 = 0) (hn : l ≠ []) : ∃ a b c d e f r, l = a :: b :: c :: d :: e :: f :: r := by
  match l, hn with
  | [a], _ => simp at h
  | [a, b], _ => simp at h
  | [a, b, c], _ => simp at h
  | [a, b, c, d], _ => simp at h
  | [a, b, c, d, e], _ => simp at h
  | a :: b :: c :: d :: e :: f :: r, _ => exact ⟨a, b, c, d, e, f, r, rfl⟩

theorem sx_len : ∀ (k : Nat) (l : List Int), l.length ≤ k → (sx l).length = l.length / 6
  | 0, l, h => by
    have : l = [] := List.eq_nil_of_length_eq_zero (by omega)
    subst this; rfl
  | k + 1, l, h => by
    match l with
    | [] | [a] | [a, b] | [a, b, c] | [a, b, c, d] | [a, b, c, d, e] => simp [sx]
    | a :: b :: c :: d :: e :: f :: r =>
      simp only [List.length_cons] at h
      simp only [sx, List.length_cons, sx_len k r (by omega)]
      omega

theorem sixes_spec (l : List Int) (hb : Bit l) (hl : l.length ≤ 1000000000) (h6 : l.length % 6 = 0) : ∀ (k i : Nat) (out : List Int), l.length - i ≤ k → i ≤ l.length → i % 6 = 0 → out.length + (l.length - i) ≤ 2000000000 →
    ref1_Chars64_L2 (pcL prog cfg) lpL ((l, out, (i : Int), ()), ()) = some ((out ++ sx (l.drop i), ()), ()) := by
  intro k
  induction k with
  | zero =>
    intro i out hk hi hi6 ho
    refine ref1_Chars64_L2_of ?_
    unfold ref1_Chars64_L2_R
    dsimp only
    refine (ifd_f (by simp only [decide_eq_true_eq]; omega)).trans ?_
    rw [List.drop_of_length_le (by omega)]
    simp [sx]
  | succ k ih =>
    intro i out hk hi hi6 ho
    by_cases hlt : i < l.length
    · refine ref1_Chars64_L2_of ?_
      unfold ref1_Chars64_L2_R
      dsimp only
      have hlen : (l.drop i).length = l.length - i := by simp
      obtain ⟨a, b, c, d, e, f, r, hr⟩ := six (l := l.drop i) (by omega) (by intro h; rw [h] at hlen; simp at hlen; omega)
      have hpart : List.drop i (List.take (i + 6) l) = [a, b, c, d, e, f] := by
        rw [List.drop_take, hr, show i + 6 - i = 6 by omega]; rfl
      have hbit : Bit [a, b, c, d, e, f] := fun x hx => hb x (by
        have : x ∈ l.drop i := by rw [hr]; simp at hx ⊢; omega
        exact List.mem_of_mem_drop this)
      have hnb := num_bound hbit
      simp only [List.length_cons, List.length_nil] at hnb
      rw [wrap64 (x := (i : Int) + 6) (by omega) (by omega)]
      rw [show ((i : Int) + 6).toNat = i + 6 by omega, Int.toNat_natCast, hpart]
      refine (ifd_t (by simp only [decide_eq_true_eq]; omega)).trans ?_
      refine (ifd_t (by simp only [decide_eq_true_eq]; omega)).trans ?_
      refine bnd2 (sum_spec _ hbit (by simp)) rfl ?_
      rw [wrap64 (by omega) (by omega)]
      rw [← al_def, letter_spec _ hnb.1 (by omega)]
      refine (ifd_t (by have := al_len; simp only [decide_eq_true_eq]; omega)).trans ?_
      refine (ifd_t (by simp only [decide_eq_true_eq, List.length_cons, List.length_nil]; omega)).trans ?_
      rw [show ((i : Int) + 6) = ((i + 6 : Nat) : Int) by omega, ih (i + 6) _ (by omega) (by omega) (by omega) (by simp; omega)]
      have hd : l.drop (i + 6) = r := by
        rw [← List.drop_drop, hr]; rfl
      rw [hd, hr]
      simp [sx]
    · refine ref1_Chars64_L2_of ?_
      unfold ref1_Chars64_L2_R
      dsimp only
      refine (ifd_f (by simp only [decide_eq_true_eq]; omega)).trans ?_
      rw [List.drop_of_length_le (by omega)]
      simp [sx]

theorem pad4_spec : ∀ (m : Nat) (l : List Int), (l.length + m) % 4 = 0 → m < 4 → l.length + m ≤ 1000000000 →
    ref1_Chars64_L3 (pcL prog cfg) lpL ((l, ()), ()) = some ((l ++ List.replicate m 61, ()), ()) := by
  intro m
  induction m with
  | zero =>
    intro l h1 h2 h3
    refine ref1_Chars64_L3_of ?_
    unfold ref1_Chars64_L3_R
    dsimp only
    rw [tmod_pos (by omega)]
    refine (ifd_f (by simp; omega)).trans ?_
    simp
  | succ m ih =>
    intro l h1 h2 h3
    refine ref1_Chars64_L3_of ?_
    unfold ref1_Chars64_L3_R
    dsimp only
    rw [tmod_pos (by omega)]
    refine (ifd_t (by simp; omega)).trans ?_
    refine (ifd_t (by simp only [decide_eq_true_eq, List.length_cons, List.length_nil]; omega)).trans ?_
    rw [ih _ (by simp; omega) (by omega) (by simp; omega)]
    simp [List.replicate_succ]

/-- six bits are a letter -/
theorem sx_six (v : Int) (h0 : 0 ≤ v) (h1 : v < 64) (r : List Int) : sx (bitsN 6 v ++ r) = chr v :: sx r := by
  have := num_bits 6 v h0
  simp only [bitsN] at this ⊢
  simp only [List.cons_append, List.nil_append, sx]
  rw [this]
  congr 2
  omega

theorem bits1 (a : Int) (ha : 0 ≤ a ∧ a ≤ 255) : bitsN 8 a ++ List.replicate 4 0 = bitsN 6 (a / 4) ++ bitsN 6 (a % 4 * 16) := by
  have e1 := bitsN_add 6 2 (a / 4) (a % 4) (by omega) (by omega) (by simp; omega)
  have e2 := bitsN_add 2 4 (a % 4) 0 (by omega) (by omega) (by simp)
  simp only [Nat.reduceAdd] at e1 e2
  rw [show a / 4 * 2 ^ 2 + a % 4 = a by simp; omega] at e1
  rw [show a % 4 * 2 ^ 4 + 0 = a % 4 * 16 by simp] at e2
  rw [e1, e2, List.append_assoc]
  rfl

theorem bits2 (a b : Int) (ha : 0 ≤ a ∧ a ≤ 255) (hb : 0 ≤ b ∧ b ≤ 255) : bitsN 8 a ++ bitsN 8 b ++ List.replicate 2 0 = bitsN 6 (a / 4) ++ bitsN 6 (a % 4 * 16 + b / 16) ++ bitsN 6 (b % 16 * 4) := by
  have e1 := bitsN_add 6 2 (a / 4) (a % 4) (by omega) (by omega) (by simp; omega)
  have e2 := bitsN_add 2 4 (a % 4) (b / 16) (by omega) (by omega) (by simp; omega)
  have e3 := bitsN_add 4 4 (b / 16) (b % 16) (by omega) (by omega) (by simp; omega)
  have e4 := bitsN_add 4 2 (b % 16) 0 (by omega) (by omega) (by simp)
  simp only [Nat.reduceAdd] at e1 e2 e3 e4
  rw [show a / 4 * 2 ^ 2 + a % 4 = a by simp; omega] at e1
  rw [show a % 4 * 2 ^ 4 + b / 16 = a % 4 * 16 + b / 16 by simp] at e2
  rw [show b / 16 * 2 ^ 4 + b % 16 = b by simp; omega] at e3
  rw [show b % 16 * 2 ^ 2 + 0 = b % 16 * 4 by simp] at e4
  rw [e1, e2, e3, e4]
  simp only [List.append_assoc]
  rfl

theorem bits3 (a b c : Int) (ha : 0 ≤ a ∧ a ≤ 255) (hb : 0 ≤ b ∧ b ≤ 255) (hc : 0 ≤ c ∧ c ≤ 255) : bitsN 8 a ++ bitsN 8 b ++ bitsN 8 c = bitsN 6 (a / 4) ++ bitsN 6 (a % 4 * 16 + b / 16) ++ bitsN 6 (b % 16 * 4 + c / 64) ++ bitsN 6 (c % 64) := by
  have e1 := bitsN_add 6 2 (a / 4) (a % 4) (by omega) (by omega) (by simp; omega)
  have e2 := bitsN_add 2 4 (a % 4) (b / 16) (by omega) (by omega) (by simp; omega)
  have e3 := bitsN_add 4 4 (b / 16) (b % 16) (by omega) (by omega) (by simp; omega)
  have e4 := bitsN_add 4 2 (b % 16) (c / 64) (by omega) (by omega) (by simp; omega)
  have e5 := bitsN_add 2 6 (c / 64) (c % 64) (by omega) (by omega) (by simp; omega)
  simp only [Nat.reduceAdd] at e1 e2 e3 e4 e5
  rw [show a / 4 * 2 ^ 2 + a % 4 = a by simp; omega] at e1
  rw [show a % 4 * 2 ^ 4 + b / 16 = a % 4 * 16 + b / 16 by simp] at e2
  rw [show b / 16 * 2 ^ 4 + b % 16 = b by simp; omega] at e3
  rw [show b % 16 * 2 ^ 2 + c / 64 = b % 16 * 4 + c / 64 by simp] at e4
  rw [show c / 64 * 2 ^ 6 + c % 64 = c by simp; omega] at e5
  rw [e1, e2, e3, e4, e5]
  simp only [List.append_assoc]

/-- The characters of bytes, by bits. -/
theorem chars_enc : ∀ (s : List Int), Bytes s → sx (s.flatMap (bitsN 8) ++ List.replicate ((6 - (8 * s.length) % 6) % 6) 0) ++ List.replicate ((4 - ((8 * s.length + 5) / 6) % 4) % 4) 61 = enc s
  | [], h => by simp [sx, enc]
  | [a], h => by
    have ha := h a (by simp)
    have e := bits1 a ha
    simp only [List.flatMap_cons, List.flatMap_nil, List.append_nil, List.length_cons, List.length_nil, enc]
    rw [show (6 - 8 * (0 + 1) % 6) % 6 = 4 from rfl, e, sx_six _ (by omega) (by omega), ← List.append_nil (bitsN 6 (a % 4 * 16)), sx_six _ (by omega) (by omega)]
    rfl
  | [a, b], h => by
    have ha := h a (by simp)
    have hb := h b (by simp)
    have e := bits2 a b ha hb
    simp only [List.flatMap_cons, List.flatMap_nil, List.append_nil, List.length_cons, List.length_nil, enc]
    rw [show (6 - 8 * (0 + 1 + 1) % 6) % 6 = 2 from rfl, e, List.append_assoc, sx_six _ (by omega) (by omega), sx_six _ (by omega) (by omega), ← List.append_nil (bitsN 6 (b % 16 * 4)), sx_six _ (by omega) (by omega)]
    rfl
  | a :: b :: c :: r, h => by
    have ha := h a (by simp)
    have hb := h b (by simp)
    have hc := h c (by simp)
    have e := bits3 a b c ha hb hc
    have ih := chars_enc r (fun x hx => h x (by simp [hx]))
    simp only [List.flatMap_cons, List.length_cons, enc]
    rw [← List.append_assoc (bitsN 8 b), ← List.append_assoc (bitsN 8 a), ← List.append_assoc (bitsN 8 a), e]
    simp only [List.append_assoc]
    rw [sx_six _ (by omega) (by omega), sx_six _ (by omega) (by omega), sx_six _ (by omega) (by omega), sx_six _ (by omega) (by omega)]
    rw [show (6 - 8 * (r.length + 1 + 1 + 1) % 6) % 6 = (6 - 8 * r.length % 6) % 6 by omega]
    rw [show (8 * (r.length + 1 + 1 + 1) + 5) / 6 = (8 * r.length + 5) / 6 + 4 by omega, Nat.add_mod_right]
    simp only [List.cons_append, ih, g3]
    rfl

theorem Chars64_spec (s : List Int) (hs : Bytes s) (hb : s.length ≤ 10000000) : ref1_Chars64_c (pcL prog cfg) s = some (enc s) := by
  refine ref1_Chars64_of ?_
  unfold ref1_Chars64_B
  refine bnd2 (Bits_spec s hs hb) rfl ?_
  have hlen : (s.flatMap (bitsN 8)).length = 8 * s.length := by
    clear hs hb
    induction s with
    | nil => rfl
    | cons a s ih => simp [List.flatMap_cons, bitsN_len, ih]; omega
  have hbit : Bit (s.flatMap (bitsN 8)) := fun x hx => by
    rw [List.mem_flatMap] at hx
    obtain ⟨a, _, h⟩ := hx
    exact bitsN_bit 8 a x h
  refine bnd1 (pad6_spec ((6 - (8 * s.length) % 6) % 6) _ (by rw [hlen]; omega) (by omega) (by omega)) ?_
  have hlen2 : (s.flatMap (bitsN 8) ++ List.replicate ((6 - (8 * s.length) % 6) % 6) 0).length = 8 * s.length + (6 - (8 * s.length) % 6) % 6 := by
    rw [List.length_append, hlen, List.length_replicate]
  have hbit2 : Bit (s.flatMap (bitsN 8) ++ List.replicate ((6 - (8 * s.length) % 6) % 6) 0) := hbit.append (fun x hx => Or.inl (List.eq_of_mem_replicate hx))
  refine bnd1 (sixes_spec _ hbit2 (by omega) (by omega) _ 0 [] (Nat.le_refl _) (by omega) (by omega) (by simp only [List.length_nil]; omega)) ?_
  have hsx : (sx (s.flatMap (bitsN 8) ++ List.replicate ((6 - (8 * s.length) % 6) % 6) 0)).length = (8 * s.length + 5) / 6 := by
    rw [sx_len _ _ (Nat.le_refl _), hlen2]; omega
  simp only [List.drop_zero, List.nil_append]
  refine bnd1 (pad4_spec ((4 - ((8 * s.length + 5) / 6) % 4) % 4) _ (by rw [hsx]; omega) (by omega) (by rw [hsx]; omega)) ?_
  dsimp only
  rw [chars_enc s hs]

theorem Lines64_L1_spec : ∀ (k : Nat) (s out : List Int), s.length ≤ k → s.length ≤ 100000000 → out.length + 3 * s.length ≤ 1000000000 →
    ∃ a b, ref1_Lines64_L1 (pcL prog cfg) lpL ((s, out, ()), ()) = some ((a, b, ()), ()) ∧ a.length ≤ 76 ∧ out ++ enc76 s = (if a = [] then b else b ++ a ++ [13, 10]) ∧ b.length + 3 * a.length ≤ 1000000000 := by
  intro k
  induction k with
  | zero =>
    intro s out hk hb ho
    have : s = [] := List.eq_nil_of_length_eq_zero (by omega)
    subst this
    refine ⟨[], out, ?_, by simp, by simp [enc76_nil], by simpa using ho⟩
    refine ref1_Lines64_L1_of ?_
    unfold ref1_Lines64_L1_R
    dsimp only
    exact ifd_f (by simp)
  | succ k ih =>
    intro s out hk hb ho
    by_cases h76 : s.length > 76
    · have hdl : (s.drop 76).length = s.length - 76 := by simp
      have htl : (s.take 76).length = 76 := by simp; omega
      obtain ⟨a, b, h1, h2, h3, h4⟩ := ih (s.drop 76) (out ++ s.take 76 ++ [13, 10]) (by omega) (by omega) (by simp; omega)
      refine ⟨a, b, ?_, h2, ?_, h4⟩
      · refine ref1_Lines64_L1_of ?_
        unfold ref1_Lines64_L1_R
        dsimp only
        rw [show Int.toNat 0 = 0 from rfl, show Int.toNat 76 = 76 from rfl, List.drop_zero, Int.toNat_natCast, List.take_length]
        refine (ifd_t (by simp only [decide_eq_true_eq]; omega)).trans ?_
        refine (ifd_t (by simp only [decide_eq_true_eq]; omega)).trans ?_
        refine (ifd_t (by simp only [decide_eq_true_eq]; omega)).trans ?_
        refine (ifd_t (by simp only [decide_eq_true_eq, List.length_append, List.length_cons, List.length_nil]; omega)).trans ?_
        refine (ifd_t (by simp only [decide_eq_true_eq]; omega)).trans ?_
        exact h1
      · rw [← h3, enc76_step (l := s) (by intro h; subst h; simp at h76)]
        simp
    · refine ⟨s, out, ?_, by omega, ?_, by omega⟩
      · refine ref1_Lines64_L1_of ?_
        unfold ref1_Lines64_L1_R
        dsimp only
        exact ifd_f (by simp only [decide_eq_true_eq]; omega)
      · split
        · rename_i h; subst h; simp [enc76_nil]
        · rename_i h
          rw [enc76_step h, List.take_of_length_le (by omega), List.drop_of_length_le (by omega), enc76_nil]
          simp

theorem Lines64_spec (s : List Int) (hs : Bytes s) (hb : s.length ≤ 10000000) : ref1_Lines64_c (pcL prog cfg) s = some (enc76 (enc s)) := by
  refine ref1_Lines64_of ?_
  unfold ref1_Lines64_B
  refine bnd2 (Chars64_spec s hs hb) rfl ?_
  have hl := enc_length s
  obtain ⟨a, b, h1, h2, h3, h4⟩ := Lines64_L1_spec _ (enc s) [] (Nat.le_refl _) (by omega) (by simp; omega)
  refine bnd1 h1 ?_
  dsimp only
  simp only [List.nil_append] at h3
  by_cases ha : a = []
  · subst ha
    refine (ifd_f (by simp)).trans ?_
    simp only [if_true] at h3
    rw [h3]
  · refine (ifd_t (by simp [ha])).trans ?_
    refine (ifd_t (by simp only [decide_eq_true_eq]; omega)).trans ?_
    refine (ifd_t (by simp only [decide_eq_true_eq, List.length_append, List.length_cons, List.length_nil]; omega)).trans ?_
    rw [if_neg ha] at h3
    rw [h3]

end Go.Proofs.YthnfcjbglfkhlaaSim
