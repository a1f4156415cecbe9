/- base64: the reference's decoding; the plain laws. -/
import Derived.Test.YthnfcjbglfkhlaaB64d
namespace Go.Proofs.YthnfcjbglfkhlaaSim
open Go Go.Proofs
open Go.Proofs.Try (prog)
set_option linter.unusedVariables false
set_option linter.unusedSimpArgs false

/-! ### value64 -/
theorem value64_L1_spec (c : Int) : ∀ (k i : Nat), 64 - i ≤ k → i ≤ 64 →
    ∃ x, ref1_value64_L1 (pcL prog cfg) lpL ((c, (i : Int), ()), ()) = some x ∧ Sum.elim (fun y => y.1.1) (fun _ => -1) x = (match (al.drop i).findIdx? (· == c) with
      | some j => ((i + j : Nat) : Int)
      | none => -1) := by
  intro k
  induction k with
  | zero =>
    intro i hk hi
    refine ⟨Sum.inr ((), ()), ?_, ?_⟩
    · refine ref1_value64_L1_of ?_
      unfold ref1_value64_L1_R
      dsimp only
      exact ifd_f (by simp only [decide_eq_true_eq]; omega)
    · rw [List.drop_of_length_le (by rw [show al.length = 64 from rfl]; omega)]
      simp
  | succ k ih =>
    intro i hk hi
    have hal : al.length = 64 := rfl
    by_cases hlt : i < 64
    · have hstep : ∀ x, (if al.getD i 0 = c then some (Sum.inl (((i : Int), ()), ())) else ref1_value64_L1 (pcL prog cfg) lpL ((c, ((i + 1 : Nat) : Int), ()), ())) = some x → ref1_value64_L1 (pcL prog cfg) lpL ((c, (i : Int), ()), ()) = some x := by
        intro x hx
        refine ref1_value64_L1_of ?_
        unfold ref1_value64_L1_R
        dsimp only
        rw [← al_def]
        refine (ifd_t (by simp only [decide_eq_true_eq]; omega)).trans ?_
        refine (ifd_t (by have := al_len; simp only [decide_eq_true_eq]; omega)).trans ?_
        rw [Int.toNat_natCast]
        split at hx
        · rename_i h
          exact (ifd_t (by simp only [beq_iff_eq]; exact h)).trans hx
        · rename_i h
          refine (ifd_f (by simp only [beq_iff_eq]; exact h)).trans ?_
          rw [wrap64 (by omega) (by omega)]
          exact hx
      rw [drop_getD al i (by omega), List.findIdx?_cons]
      by_cases hc : al.getD i 0 = c
      · refine ⟨_, hstep _ (by rw [if_pos hc]), ?_⟩
        rw [show (al.getD i 0 == c) = true by simp only [beq_iff_eq]; exact hc]
        simp
      · obtain ⟨x, hx, hy⟩ := ih (i + 1) (by omega) (by omega)
        refine ⟨x, hstep x (by rw [if_neg hc]; exact hx), ?_⟩
        rw [hy, show (al.getD i 0 == c) = false by simp only [beq_eq_false_iff_ne]; exact hc]
        cases (al.drop (i + 1)).findIdx? (· == c) with
        | none => rfl
        | some j =>
          show ((i + 1 + j : Nat) : Int) = ((i + (j + 1) : Nat) : Int)
          omega
    · refine ⟨Sum.inr ((), ()), ?_, ?_⟩
      · refine ref1_value64_L1_of ?_
        unfold ref1_value64_L1_R
        dsimp only
        exact ifd_f (by simp only [decide_eq_true_eq]; omega)
      · rw [List.drop_of_length_le (by omega)]
        simp

theorem value64_spec (c : Int) : ref1_value64_c (pcL prog cfg) c = some (val c) := by
  refine ref1_value64_of ?_
  unfold ref1_value64_B
  obtain ⟨x, hx, hy⟩ := value64_L1_spec c 64 0 (by omega) (by omega)
  refine bnd1 hx ?_
  have e : val c = Sum.elim (fun y => y.1.1) (fun _ => -1) x := by
    rw [hy]
    unfold val indexByteL
    simp
    rfl
  rw [e]
  cases x <;> rfl

/-! ### Loose64 -/
theorem Loose64_L1_spec (s : List Int) (i v : Int) (hv : 0 ≤ v ∧ v ≤ 63) (s2 : List Int) (i2 c c2 : Int) (b : Bool) : ∀ (j : Nat) (bits : List Int), j ≤ 6 → bits.length + j ≤ 10000000000 →
    ref1_Loose64_L1 (pcL prog cfg) lpL ((s, bits, i, v, (j : Int) - 1, s2, i2, (c, ()), c2, b, ()), ()) = some ((s, bits ++ bitsN j v, i, s2, i2, (c, ()), c2, b, ()), ()) := by
  intro j
  induction j with
  | zero =>
    intro bits hj ho
    refine ref1_Loose64_L1_of ?_
    unfold ref1_Loose64_L1_R
    dsimp only
    refine (ifd_f (by simp only [decide_eq_true_eq]; omega)).trans ?_
    refine (ifd_f (by simp only [decide_eq_true_eq]; omega)).trans ?_
    simp [bitsN]
  | succ j ih =>
    intro bits hj ho
    refine ref1_Loose64_L1_of ?_
    unfold ref1_Loose64_L1_R
    dsimp only
    rw [wrapU64 (by omega) (by omega), pow_min (j := j) (by omega) (by omega), wrap64 (x := ((j + 1 : Nat) : Int) - 1 - 1) (by omega) (by omega)]
    have hp : (0 : Int) < 2 ^ j := Int.pow_pos (by decide)
    rw [fdiv_pos (Int.le_of_lt hp), tmod_pos (Int.ediv_nonneg hv.1 (Int.le_of_lt hp))]
    refine (ifd_t (by simp only [decide_eq_true_eq]; omega)).trans ?_
    refine (ifd_t (by simp only [decide_eq_true_eq]; omega)).trans ?_
    refine (ifd_t (by simp only [decide_eq_true_eq]; omega)).trans ?_
    refine (ifd_t (by simp only [decide_eq_true_eq]; omega)).trans ?_
    refine (ifd_t (by simp only [decide_eq_true_eq, List.length_cons, List.length_nil]; omega)).trans ?_
    rw [show ((j + 1 : Nat) : Int) - 1 - 1 = (j : Int) - 1 by omega, ih _ (by omega) (by simp; omega)]
    simp [bitsN]

theorem Loose64_L1_neg (s bits : List Int) (i v : Int) (hv : v < 0) (s2 : List Int) (i2 c c2 : Int) (b : Bool) :
    ref1_Loose64_L1 (pcL prog cfg) lpL ((s, bits, i, v, 5, s2, i2, (c, ()), c2, b, ()), ()) = some ((s, bits, i, s2, i2, (c, ()), c2, b, ()), ()) := by
  refine ref1_Loose64_L1_of ?_
  unfold ref1_Loose64_L1_R
  dsimp only
  refine (ifd_t (by simp)).trans ?_
  refine (ifd_t (by simp)).trans ?_
  exact ifd_f (by simp; omega)

def allbits : List Int → List Int
  | [] => []
  | c :: r => if c = 61 then [] else (if val c < 0 then [] else bitsN 6 (val c)) ++ allbits r

theorem allbits_len : ∀ l, (allbits l).length ≤ 6 * l.length
  | [] => by simp [allbits]
  | c :: r => by
    have := allbits_len r
    simp only [allbits]
    split
    · simp
    · split <;> simp [bitsN_len] <;> omega

theorem allbits_bit : ∀ l, Bit (allbits l)
  | [] => fun x h => by cases h
  | c :: r => by
    simp only [allbits]
    split
    · exact fun x h => by cases h
    · split
      · simpa using allbits_bit r
      · exact (bitsN_bit _ _).append (allbits_bit r)

theorem Loose64_L2_spec (s : List Int) (hb : s.length ≤ 10000000) : ∀ (k i : Nat) (bits : List Int), s.length - i ≤ k → i ≤ s.length → bits.length + 6 * (s.length - i) ≤ 900000000 →
    ref1_Loose64_L2 (pcL prog cfg) lpL ((s, bits, (i : Int), ()), ()) = some ((bits ++ allbits (s.drop i), ()), ()) := by
  have stop : ∀ (i : Nat) (bits : List Int), ¬ i < s.length → ref1_Loose64_L2 (pcL prog cfg) lpL ((s, bits, (i : Int), ()), ()) = some ((bits ++ allbits (s.drop i), ()), ()) := by
    intro i bits hi
    refine ref1_Loose64_L2_of ?_
    unfold ref1_Loose64_L2_R
    dsimp only
    refine (ifd_f (by simp only [decide_eq_true_eq]; omega)).trans ?_
    refine (ifd_f (by simp only [decide_eq_true_eq]; omega)).trans ?_
    rw [List.drop_of_length_le (by omega)]
    simp [allbits]
  intro k
  induction k with
  | zero => exact fun i bits hk hi ho => stop i bits (by omega)
  | succ k ih =>
    intro i bits hk hi ho
    by_cases hlt : i < s.length
    · refine ref1_Loose64_L2_of ?_
      unfold ref1_Loose64_L2_R
      dsimp only
      rw [drop_getD s i hlt, Int.toNat_natCast]
      simp only [allbits]
      refine (ifd_t (by simp only [decide_eq_true_eq]; omega)).trans ?_
      refine (ifd_t (by simp only [decide_eq_true_eq]; omega)).trans ?_
      refine (ifd_t (by simp only [decide_eq_true_eq]; omega)).trans ?_
      by_cases h61 : s.getD i 0 = 61
      · refine (ifd_f (by rw [h61]; simp)).trans ?_
        rw [if_pos h61]
        simp
      · refine (ifd_t (by simp only [bne_iff_ne]; exact h61)).trans ?_
        rw [if_neg h61]
        refine (ifd_t (by simp only [decide_eq_true_eq]; omega)).trans ?_
        refine bnd2 (value64_spec _) rfl ?_
        have hv := val_range (s.getD i 0)
        by_cases hneg : val (s.getD i 0) < 0
        · refine bnd1 (Loose64_L1_neg s bits i _ hneg _ _ _ _ _) ?_
          dsimp only
          rw [wrap64 (by omega) (by omega), show ((i : Int) + 1) = ((i + 1 : Nat) : Int) by omega, ih (i + 1) bits (by omega) (by omega) (by omega), if_pos hneg]
          simp
        · refine bnd1 (Loose64_L1_spec s i _ (by omega) _ _ _ _ _ 6 bits (by omega) (by omega)) ?_
          dsimp only
          rw [wrap64 (by omega) (by omega), show ((i : Int) + 1) = ((i + 1 : Nat) : Int) by omega, ih (i + 1) _ (by omega) (by omega) (by simp [bitsN_len]; omega), if_neg hneg]
          simp
    · exact stop i bits hlt

def bytes8 : List Int → List Int
  | a :: b :: c :: d :: e :: f :: g :: h :: r => (num [a, b, c, d, e, f, g, h]) :: bytes8 r
  | _ => []

theorem eight {l : List Int} (h : 8 ≤ l.length) : ∃ a b c d e f g i r, l = a :: b :: c :: d :: e :: f :: g :: i :: r := by
  match l with
  | [] | [a] | [a, b] | [a, b, c] | [a, b, c, d] | [a, b, c, d, e] | [a, b, c, d, e, f] | [a, b, c, d, e, f, g] => simp at h
  | a :: b :: c :: d :: e :: f :: g :: i :: r => exact ⟨a, b, c, d, e, f, g, i, r, rfl⟩

theorem bytes8_short {l : List Int} (h : l.length < 8) : bytes8 l = [] := by
  match l with
  | [] | [a] | [a, b] | [a, b, c] | [a, b, c, d] | [a, b, c, d, e] | [a, b, c, d, e, f] | [a, b, c, d, e, f, g] => rfl
  | a :: b :: c :: d :: e :: f :: g :: i :: r => simp at h; omega

theorem Loose64_L3_spec (l : List Int) (hb : Bit l) (hl : l.length ≤ 1000000000) : ∀ (k i : Nat) (out : List Int), l.length - i ≤ k → i ≤ l.length → out.length + (l.length - i) ≤ 2000000000 →
    ref1_Loose64_L3 (pcL prog cfg) lpL ((l, out, (i : Int), ()), ()) = some ((out ++ bytes8 (l.drop i), ()), ()) := by
  have stop : ∀ (i : Nat) (out : List Int), i ≤ l.length → ¬ i + 8 ≤ l.length → ref1_Loose64_L3 (pcL prog cfg) lpL ((l, out, (i : Int), ()), ()) = some ((out ++ bytes8 (l.drop i), ()), ()) := by
    intro i out hi h8
    refine ref1_Loose64_L3_of ?_
    unfold ref1_Loose64_L3_R
    dsimp only
    rw [wrap64 (by omega) (by omega)]
    refine (ifd_f (by simp only [decide_eq_true_eq]; omega)).trans ?_
    rw [bytes8_short (by simp; omega)]
    simp
  intro k
  induction k with
  | zero => exact fun i out hk hi ho => stop i out hi (by omega)
  | succ k ih =>
    intro i out hk hi ho
    by_cases h8 : i + 8 ≤ l.length
    · refine ref1_Loose64_L3_of ?_
      unfold ref1_Loose64_L3_R
      dsimp only
      have hlen : (l.drop i).length = l.length - i := by simp
      obtain ⟨a, b, c, d, e, f, g, h, r, hr⟩ := eight (l := l.drop i) (by omega)
      have hpart : List.drop i (List.take (i + 8) l) = [a, b, c, d, e, f, g, h] := by
        rw [List.drop_take, hr, show i + 8 - i = 8 by omega]; rfl
      have hbit : Bit [a, b, c, d, e, f, g, h] := fun x hx => hb x (by
        have : x ∈ l.drop i := by rw [hr]; simp at hx ⊢; omega
        exact List.mem_of_mem_drop this)
      have hnb := num_bound hbit
      simp only [List.length_cons, List.length_nil] at hnb
      rw [wrap64 (x := (i : Int) + 8) (by omega) (by omega)]
      rw [show ((i : Int) + 8).toNat = i + 8 by omega, Int.toNat_natCast, hpart]
      refine (ifd_t (by simp only [decide_eq_true_eq]; omega)).trans ?_
      refine (ifd_t (by simp only [decide_eq_true_eq]; omega)).trans ?_
      refine bnd2 (sum_spec _ hbit (by simp)) rfl ?_
      rw [wrapU8i (by omega) (by omega)]
      refine (ifd_t (by simp only [decide_eq_true_eq, List.length_cons, List.length_nil]; omega)).trans ?_
      rw [show ((i : Int) + 8) = ((i + 8 : Nat) : Int) by omega, ih (i + 8) _ (by omega) (by omega) (by simp; omega)]
      have hd : l.drop (i + 8) = r := by
        rw [← List.drop_drop, hr]; rfl
      rw [hd, hr]
      simp [bytes8]
    · exact stop i out hi h8

theorem bytes8_eight (v : Int) (h0 : 0 ≤ v) (h1 : v < 256) (r : List Int) : bytes8 (bitsN 8 v ++ r) = v :: bytes8 r := by
  have := num_bits 8 v h0
  simp only [bitsN] at this ⊢
  simp only [List.cons_append, List.nil_append, bytes8]
  rw [this]
  congr 1
  omega

theorem bits_dec : ∀ (s : List Int) (p : Int) (n : Nat), 0 ≤ p → p < 2 ^ n → (n = 0 ∨ n = 2 ∨ n = 4 ∨ n = 6) → bytes8 (bitsN n p ++ allbits s) = dec p n s
  | [], p, n, h0, h1, hn => by
    simp only [allbits, dec, List.append_nil]
    exact bytes8_short (by rw [bitsN_len]; omega)
  | c :: r, p, n, h0, h1, hn => by
    have hv := val_range c
    simp only [allbits, dec]
    split
    · rw [List.append_nil]
      exact bytes8_short (by rw [bitsN_len]; omega)
    · split
      · rw [List.nil_append]
        exact bits_dec r p n h0 h1 hn
      · rename_i hneg
        have e := bitsN_add n 6 p (val c) h0 (by omega) (by simp; omega)
        rw [← List.append_assoc, ← e]
        simp only [Int.reducePow]
        split
        · have : n = 0 := by omega
          subst this
          exact bits_dec r _ 6 (by omega) (by simp at h1 ⊢; omega) (by omega)
        · have hp2 : (0 : Int) < 2 ^ (n - 2) := Int.pow_pos (by decide)
          have hlt : p * 64 + val c < 256 * 2 ^ (n - 2) := by
            rcases hn with rfl | rfl | rfl | rfl
            · omega
            · simp at h1 ⊢; omega
            · simp at h1 ⊢; omega
            · simp at h1 ⊢; omega
          have e2 := bitsN_add 8 (n - 2) ((p * 64 + val c) / 2 ^ (n - 2)) ((p * 64 + val c) % 2 ^ (n - 2)) (Int.ediv_nonneg (by omega) (Int.le_of_lt hp2)) (Int.emod_nonneg _ (by omega)) (Int.emod_lt_of_pos _ hp2)
          rw [Int.ediv_mul_add_emod, show 8 + (n - 2) = n + 6 by omega] at e2
          rw [e2, List.append_assoc, bytes8_eight _ (Int.ediv_nonneg (by omega) (Int.le_of_lt hp2)) (Int.ediv_lt_of_lt_mul hp2 hlt)]
          rw [bits_dec r _ _ (Int.emod_nonneg _ (by omega)) (Int.emod_lt_of_pos _ hp2) (by omega)]

theorem Loose64_spec (s : List Int) (hb : s.length ≤ 10000000) : ref1_Loose64_c (pcL prog cfg) s = some (dec 0 0 s) := by
  refine ref1_Loose64_of ?_
  unfold ref1_Loose64_B
  refine bnd1 (Loose64_L2_spec s hb s.length 0 [] (by omega) (by omega) (by simp; omega)) ?_
  have := allbits_len s
  simp only [List.drop_zero, List.nil_append]
  refine bnd1 (Loose64_L3_spec (allbits s) (allbits_bit s) (by omega) _ 0 [] (Nat.le_refl _) (by omega) (by simp; omega)) ?_
  dsimp only
  rw [← bits_dec s 0 0 (by simp) (by simp) (by simp)]
  simp [bitsN]

/-! ### Plain laws -/
theorem dec_skip (c : Int) (hc : c ≠ 61) (hv : val c < 0) : ∀ (x y : List Int) (p : Int) (n : Nat), dec p n (x ++ c :: y) = dec p n (x ++ y)
  | [], y, p, n => by
    simp only [List.nil_append, dec, if_neg hc, if_pos hv]
  | a :: x, y, p, n => by
    simp only [List.cons_append, dec]
    split
    · rfl
    · split
      · exact dec_skip c hc hv x y p n
      · split
        · exact dec_skip c hc hv x y _ _
        · rw [dec_skip c hc hv x y]

theorem val13 : val 13 < 0 := by decide
theorem val10 : val 10 < 0 := by decide
theorem val32 : val 32 < 0 := by decide

theorem dec_lines : ∀ (k : Nat) (l x : List Int) (p : Int) (n : Nat), l.length ≤ k → dec p n (x ++ enc76 l) = dec p n (x ++ l)
  | 0, l, x, p, n, h => by
    have : l = [] := List.eq_nil_of_length_eq_zero (by omega)
    subst this
    rw [enc76_nil]
  | k + 1, l, x, p, n, h => by
    by_cases hl : l = []
    · subst hl
      rw [enc76_nil]
    · have hp : 0 < l.length := List.length_pos_iff.2 hl
      have e : x ++ enc76 l = (x ++ l.take 76) ++ 13 :: (10 :: enc76 (l.drop 76)) := by
        rw [enc76_step hl]; simp
      rw [e, dec_skip 13 (by decide) val13, dec_skip 10 (by decide) val10, dec_lines k (l.drop 76) _ p n (by simp; omega), List.append_assoc, List.take_append_drop]

theorem val_chr (k : Int) (h0 : 0 ≤ k) (h1 : k < 64) : val (chr k) = k ∧ chr k ≠ 61 := by
  have : ∀ j : Fin 64, val (al.getD j.val 0) = (j.val : Int) ∧ al.getD j.val 0 ≠ 61 := by decide
  have h2 := this ⟨k.toNat, by omega⟩
  simp only at h2
  unfold chr
  exact ⟨by rw [h2.1]; omega, h2.2⟩

theorem dec_chr (p : Int) (n : Nat) (k : Int) (h0 : 0 ≤ k) (h1 : k < 64) (r : List Int) : dec p n (chr k :: r) = if n < 2 then dec (p * 64 + k) (n + 6) r else ((p * 64 + k) / 2 ^ (n - 2)) :: dec ((p * 64 + k) % 2 ^ (n - 2)) (n - 2) r := by
  have := val_chr k h0 h1
  simp only [dec, if_neg this.2, this.1, if_neg (show ¬ k < 0 by omega)]

theorem dec_enc : ∀ s : List Int, Bytes s → dec 0 0 (enc s) = s
  | [], h => by simp [enc, dec]
  | [a], h => by
    have ha := h a (by simp)
    simp only [enc, g1]
    rw [dec_chr _ _ _ (by omega) (by omega), if_pos (by omega), dec_chr _ _ _ (by omega) (by omega), if_neg (by omega)]
    simp only [dec, if_true]
    congr 1
    simp; omega
  | [a, b], h => by
    have ha := h a (by simp)
    have hb := h b (by simp)
    simp only [enc, g2]
    rw [dec_chr _ _ _ (by omega) (by omega), if_pos (by omega), dec_chr _ _ _ (by omega) (by omega), if_neg (by omega), dec_chr _ _ _ (by omega) (by omega), if_neg (by omega)]
    simp only [dec, if_true, Nat.zero_add, Nat.reduceSub, Int.reducePow, Int.zero_mul, Int.zero_add]
    congr 1
    · omega
    · congr 1; omega
  | a :: b :: c :: r, h => by
    have ha := h a (by simp)
    have hb := h b (by simp)
    have hc := h c (by simp)
    have ih := dec_enc r (fun x hx => h x (by simp [hx]))
    simp only [enc, g3, List.cons_append, List.nil_append]
    rw [dec_chr _ _ _ (by omega) (by omega), if_pos (by omega), dec_chr _ _ _ (by omega) (by omega), if_neg (by omega), dec_chr _ _ _ (by omega) (by omega), if_neg (by omega), dec_chr _ _ _ (by omega) (by omega), if_neg (by omega)]
    simp only [Nat.zero_add, Nat.reduceSub, Int.reducePow, Int.zero_mul, Int.zero_add, Int.emod_one, Int.pow_zero]
    rw [ih]
    congr 1
    · omega
    · congr 1
      · omega
      · congr 1; omega

theorem round (s : List Int) (h : Bytes s) : dec 0 0 (enc76 (enc s)) = s := by
  have := dec_lines _ (enc s) [] 0 0 (Nat.le_refl _)
  simp only [List.nil_append] at this
  rw [this, dec_enc s h]

theorem enc76_len : ∀ (k : Nat) (l : List Int), l.length ≤ k → (enc76 l).length ≤ l.length + 2 * (l.length / 76) + 2
  | 0, l, h => by
    have : l = [] := List.eq_nil_of_length_eq_zero (by omega)
    subst this
    simp [enc76_nil]
  | k + 1, l, h => by
    by_cases hl : l = []
    · subst hl; simp [enc76_nil]
    · have hp : 0 < l.length := List.length_pos_iff.2 hl
      rw [enc76_step hl]
      by_cases h76 : l.length ≤ 76
      · rw [List.drop_of_length_le h76, enc76_nil, List.take_of_length_le h76]
        simp
      · have := enc76_len k (l.drop 76) (by simp; omega)
        have hdl : (l.drop 76).length = l.length - 76 := by simp
        have htl : (l.take 76).length = 76 := by simp; omega
        simp only [List.length_append, htl, List.length_cons, List.length_nil]
        omega

theorem enc_len4 : ∀ s : List Int, (enc s).length = 4 * ((s.length + 2) / 3)
  | [] => rfl
  | [a] => by simp [enc, g1]
  | [a, b] => by simp [enc, g2]
  | a :: b :: c :: r => by
    simp only [enc, g3, List.length_append, List.length_cons, List.length_nil, enc_len4 r]
    omega

theorem encode_len (s : List Int) (h : s.length ≤ 12000) : (enc76 (enc s)).length ≤ 20000 := by
  have h1 := enc76_len _ (enc s) (Nat.le_refl _)
  have h2 := enc_len4 s
  omega

end Go.Proofs.YthnfcjbglfkhlaaSim
