/- The library's test whether a text is valid. -/
import Derived.Test.YtklllljgdabheaaDoorUtfR
namespace Go.Proofs.YtklllljgdabheaaDoorSim
open Go Go.Proofs
open Go.Proofs.Tryd (prog)
set_option linter.unusedVariables false
set_option linter.unusedSimpArgs false

/-! ### eight bytes at once -/

theorem ibits_u64 {x y : Nat} (hx : x < 2 ^ 64) (hy : y < 2 ^ 64) : ibits .and .u64 (x : Int) (y : Int) = ((x &&& y : Nat) : Int) ∧ ibits .or .u64 (x : Int) (y : Int) = ((x ||| y : Nat) : Int) := by
  have h1 : (BitVec.ofInt 64 (x : Int)).toNat = x := by
    have := ofInt_toNat (x := (x : Int)) (w := 64) (by omega) (by omega)
    rwa [Int.toNat_natCast] at this
  have h2 : (BitVec.ofInt 64 (y : Int)).toNat = y := by
    have := ofInt_toNat (x := (y : Int)) (w := 64) (by omega) (by omega)
    rwa [Int.toNat_natCast] at this
  have ha : x &&& y < 2 ^ 64 := Nat.and_lt_two_pow x hy
  have ho : x ||| y < 2 ^ 64 := Nat.or_lt_two_pow hx hy
  constructor
  · show IntKind.wrap .u64 ((BitVec.ofInt 64 (x : Int) &&& BitVec.ofInt 64 (y : Int)).toNat : Nat) = _
    rw [BitVec.toNat_and, h1, h2]
    exact wrapU64 (by omega) (by omega)
  · show IntKind.wrap .u64 ((BitVec.ofInt 64 (x : Int) ||| BitVec.ofInt 64 (y : Int)).toNat : Nat) = _
    rw [BitVec.toNat_or, h1, h2]
    exact wrapU64 (by omega) (by omega)

theorem shl_u64 (b : Int) (hb : 0 ≤ b ∧ b ≤ 255) (k : Nat) (hk : k ≤ 56) : IntKind.wrap .u64 (IntKind.wrap .u64 b * (2 : Int) ^ k) = ((b.toNat * 2 ^ k : Nat) : Int) ∧ b.toNat * 2 ^ k < 2 ^ 64 := by
  have hp : 2 ^ k ≤ 2 ^ 56 := Nat.pow_le_pow_right (by decide) hk
  have h1 : b.toNat * 2 ^ k ≤ 255 * 2 ^ 56 := Nat.mul_le_mul (by omega) hp
  have e : b * (2 : Int) ^ k = ((b.toNat * 2 ^ k : Nat) : Int) := by
    rw [Int.natCast_mul, Int.natCast_pow, Int.toNat_of_nonneg hb.1]
    rfl
  rw [wrapU64 (x := b) hb.1 (by omega), e]
  exact ⟨wrapU64 (by omega) (by omega), by omega⟩

def maskN : Nat := 9259542123273814144

theorem mask_bit (j : Nat) (hj : j < 8) : maskN.testBit (8 * j + 7) = true := by
  have : (List.range 8).all (fun j => maskN.testBit (8 * j + 7)) = true := by decide +kernel
  exact List.all_eq_true.1 this j (by simpa using hj)

theorem bit_of_mask {w : Nat} (h : w &&& maskN = 0) (j : Nat) (hj : j < 8) : w.testBit (8 * j + 7) = false := by
  have h1 : (w &&& maskN).testBit (8 * j + 7) = false := by rw [h]; exact Nat.zero_testBit _
  rw [Nat.testBit_and, mask_bit j hj, Bool.and_true] at h1
  exact h1

theorem byte_bit {b : Nat} (hb : b ≤ 255) (h : b.testBit 7 = false) : b < 128 := by
  rw [Nat.testBit_eq_decide_div_mod_eq] at h
  simp at h
  omega

/-- The word at the head: its number; eight bytes below 128 if no mark is in it. -/
theorem word_spec (l : List Int) (hB : Bytes l) (h : 8 ≤ l.length) : ∃ w : Nat, w < 2 ^ 64 ∧ unicode_utf8_word_string__c (pcL prog cfg) l = some (w : Int) ∧ (w &&& maskN = 0 → ∀ j, j < 8 → l.getD j 0 < 128) := by
  have hb : ∀ j, 0 ≤ l.getD j 0 ∧ l.getD j 0 ≤ 255 := fun j => hB.getD j
  refine ⟨(((((((l.getD 0 0).toNat ||| (l.getD 1 0).toNat * 2 ^ 8) ||| (l.getD 2 0).toNat * 2 ^ 16) ||| (l.getD 3 0).toNat * 2 ^ 24) ||| (l.getD 4 0).toNat * 2 ^ 32) ||| (l.getD 5 0).toNat * 2 ^ 40) ||| (l.getD 6 0).toNat * 2 ^ 48) ||| (l.getD 7 0).toNat * 2 ^ 56, ?_, ?_, ?_⟩
  · refine Nat.or_lt_two_pow (Nat.or_lt_two_pow (Nat.or_lt_two_pow (Nat.or_lt_two_pow (Nat.or_lt_two_pow (Nat.or_lt_two_pow (Nat.or_lt_two_pow ?_ ?_) ?_) ?_) ?_) ?_) ?_) ?_
    · have := hb 0; omega
    · exact (shl_u64 _ (hb 1) 8 (by omega)).2
    · exact (shl_u64 _ (hb 2) 16 (by omega)).2
    · exact (shl_u64 _ (hb 3) 24 (by omega)).2
    · exact (shl_u64 _ (hb 4) 32 (by omega)).2
    · exact (shl_u64 _ (hb 5) 40 (by omega)).2
    · exact (shl_u64 _ (hb 6) 48 (by omega)).2
    · exact (shl_u64 _ (hb 7) 56 (by omega)).2
  · refine unicode_utf8_word_string__of ?_
    unfold unicode_utf8_word_string__B
    refine (ifd_t (by simp only [decide_eq_true_eq]; omega)).trans ?_
    refine (ifd_t (by simp only [decide_eq_true_eq]; omega)).trans ?_
    refine (ifd_t (by simp only [decide_eq_true_eq]; omega)).trans ?_
    refine (ifd_t (by simp only [decide_eq_true_eq]; omega)).trans ?_
    refine (ifd_t (by simp only [decide_eq_true_eq]; omega)).trans ?_
    refine (ifd_t (by simp only [decide_eq_true_eq]; omega)).trans ?_
    refine (ifd_t (by simp only [decide_eq_true_eq]; omega)).trans ?_
    refine (ifd_t (by simp only [decide_eq_true_eq]; omega)).trans ?_
    have e0 : IntKind.wrap .u64 (l.getD 0 0) = (((l.getD 0 0).toNat : Nat) : Int) := by
      have := hb 0
      rw [wrapU64 this.1 (by omega)]; omega
    have l0 : (l.getD 0 0).toNat < 2 ^ 64 := by have := hb 0; omega
    have s1 := shl_u64 _ (hb 1) 8 (by omega)
    have s2 := shl_u64 _ (hb 2) 16 (by omega)
    have s3 := shl_u64 _ (hb 3) 24 (by omega)
    have s4 := shl_u64 _ (hb 4) 32 (by omega)
    have s5 := shl_u64 _ (hb 5) 40 (by omega)
    have s6 := shl_u64 _ (hb 6) 48 (by omega)
    have s7 := shl_u64 _ (hb 7) 56 (by omega)
    have m1 := Nat.or_lt_two_pow l0 s1.2
    have m2 := Nat.or_lt_two_pow m1 s2.2
    have m3 := Nat.or_lt_two_pow m2 s3.2
    have m4 := Nat.or_lt_two_pow m3 s4.2
    have m5 := Nat.or_lt_two_pow m4 s5.2
    have m6 := Nat.or_lt_two_pow m5 s6.2
    rw [show (min (Int.toNat 8) 64) = 8 from rfl, show (min (Int.toNat 16) 64) = 16 from rfl, show (min (Int.toNat 24) 64) = 24 from rfl, show (min (Int.toNat 32) 64) = 32 from rfl, show (min (Int.toNat 40) 64) = 40 from rfl, show (min (Int.toNat 48) 64) = 48 from rfl, show (min (Int.toNat 56) 64) = 56 from rfl,
      show Int.toNat 0 = 0 from rfl, show Int.toNat 1 = 1 from rfl, show Int.toNat 2 = 2 from rfl, show Int.toNat 3 = 3 from rfl, show Int.toNat 4 = 4 from rfl, show Int.toNat 5 = 5 from rfl, show Int.toNat 6 = 6 from rfl, show Int.toNat 7 = 7 from rfl]
    rw [e0, s1.1, s2.1, s3.1, s4.1, s5.1, s6.1, s7.1, (ibits_u64 l0 s1.2).2, (ibits_u64 m1 s2.2).2, (ibits_u64 m2 s3.2).2, (ibits_u64 m3 s4.2).2, (ibits_u64 m4 s5.2).2, (ibits_u64 m5 s6.2).2, (ibits_u64 m6 s7.2).2]
  · intro hm j hj
    have hbit := bit_of_mask hm j hj
    simp only [Nat.testBit_or, Nat.testBit_mul_two_pow, Bool.or_eq_false_iff] at hbit
    obtain ⟨⟨⟨⟨⟨⟨⟨b0, b1⟩, b2⟩, b3⟩, b4⟩, b5⟩, b6⟩, b7⟩ := hbit
    have hbj := hb j
    have fin : (l.getD j 0).toNat.testBit 7 = false → l.getD j 0 < 128 := fun h => by
      have := byte_bit (by omega) h
      omega
    match j, hj with
    | 0, _ => exact fin b0
    | 1, _ => exact fin (by simpa using b1)
    | 2, _ => exact fin (by simpa using b2)
    | 3, _ => exact fin (by simpa using b3)
    | 4, _ => exact fin (by simpa using b4)
    | 5, _ => exact fin (by simpa using b5)
    | 6, _ => exact fin (by simpa using b6)
    | 7, _ => exact fin (by simpa using b7)

theorem and_mask_zero {w : Nat} (hw : w < 2 ^ 64) : (ibits .and .u64 (w : Int) 9259542123273814144 == 0) = true ↔ w &&& maskN = 0 := by
  have h := (ibits_u64 (y := maskN) hw (by decide)).1
  have e : ibits .and .u64 (w : Int) 9259542123273814144 = ((w &&& maskN : Nat) : Int) := h
  rw [e, beq_iff_eq]
  omega

theorem or_mask {a b : Nat} (h : (a ||| b) &&& maskN = 0) : a &&& maskN = 0 ∧ b &&& maskN = 0 := by
  rw [Nat.and_or_distrib_right] at h
  exact Nat.or_eq_zero_iff.1 h

/-- the first k are below 128 -/
def low (k : Nat) (l : List Int) : Prop := ∀ j, j < k → l.getD j 0 < 128

theorem low_app {a b : Nat} {l : List Int} (h1 : low a l) (h2 : low b (l.drop a)) : low (a + b) l := fun j hj => by
  by_cases h : j < a
  · exact h1 j h
  · have := h2 (j - a) (by omega)
    simp only [List.getD_eq_getElem?_getD, List.getElem?_drop] at this
    rw [show a + (j - a) = j by omega] at this
    rw [List.getD_eq_getElem?_getD]
    exact this

theorem validL_low : ∀ (k : Nat) (l : List Int), Bytes l → k ≤ l.length → low k l → validL l = validL (l.drop k)
  | 0, l, _, _, _ => rfl
  | k + 1, l, hB, hk, h => by
    match l, hk with
    | c :: r, hk =>
      have h0 : c < 128 := h 0 (by omega)
      have hc := hB c (by simp)
      rw [validL_cons]
      have e : rune1 (c :: r) = (c, 1) := by rw [rune1, if_pos h0]
      have e2 : decide (0 ≤ c) = true := decide_eq_true hc.1
      rw [e, e2, Bool.true_and]
      exact validL_low k r (fun x hx => hB x (by simp [hx])) (by simpa using hk) (fun j hj => h (j + 1) (by omega))

theorem dropS (l : List Int) (k : Nat) : List.drop k (List.take (Int.toNat ((l.length : Nat) : Int)) l) = l.drop k := by
  rw [Int.toNat_natCast, List.take_length]

theorem V_C1 (l : List Int) (hB : Bytes l) : ∃ b, unicode_utf8_ValidString_C1 (pcL prog cfg) lpL ((l, ()), ()) = some ((l, b, ()), ()) ∧ (b = true → 8 < l.length ∧ low 8 l) := by
  unfold unicode_utf8_ValidString_C1
  dsimp only
  by_cases h : l.length > 8
  · obtain ⟨w, hw, hc, hm⟩ := word_spec l hB (by omega)
    refine ⟨(ibits .and .u64 (w : Int) 9259542123273814144 == 0), ?_, fun hb => ⟨h, hm ((and_mask_zero hw).1 hb)⟩⟩
    refine (ifd_t (by simp only [decide_eq_true_eq]; omega)).trans ?_
    refine bnd2 hc rfl ?_
    exact ifd_t (by simp only [decide_eq_true_eq]; omega)
  · refine ⟨false, ?_, fun hb => by cases hb⟩
    refine (ifd_f (by simp only [decide_eq_true_eq]; omega)).trans ?_
    exact ifd_f (by simp only [decide_eq_true_eq]; omega)

theorem V_C2 (l : List Int) (hB : Bytes l) : ∃ b, unicode_utf8_ValidString_C2 (pcL prog cfg) lpL ((l, ()), ()) = some ((l, b, ()), ()) ∧ (b = true → 16 < l.length ∧ low 16 l) := by
  unfold unicode_utf8_ValidString_C2
  dsimp only
  by_cases h : l.length > 16
  · obtain ⟨w, hw, hc, hm⟩ := word_spec l hB (by omega)
    obtain ⟨w2, hw2, hc2, hm2⟩ := word_spec (l.drop 8) (hB.drop 8) (by simp; omega)
    refine ⟨(ibits .and .u64 (ibits .or .u64 (w : Int) (w2 : Int)) 9259542123273814144 == 0), ?_, fun hb => ⟨h, ?_⟩⟩
    · refine (ifd_t (by simp only [decide_eq_true_eq]; omega)).trans ?_
      refine bnd2 hc rfl ?_
      refine (ifd_t (by simp only [decide_eq_true_eq]; omega)).trans ?_
      rw [show Int.toNat 8 = 8 from rfl, dropS]
      refine bnd2 hc2 rfl ?_
      exact ifd_t (by simp only [decide_eq_true_eq]; omega)
    · rw [(ibits_u64 hw hw2).2] at hb
      have := or_mask ((and_mask_zero (Nat.or_lt_two_pow hw hw2)).1 hb)
      exact low_app (hm this.1) (hm2 this.2)
  · refine ⟨false, ?_, fun hb => by cases hb⟩
    refine (ifd_f (by simp only [decide_eq_true_eq]; omega)).trans ?_
    exact ifd_f (by simp only [decide_eq_true_eq]; omega)

theorem V_L3 : ∀ (n : Nat) (l : List Int), l.length = n → Bytes l → ∃ k, k ≤ l.length ∧ low k l ∧ unicode_utf8_ValidString_L3 (pcL prog cfg) lpL ((l, ()), ()) = some ((l.drop k, ()), ()) := by
  intro n
  induction n using Nat.strongRecOn with
  | _ n ih =>
    intro l hn hB
    by_cases h : l.length > 32
    · obtain ⟨w, hw, hc, hm⟩ := word_spec l hB (by omega)
      obtain ⟨w2, hw2, hc2, hm2⟩ := word_spec (l.drop 8) (hB.drop 8) (by simp; omega)
      obtain ⟨w3, hw3, hc3, hm3⟩ := word_spec (l.drop 16) (hB.drop 16) (by simp; omega)
      obtain ⟨w4, hw4, hc4, hm4⟩ := word_spec (l.drop 24) (hB.drop 24) (by simp; omega)
      have h12 := Nat.or_lt_two_pow hw hw2
      have h34 := Nat.or_lt_two_pow hw3 hw4
      have h1234 := Nat.or_lt_two_pow h12 h34
      obtain ⟨k, hk, hlow, hL⟩ := ih (l.drop 32).length (by simp; omega) (l.drop 32) rfl (hB.drop 32)
      by_cases hb : (ibits .and .u64 (ibits .or .u64 (ibits .or .u64 (w : Int) (w2 : Int)) (ibits .or .u64 (w3 : Int) (w4 : Int))) 9259542123273814144 == 0) = true
      · refine ⟨32 + k, by rw [List.length_drop] at hk; omega, ?_, ?_⟩
        · have hb' := hb
          rw [(ibits_u64 hw hw2).2, (ibits_u64 hw3 hw4).2, (ibits_u64 h12 h34).2] at hb'
          have hz := or_mask ((and_mask_zero h1234).1 hb')
          have hz1 := or_mask hz.1
          have hz2 := or_mask hz.2
          have hm4' : low 8 ((l.drop 16).drop 8) := by rw [List.drop_drop]; exact hm4 hz2.2
          have q1 : low (8 + 8) l := low_app (hm hz1.1) (hm2 hz1.2)
          have q2 : low (8 + 8) (l.drop 16) := low_app (hm3 hz2.1) hm4'
          have q3 : low (16 + 16) l := low_app q1 q2
          exact low_app q3 hlow
        · refine unicode_utf8_ValidString_L3_of ?_
          unfold unicode_utf8_ValidString_L3_R
          dsimp only
          refine (ifd_t (by simp only [decide_eq_true_eq]; omega)).trans ?_
          refine bnd2 hc rfl ?_
          refine (ifd_t (by simp only [decide_eq_true_eq]; omega)).trans ?_
          rw [show Int.toNat 8 = 8 from rfl, show Int.toNat 16 = 16 from rfl, show Int.toNat 24 = 24 from rfl, show Int.toNat 32 = 32 from rfl, dropS, dropS, dropS, dropS]
          refine bnd2 hc2 rfl ?_
          refine (ifd_t (by simp only [decide_eq_true_eq]; omega)).trans ?_
          refine bnd2 hc3 rfl ?_
          refine (ifd_t (by simp only [decide_eq_true_eq]; omega)).trans ?_
          refine bnd2 hc4 rfl ?_
          refine (ifd_t (by simp only [decide_eq_true_eq]; omega)).trans ?_
          refine (ifd_t hb).trans ?_
          refine (ifd_t (by simp only [decide_eq_true_eq]; omega)).trans ?_
          rw [List.drop_drop] at hL
          exact hL
      · refine ⟨0, by omega, fun j hj => by omega, ?_⟩
        refine unicode_utf8_ValidString_L3_of ?_
        unfold unicode_utf8_ValidString_L3_R
        dsimp only
        refine (ifd_t (by simp only [decide_eq_true_eq]; omega)).trans ?_
        refine bnd2 hc rfl ?_
        refine (ifd_t (by simp only [decide_eq_true_eq]; omega)).trans ?_
        rw [show Int.toNat 8 = 8 from rfl, show Int.toNat 16 = 16 from rfl, show Int.toNat 24 = 24 from rfl, show Int.toNat 32 = 32 from rfl, dropS, dropS, dropS, dropS]
        refine bnd2 hc2 rfl ?_
        refine (ifd_t (by simp only [decide_eq_true_eq]; omega)).trans ?_
        refine bnd2 hc3 rfl ?_
        refine (ifd_t (by simp only [decide_eq_true_eq]; omega)).trans ?_
        refine bnd2 hc4 rfl ?_
        refine (ifd_t (by simp only [decide_eq_true_eq]; omega)).trans ?_
        exact ifd_f hb
    · refine ⟨0, by omega, fun j hj => by omega, ?_⟩
      refine unicode_utf8_ValidString_L3_of ?_
      unfold unicode_utf8_ValidString_L3_R
      dsimp only
      refine (ifd_f (by simp only [decide_eq_true_eq]; omega)).trans ?_
      exact ifd_f (by simp only [decide_eq_true_eq]; omega)

theorem V_C4 (l : List Int) (hB : Bytes l) : ∃ k, k ≤ l.length ∧ low k l ∧ unicode_utf8_ValidString_C4 (pcL prog cfg) lpL ((l, ()), ()) = some ((l.drop k, ()), ()) := by
  unfold unicode_utf8_ValidString_C4
  dsimp only
  obtain ⟨b, h1, hb⟩ := V_C1 l hB
  cases b with
  | false =>
    refine ⟨0, by omega, fun j hj => by omega, ?_⟩
    refine bnd1 h1 ?_
    exact ifd_f (by simp)
  | true =>
    obtain ⟨hl, hlow⟩ := hb rfl
    obtain ⟨b2, h2, hb2⟩ := V_C2 (l.drop 8) (hB.drop 8)
    cases b2 with
    | false =>
      refine ⟨8, by omega, hlow, ?_⟩
      refine bnd1 h1 ?_
      refine (ifd_t rfl).trans ?_
      refine (ifd_t (by simp only [decide_eq_true_eq]; omega)).trans ?_
      dsimp only
      rw [show Int.toNat 8 = 8 from rfl, dropS]
      refine bnd1 h2 ?_
      exact ifd_f (by simp)
    | true =>
      obtain ⟨hl2, hlow2⟩ := hb2 rfl
      obtain ⟨k, hk, hlow3, h3⟩ := V_L3 _ ((l.drop 8).drop 16) rfl ((hB.drop 8).drop 16)
      refine ⟨8 + (16 + k), ?_, low_app hlow (low_app hlow2 hlow3), ?_⟩
      · simp only [List.length_drop] at hk hl2
        omega
      refine bnd1 h1 ?_
      refine (ifd_t rfl).trans ?_
      refine (ifd_t (by simp only [decide_eq_true_eq]; omega)).trans ?_
      dsimp only
      rw [show Int.toNat 8 = 8 from rfl, dropS]
      refine bnd1 h2 ?_
      refine (ifd_t rfl).trans ?_
      refine (ifd_t (by simp only [decide_eq_true_eq]; omega)).trans ?_
      dsimp only
      rw [show Int.toNat 16 = 16 from rfl, dropS]
      refine bnd1 h3 ?_
      dsimp only
      rw [List.drop_drop, List.drop_drop]

end Go.Proofs.YtklllljgdabheaaDoorSim
