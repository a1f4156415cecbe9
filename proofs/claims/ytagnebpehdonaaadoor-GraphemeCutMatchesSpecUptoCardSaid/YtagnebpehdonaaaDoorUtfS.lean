/- The library's decoding of one character. -/
import Derived.Test.YtagnebpehdonaaaDoorGen1
import Derived.Test.YtagnebpehdonaaaDoorUtfT
namespace Go.Proofs.YtagnebpehdonaaaDoorSim
open Go Go.Proofs
open Go.Proofs.Tryd (prog)
set_option linter.unusedVariables false
set_option linter.unusedSimpArgs false

theorem or32 {x y : Int} (k : Nat) (hk : k ≤ 30) (hx : 0 ≤ x) (hy : 0 ≤ y) (hyk : y < (2 ^ k : Nat)) (hb : x * (2 ^ k : Nat) + y ≤ 2147483647) : ibits .or .i32 (x * (2 ^ k : Nat)) y = x * (2 ^ k : Nat) + y := by
  have h0 : 0 ≤ x * ((2 ^ k : Nat) : Int) := Int.mul_nonneg hx (by omega)
  have e1 := ofInt_toNat (x := x * ((2 ^ k : Nat) : Int)) (w := 32) h0 (by omega)
  have e2 := ofInt_toNat (x := y) (w := 32) hy (by omega)
  show IntKind.wrap .i32 ((BitVec.ofInt 32 (x * ((2 ^ k : Nat) : Int)) ||| BitVec.ofInt 32 y).toNat : Nat) = _
  rw [BitVec.toNat_or, e1, e2]
  have e3 : (x * ((2 ^ k : Nat) : Int)).toNat = 2 ^ k * x.toNat := by
    rw [Int.toNat_mul hx (by omega), Int.toNat_natCast, Nat.mul_comm]
  have hy2 : y.toNat < 2 ^ k := by omega
  rw [e3, ← Nat.two_pow_add_eq_or_of_lt hy2]
  have e4 : ((2 ^ k * x.toNat + y.toNat : Nat) : Int) = x * (2 ^ k : Nat) + y := by
    rw [Int.natCast_add, Int.natCast_mul, Int.mul_comm]
    congr 1
    · rw [Int.toNat_of_nonneg hx]
    · omega
  rw [e4]
  exact wrap32 (by omega) (by omega)

theorem masks {c : Int} (hc : 0 ≤ c ∧ c ≤ 255) : ibits .and .u8 c 31 = c % 32 ∧ ibits .and .u8 c 15 = c % 16 ∧ ibits .and .u8 c 7 = c % 8 ∧ ibits .and .u8 c 63 = c % 64 :=
  all_bytes (p := fun c => ibits .and .u8 c 31 = c % 32 ∧ ibits .and .u8 c 15 = c % 16 ∧ ibits .and .u8 c 7 = c % 8 ∧ ibits .and .u8 c 63 = c % 64) (by decide +kernel) hc

theorem bad_first {c : Int} (hc : 0 ≤ c ∧ c ≤ 255) : 128 ≤ c →
    (szV c = 1 → List.getD firstL (Int.toNat c) 0 ≥ 240 ∧ ibits .or .i32 (ibits .andNot .i32 (IntKind.wrap .i32 c) (Int.fdiv (IntKind.wrap .i32 ((IntKind.wrap .i32 (List.getD firstL (Int.toNat c) 0)) * ((2 : Int) ^ (min (Int.toNat 31) 32)))) ((2 : Int) ^ (min (Int.toNat 31) 32)))) (ibits .and .i32 65533 (Int.fdiv (IntKind.wrap .i32 ((IntKind.wrap .i32 (List.getD firstL (Int.toNat c) 0)) * ((2 : Int) ^ (min (Int.toNat 31) 32)))) ((2 : Int) ^ (min (Int.toNat 31) 32)))) = 65533) ∧
    (szV c ≠ 1 → ¬ List.getD firstL (Int.toNat c) 0 ≥ 240) :=
  all_bytes (p := fun c => 128 ≤ c →
    (szV c = 1 → List.getD firstL (Int.toNat c) 0 ≥ 240 ∧ ibits .or .i32 (ibits .andNot .i32 (IntKind.wrap .i32 c) (Int.fdiv (IntKind.wrap .i32 ((IntKind.wrap .i32 (List.getD firstL (Int.toNat c) 0)) * ((2 : Int) ^ (min (Int.toNat 31) 32)))) ((2 : Int) ^ (min (Int.toNat 31) 32)))) (ibits .and .i32 65533 (Int.fdiv (IntKind.wrap .i32 ((IntKind.wrap .i32 (List.getD firstL (Int.toNat c) 0)) * ((2 : Int) ^ (min (Int.toNat 31) 32)))) ((2 : Int) ^ (min (Int.toNat 31) 32)))) = 65533) ∧
    (szV c ≠ 1 → ¬ List.getD firstL (Int.toNat c) 0 ≥ 240)) (by decide +kernel) hc

theorem slow_C1 (l : List Int) (c sz x lo hi : Int) : unicode_utf8_decodeRuneInStringSlow_C1 (pcL prog cfg) lpL ((l, c, sz, (), x, ()), ((lo, hi, ()), ())) = some ((l, c, sz, x, (decide (x < lo) || decide (hi < x)), ()), ((lo, hi, ()), ())) := by
  unfold unicode_utf8_decodeRuneInStringSlow_C1
  dsimp only
  by_cases h : x < lo
  · refine (ifd_t (decide_eq_true h)).trans ?_
    refine (ifd_t (decide_eq_true h)).trans ?_
    rw [decide_eq_true h, Bool.true_or]
  · refine (ifd_f (by simpa using h)).trans ?_
    refine (ifd_f (by simpa using h)).trans ?_
    rw [decide_eq_false h, Bool.false_or]

theorem slow_C2 (l : List Int) (c sz x y lo hi : Int) : unicode_utf8_decodeRuneInStringSlow_C2 (pcL prog cfg) lpL ((l, c, sz, x, y, ()), ((lo, hi, ()), ())) = some ((l, c, sz, x, y, (decide (y < 128) || decide (191 < y)), ()), ((lo, hi, ()), ())) := by
  unfold unicode_utf8_decodeRuneInStringSlow_C2
  dsimp only
  by_cases h : y < 128
  · refine (ifd_t (decide_eq_true h)).trans ?_
    refine (ifd_t (decide_eq_true h)).trans ?_
    rw [decide_eq_true h, Bool.true_or]
  · refine (ifd_f (by simpa using h)).trans ?_
    refine (ifd_f (by simpa using h)).trans ?_
    rw [decide_eq_false h, Bool.false_or]

theorem slow_C3 (c x y z lo hi : Int) : unicode_utf8_decodeRuneInStringSlow_C3 (pcL prog cfg) lpL ((c, x, y, z, ()), ((lo, hi, ()), ())) = some ((c, x, y, z, (decide (z < 128) || decide (191 < z)), ()), ((lo, hi, ()), ())) := by
  unfold unicode_utf8_decodeRuneInStringSlow_C3
  dsimp only
  by_cases h : z < 128
  · refine (ifd_t (decide_eq_true h)).trans ?_
    refine (ifd_t (decide_eq_true h)).trans ?_
    rw [decide_eq_true h, Bool.true_or]
  · refine (ifd_f (by simpa using h)).trans ?_
    refine (ifd_f (by simpa using h)).trans ?_
    rw [decide_eq_false h, Bool.false_or]

/-- a character of more than one byte: its number by its size -/
theorem okV_value (c : Int) (r : List Int) (h1 : ¬ c < 128) (hok : okV c r) :
    (szV c = 2 → (rune1 (c :: r)).1 = n2 c (r.getD 0 0)) ∧ (szV c = 3 → (rune1 (c :: r)).1 = n3 c (r.getD 0 0) (r.getD 1 0)) ∧ (szV c = 4 → (rune1 (c :: r)).1 = n4 c (r.getD 0 0) (r.getD 1 0) (r.getD 2 0)) := by
  have hg := (okV_rune c r h1).1 hok
  have hsz := hg.2
  have h0 := hg.1
  rw [rune1, if_neg h1] at hsz h0 ⊢
  by_cases h2 : c < 192
  · rw [if_pos h2] at h0; simp at h0
  · rw [if_neg h2] at hsz h0 ⊢
    by_cases h3 : c < 224
    · rw [if_pos h3] at hsz h0 ⊢
      split at h0
      · rename_i hk
        rw [if_pos hk] at hsz ⊢
        simp only at hsz
        exact ⟨fun _ => rfl, fun h => by omega, fun h => by omega⟩
      · simp at h0
    · rw [if_neg h3] at hsz h0 ⊢
      by_cases h4 : c < 240
      · rw [if_pos h4] at hsz h0 ⊢
        split at h0
        · rename_i hk
          rw [if_pos hk] at hsz ⊢
          simp only at hsz
          exact ⟨fun h => by omega, fun _ => rfl, fun h => by omega⟩
        · simp at h0
      · rw [if_neg h4] at hsz h0 ⊢
        by_cases h5 : c < 248
        · rw [if_pos h5] at hsz h0 ⊢
          split at h0
          · rename_i hk
            rw [if_pos hk] at hsz ⊢
            simp only at hsz
            exact ⟨fun h => by omega, fun h => by omega, fun _ => rfl⟩
          · simp at h0
        · rw [if_neg h5] at h0; simp at h0

theorem rune1_bad (c : Int) (r : List Int) (h : (rune1 (c :: r)).1 < 0) (hc : 0 ≤ c) : rune1 (c :: r) = (-1, 1) := by
  rw [rune1] at h ⊢
  split
  · rename_i h1; rw [if_pos h1] at h; simp only at h; omega
  · rename_i h1
    rw [if_neg h1] at h
    split
    · rfl
    · rename_i h2
      rw [if_neg h2] at h
      split
      · rename_i h3
        rw [if_pos h3] at h
        split
        · rename_i hk; rw [if_pos hk] at h; simp only at h; omega
        · rfl
      · rename_i h3
        rw [if_neg h3] at h
        split
        · rename_i h4
          rw [if_pos h4] at h
          split
          · rename_i hk; rw [if_pos hk] at h; simp only at h; omega
          · rfl
        · rename_i h4
          rw [if_neg h4] at h
          split
          · rename_i h5
            rw [if_pos h5] at h
            split
            · rename_i hk; rw [if_pos hk] at h; simp only at h; omega
            · rfl
          · rfl

theorem join4 {c x y z : Int} (hc : 240 ≤ c ∧ c ≤ 244) (hx : 128 ≤ x ∧ x ≤ 191) (hy : 128 ≤ y ∧ y ≤ 191) (hz : 128 ≤ z ∧ z ≤ 191) :
    ibits .or .i32 (ibits .or .i32 (ibits .or .i32 (IntKind.wrap .i32 (IntKind.wrap .i32 (c % 8) * ((2 : Int) ^ (min (Int.toNat 18) 32)))) (IntKind.wrap .i32 (IntKind.wrap .i32 (x % 64) * ((2 : Int) ^ (min (Int.toNat 12) 32))))) (IntKind.wrap .i32 (IntKind.wrap .i32 (y % 64) * ((2 : Int) ^ (min (Int.toNat 6) 32))))) (IntKind.wrap .i32 (z % 64)) = n4 c x y z := by
  have m6 : ((2 : Int) ^ (min (Int.toNat 6) 32)) = 64 := rfl
  have m12 : ((2 : Int) ^ (min (Int.toNat 12) 32)) = 4096 := rfl
  have m18 : ((2 : Int) ^ (min (Int.toNat 18) 32)) = 262144 := rfl
  have w1 : IntKind.wrap .i32 (IntKind.wrap .i32 (c % 8) * ((2 : Int) ^ (min (Int.toNat 18) 32))) = c % 8 * 262144 := by rw [m18, wrap32 (x := c % 8) (by omega) (by omega)]; exact wrap32 (by omega) (by omega)
  have w2 : IntKind.wrap .i32 (IntKind.wrap .i32 (x % 64) * ((2 : Int) ^ (min (Int.toNat 12) 32))) = x % 64 * 4096 := by rw [m12, wrap32 (x := x % 64) (by omega) (by omega)]; exact wrap32 (by omega) (by omega)
  have w3 : IntKind.wrap .i32 (IntKind.wrap .i32 (y % 64) * ((2 : Int) ^ (min (Int.toNat 6) 32))) = y % 64 * 64 := by rw [m6, wrap32 (x := y % 64) (by omega) (by omega)]; exact wrap32 (by omega) (by omega)
  have w4 : IntKind.wrap .i32 (z % 64) = z % 64 := wrap32 (by omega) (by omega)
  rw [w1, w2, w3, w4]
  have o1 : ibits .or .i32 (c % 8 * 262144) (x % 64 * 4096) = c % 8 * 262144 + x % 64 * 4096 := or32 18 (by omega) (by omega) (by omega) (by show _ < (262144 : Int); omega) (by show c % 8 * (262144 : Int) + _ ≤ _; omega)
  rw [o1]
  have e5 : c % 8 * 262144 + x % 64 * 4096 = (c % 8 * 64 + x % 64) * 4096 := by omega
  have o2 : ibits .or .i32 ((c % 8 * 64 + x % 64) * 4096) (y % 64 * 64) = (c % 8 * 64 + x % 64) * 4096 + y % 64 * 64 := or32 12 (by omega) (by omega) (by omega) (by show _ < (4096 : Int); omega) (by show (c % 8 * 64 + x % 64) * (4096 : Int) + _ ≤ _; omega)
  rw [e5, o2]
  have e6 : (c % 8 * 64 + x % 64) * 4096 + y % 64 * 64 = ((c % 8 * 64 + x % 64) * 64 + y % 64) * 64 := by omega
  have o3 : ibits .or .i32 (((c % 8 * 64 + x % 64) * 64 + y % 64) * 64) (z % 64) = ((c % 8 * 64 + x % 64) * 64 + y % 64) * 64 + z % 64 := or32 6 (by omega) (by omega) (by omega) (by show _ < (64 : Int); omega) (by show ((c % 8 * 64 + x % 64) * 64 + y % 64) * (64 : Int) + _ ≤ _; omega)
  rw [e6, o3]
  simp only [n4]
  omega

theorem join3 {c x y : Int} (hc : 224 ≤ c ∧ c ≤ 239) (hx : 128 ≤ x ∧ x ≤ 191) (hy : 128 ≤ y ∧ y ≤ 191) :
    ibits .or .i32 (ibits .or .i32 (IntKind.wrap .i32 (IntKind.wrap .i32 (c % 16) * ((2 : Int) ^ (min (Int.toNat 12) 32)))) (IntKind.wrap .i32 (IntKind.wrap .i32 (x % 64) * ((2 : Int) ^ (min (Int.toNat 6) 32))))) (IntKind.wrap .i32 (y % 64)) = n3 c x y := by
  have m6 : ((2 : Int) ^ (min (Int.toNat 6) 32)) = 64 := rfl
  have m12 : ((2 : Int) ^ (min (Int.toNat 12) 32)) = 4096 := rfl
  have w2 : IntKind.wrap .i32 (IntKind.wrap .i32 (c % 16) * ((2 : Int) ^ (min (Int.toNat 12) 32))) = c % 16 * 4096 := by rw [m12, wrap32 (x := c % 16) (by omega) (by omega)]; exact wrap32 (by omega) (by omega)
  have w3 : IntKind.wrap .i32 (IntKind.wrap .i32 (x % 64) * ((2 : Int) ^ (min (Int.toNat 6) 32))) = x % 64 * 64 := by rw [m6, wrap32 (x := x % 64) (by omega) (by omega)]; exact wrap32 (by omega) (by omega)
  have w4 : IntKind.wrap .i32 (y % 64) = y % 64 := wrap32 (by omega) (by omega)
  rw [w2, w3, w4]
  have o2 : ibits .or .i32 (c % 16 * 4096) (x % 64 * 64) = c % 16 * 4096 + x % 64 * 64 := or32 12 (by omega) (by omega) (by omega) (by show _ < (4096 : Int); omega) (by show c % 16 * (4096 : Int) + _ ≤ _; omega)
  rw [o2]
  have e6 : c % 16 * 4096 + x % 64 * 64 = (c % 16 * 64 + x % 64) * 64 := by omega
  have o3 : ibits .or .i32 ((c % 16 * 64 + x % 64) * 64) (y % 64) = (c % 16 * 64 + x % 64) * 64 + y % 64 := or32 6 (by omega) (by omega) (by omega) (by show _ < (64 : Int); omega) (by show (c % 16 * 64 + x % 64) * (64 : Int) + _ ≤ _; omega)
  rw [e6, o3]
  simp only [n3]
  omega

theorem Slow_spec (c : Int) (r : List Int) (hB : Bytes (c :: r)) (h128 : ¬ c < 128) (hl : r.length ≤ 4000000) :
    unicode_utf8_decodeRuneInStringSlow_c (pcL prog cfg) (c :: r) = some (fix (rune1 (c :: r)).1, (((rune1 (c :: r)).2 : Int), ())) := by
  refine unicode_utf8_decodeRuneInStringSlow_of ?_
  unfold unicode_utf8_decodeRuneInStringSlow_B
  have hc : 0 ≤ c ∧ c ≤ 255 := hB c (by simp)
  have hBr : Bytes r := fun x hx => hB x (by simp [hx])
  have hl1 : (((c :: r).length : Nat) : Int) = (r.length : Int) + 1 := by simp
  have e0 : List.getD (c :: r) (Int.toNat 0) 0 = c := rfl
  have e1 : List.getD (c :: r) (Int.toNat 1) 0 = r.getD 0 0 := rfl
  have e2 : List.getD (c :: r) (Int.toNat 2) 0 = r.getD 1 0 := rfl
  have e3 : List.getD (c :: r) (Int.toNat 3) 0 = r.getD 2 0 := rfl
  refine (ifd_f (by simp only [decide_eq_true_eq]; omega)).trans ?_
  refine (ifd_t (by simp only [decide_eq_true_eq]; omega)).trans ?_
  rw [e0, e1]
  refine (ifd_t (by simp only [decide_eq_true_eq]; omega)).trans ?_
  obtain ⟨t1, t2, t3⟩ := tableV hc (by omega)
  obtain ⟨f1, f2⟩ := bad_first hc (by omega)
  have hr := okV_rune c r h128
  have bad : ¬ okV c r → some ((65533 : Int), ((1 : Int), ())) = some (fix (rune1 (c :: r)).1, (((rune1 (c :: r)).2 : Int), ())) := fun h => by
    rw [rune1_bad c r (hr.2 h) hc.1]
    rfl
  by_cases s1 : szV c = 1
  · obtain ⟨g1, g2⟩ := f1 s1
    refine (ifd_t (decide_eq_true g1)).trans ?_
    refine (ifd_t (by simp only [decide_eq_true_eq]; omega)).trans ?_
    rw [g2]
    exact bad (fun h => h.1 s1)
  · refine (ifd_f (by simpa using f2 s1)).trans ?_
    refine (ifd_t (decide_eq_true t1)).trans ?_
    obtain ⟨t4, t5⟩ := t3 s1
    rw [t2, t4, t5]
    by_cases p1 : (r.length : Int) + 1 < szV c
    · refine (ifd_t (by simp only [decide_eq_true_eq]; omega)).trans ?_
      exact bad (fun h => by have := h.2.1; omega)
    · have hsz : szV c = 2 ∨ szV c = 3 ∨ szV c = 4 := by
        unfold szV at s1 ⊢
        repeat' split
        all_goals first | omega | (simp_all)
      refine (ifd_f (by simp only [decide_eq_true_eq]; omega)).trans ?_
      refine (ifd_t (by simp only [decide_eq_true_eq]; omega)).trans ?_
      refine bnd1 (slow_C1 _ _ _ _ _ _) ?_
      dsimp only
      rw [e2]
      have b0 := hBr.getD 0
      have b1 := hBr.getD 1
      have b2 := hBr.getD 2
      by_cases p2 : (decide (r.getD 0 0 < loV c) || decide (hiV c < r.getD 0 0)) = true
      · refine (ifd_t p2).trans ?_
        rw [Bool.or_eq_true, decide_eq_true_eq, decide_eq_true_eq] at p2
        exact bad (fun h => by have := h.2.2.1; omega)
      refine (ifd_f p2).trans ?_
      rw [Bool.or_eq_true, decide_eq_true_eq, decide_eq_true_eq] at p2
      have hlo : loV c = 128 ∨ loV c = 160 ∨ loV c = 144 := by unfold loV; repeat' split; all_goals omega
      have hhi : hiV c = 191 ∨ hiV c = 159 ∨ hiV c = 143 := by unfold hiV; repeat' split; all_goals omega
      have m6 : ((2 : Int) ^ (min (Int.toNat 6) 32)) = ((2 ^ 6 : Nat) : Int) := rfl
      have m12 : ((2 : Int) ^ (min (Int.toNat 12) 32)) = ((2 ^ 12 : Nat) : Int) := rfl
      have m18 : ((2 : Int) ^ (min (Int.toNat 18) 32)) = ((2 ^ 18 : Nat) : Int) := rfl
      obtain ⟨a31, a15, a7, _⟩ := masks hc
      obtain ⟨_, _, _, x63⟩ := masks b0
      obtain ⟨_, _, _, y63⟩ := masks b1
      obtain ⟨_, _, _, z63⟩ := masks b2
      have q6 : ((2 ^ 6 : Nat) : Int) = 64 := rfl
      have q12 : ((2 ^ 12 : Nat) : Int) = 4096 := rfl
      have q18 : ((2 ^ 18 : Nat) : Int) = 262144 := rfl
      by_cases p3 : szV c ≤ 2
      · have s2 : szV c = 2 := by omega
        have hok : okV c r := ⟨s1, by omega, by omega, fun h => by omega, fun h => by omega⟩
        have hv := (okV_value c r h128 hok).1 s2
        have hs := (hr.1 hok).2
        have h0 := (hr.1 hok).1
        refine (ifd_t (decide_eq_true p3)).trans ?_
        have hcr : 192 ≤ c ∧ c ≤ 223 := by unfold szV at s2; split at s2 <;> omega
        rw [a31, x63, m6, wrap32 (x := c % 32) (by omega) (by omega), wrap32 (x := c % 32 * ((2 ^ 6 : Nat) : Int)) (by omega) (by omega), wrap32 (x := r.getD 0 0 % 64) (by omega) (by omega), or32 6 (by omega) (by omega) (by omega) (by omega) (by omega)]
        have hfix : fix (rune1 (c :: r)).1 = (rune1 (c :: r)).1 := if_neg (by omega)
        rw [hfix, hs, s2, hv]
        have : c % 32 * ((2 ^ 6 : Nat) : Int) + r.getD 0 0 % 64 = n2 c (r.getD 0 0) := by simp only [n2]; omega
        rw [this]
      · refine (ifd_f (by simpa using p3)).trans ?_
        refine (ifd_t (by simp only [decide_eq_true_eq]; omega)).trans ?_
        refine bnd1 (slow_C2 _ _ _ _ _ _ _) ?_
        dsimp only
        rw [e3]
        by_cases p4 : (decide (r.getD 1 0 < 128) || decide (191 < r.getD 1 0)) = true
        · refine (ifd_t p4).trans ?_
          rw [Bool.or_eq_true, decide_eq_true_eq, decide_eq_true_eq] at p4
          exact bad (fun h => by have := h.2.2.2.1 (by omega); omega)
        refine (ifd_f p4).trans ?_
        rw [Bool.or_eq_true, decide_eq_true_eq, decide_eq_true_eq] at p4
        by_cases p5 : szV c ≤ 3
        · have s3 : szV c = 3 := by omega
          have hok : okV c r := ⟨s1, by omega, by omega, fun h => by omega, fun h => by omega⟩
          have hv := (okV_value c r h128 hok).2.1 s3
          have hs := (hr.1 hok).2
          have h0 := (hr.1 hok).1
          refine (ifd_t (decide_eq_true p5)).trans ?_
          have hcr : 224 ≤ c ∧ c ≤ 239 := by
            unfold szV at s3
            split at s3
            · omega
            · split at s3
              · omega
              · split at s3 <;> omega
          have hfix : fix (rune1 (c :: r)).1 = (rune1 (c :: r)).1 := if_neg (by omega)
          rw [hfix, hs, s3, hv, a15, x63, y63, join3 hcr (by omega) (by omega)]
        · have s4 : szV c = 4 := by omega
          refine (ifd_f (by simpa using p5)).trans ?_
          refine (ifd_t (by simp only [decide_eq_true_eq]; omega)).trans ?_
          refine bnd1 (slow_C3 _ _ _ _ _ _) ?_
          dsimp only
          by_cases p6 : (decide (r.getD 2 0 < 128) || decide (191 < r.getD 2 0)) = true
          · refine (ifd_t p6).trans ?_
            rw [Bool.or_eq_true, decide_eq_true_eq, decide_eq_true_eq] at p6
            exact bad (fun h => by have := h.2.2.2.2 (by omega); omega)
          refine (ifd_f p6).trans ?_
          rw [Bool.or_eq_true, decide_eq_true_eq, decide_eq_true_eq] at p6
          have hok : okV c r := ⟨s1, by omega, by omega, fun h => by omega, fun h => by omega⟩
          have hv := (okV_value c r h128 hok).2.2 s4
          have hs := (hr.1 hok).2
          have h0 := (hr.1 hok).1
          have hcr : 240 ≤ c ∧ c ≤ 244 := by
            unfold szV at s4
            split at s4
            · omega
            · split at s4
              · omega
              · split at s4 <;> omega
          have hfix : fix (rune1 (c :: r)).1 = (rune1 (c :: r)).1 := if_neg (by omega)
          rw [hfix, hs, s4, hv, a7, x63, y63, z63, join4 hcr (by omega) (by omega) (by omega)]

theorem DecodeRune_spec (c : Int) (r : List Int) (hB : Bytes (c :: r)) (hl : r.length ≤ 4000000) :
    unicode_utf8_DecodeRuneInString_c (pcL prog cfg) (c :: r) = some (fix (rune1 (c :: r)).1, (((rune1 (c :: r)).2 : Int), ())) := by
  refine unicode_utf8_DecodeRuneInString_of ?_
  unfold unicode_utf8_DecodeRuneInString_B
  have hc : 0 ≤ c ∧ c ≤ 255 := hB c (by simp)
  have hl1 : (((c :: r).length : Nat) : Int) = (r.length : Int) + 1 := by simp
  refine bnd1 (v := ((c :: r, decide (c < 128), ()), ())) ?_ ?_
  · unfold unicode_utf8_DecodeRuneInString_C1
    dsimp only
    refine (ifd_t (by simp)).trans ?_
    refine (ifd_t (by simp only [decide_eq_true_eq]; omega)).trans ?_
    refine (ifd_t (by simp)).trans ?_
    rfl
  · dsimp only
    by_cases h : c < 128
    · refine (ifd_t (decide_eq_true h)).trans ?_
      refine (ifd_t (by simp only [decide_eq_true_eq]; omega)).trans ?_
      have e0 : List.getD (c :: r) (Int.toNat 0) 0 = c := rfl
      rw [e0, wrap32 (by omega) (by omega), rune1, if_pos h]
      have : fix c = c := if_neg (by omega)
      simp only [this]
      rfl
    · refine (ifd_f (by simpa using h)).trans ?_
      exact bnd2 (Slow_spec c r hB h hl) rfl rfl

end Go.Proofs.YtagnebpehdonaaaDoorSim
