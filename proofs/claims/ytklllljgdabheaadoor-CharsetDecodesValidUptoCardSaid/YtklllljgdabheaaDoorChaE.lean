/- charset: encoding. -/
import Derived.Test.YtklllljgdabheaaDoorChaD
namespace Go.Proofs.YtklllljgdabheaaDoorSim
open Go Go.Proofs
open Go.Proofs.Tryd (prog)
set_option linter.unusedVariables false
set_option linter.unusedSimpArgs false

def pair16 (n : Int) : List Int :=
  if n < 65536 then [n / 256, n % 256]
  else [(55296 + (n - 65536) / 1024) / 256, (55296 + (n - 65536) / 1024) % 256, (56320 + (n - 65536) % 1024) / 256, (56320 + (n - 65536) % 1024) % 256]

/-- a character's bytes in a set -/
def piece (set n : Int) : List Int := if set ≤ 1 then [n] else if set = 2 then utf8 n else pair16 n
def badIn (set n : Int) : Bool := (set == 0 && decide (n > 127)) || (set == 1 && decide (n > 255))

/-- a text's bytes in a set; the place of the first character that the set has not, or -1 -/
def encG (set : Int) (pos : Nat) : List Int → List Int × Int
  | [] => ([], -1)
  | c :: r =>
    if badIn set (rune1 (c :: r)).1 then ([], (pos : Int))
    else if 0 ≤ (encG set (pos + (rune1 (c :: r)).2) ((c :: r).drop (rune1 (c :: r)).2)).2 then ([], (encG set (pos + (rune1 (c :: r)).2) ((c :: r).drop (rune1 (c :: r)).2)).2)
    else (piece set (rune1 (c :: r)).1 ++ (encG set (pos + (rune1 (c :: r)).2) ((c :: r).drop (rune1 (c :: r)).2)).1, -1)
termination_by l => l.length
decreasing_by all_goals (have := (rune1_size c r).1; simp; omega)

theorem encG_nil (set : Int) (pos : Nat) : encG set pos [] = ([], -1) := by rw [encG]
theorem encG_cons (set : Int) (pos : Nat) (c : Int) (r : List Int) : encG set pos (c :: r) =
    if badIn set (rune1 (c :: r)).1 then ([], (pos : Int))
    else if 0 ≤ (encG set (pos + (rune1 (c :: r)).2) ((c :: r).drop (rune1 (c :: r)).2)).2 then ([], (encG set (pos + (rune1 (c :: r)).2) ((c :: r).drop (rune1 (c :: r)).2)).2)
    else (piece set (rune1 (c :: r)).1 ++ (encG set (pos + (rune1 (c :: r)).2) ((c :: r).drop (rune1 (c :: r)).2)).1, -1) := by rw [encG]

theorem and32 {x : Int} (h0 : 0 ≤ x) (h1 : x ≤ 2000000) : ibits .and .i32 x 1023 = x % 1024 := by
  have e1 := ofInt_toNat (x := x) (w := 32) h0 (by omega)
  have e2 := ofInt_toNat (x := 1023) (w := 32) (by omega) (by omega)
  show IntKind.wrap .i32 ((BitVec.ofInt 32 x &&& BitVec.ofInt 32 1023).toNat : Nat) = _
  rw [BitVec.toNat_and, e1, e2]
  have : Int.toNat 1023 = 2 ^ 10 - 1 := rfl
  rw [this, Nat.and_two_pow_sub_one_eq_mod, wrap32 (by omega) (by omega)]
  omega

theorem pairs_spec {n : Int} (h : Ok n) : charset_pairs_c (pcL prog cfg) n = some (pair16 n, (true, ())) := by
  unfold Ok at h
  refine charset_pairs_of ?_
  unfold charset_pairs_B
  have h2 : charset_pairs_C2 (pcL prog cfg) lpL ((n, ()), ()) = some ((n, ()), ()) := by
    unfold charset_pairs_C2
    dsimp only
    refine bnd1 (v := ((n, false, ()), ())) ?_ (ifd_f (by simp))
    unfold charset_pairs_C1
    dsimp only
    have q1 : ¬ (decide (n < 0)) = true := by simp only [decide_eq_true_eq]; omega
    have q2 : decide (n > 1114111) = false := decide_eq_false (by omega)
    by_cases h1 : n ≥ 55296
    · refine (ifd_t (decide_eq_true h1)).trans ?_
      refine (ifd_t (decide_eq_true h1)).trans ?_
      have q3 : ¬ (decide (n < 57344)) = true := by simp only [decide_eq_true_eq]; omega
      refine (ifd_f q3).trans ?_
      refine (ifd_f q3).trans ?_
      refine (ifd_f q1).trans ?_
      refine (ifd_f q1).trans ?_
      rw [q2]
    · refine (ifd_f (by simpa using h1)).trans ?_
      refine (ifd_f (by simpa using h1)).trans ?_
      refine (ifd_f q1).trans ?_
      refine (ifd_f q1).trans ?_
      rw [q2]
  refine bnd1 h2 ?_
  dsimp only
  have e8 : ((2 : Int) ^ (min (Int.toNat 8) 32)) = 256 := rfl
  have e10 : ((2 : Int) ^ (min (Int.toNat 10) 32)) = 1024 := rfl
  rw [e8, e10]
  unfold pair16
  by_cases h1 : n < 65536
  · refine (ifd_t (decide_eq_true h1)).trans ?_
    rw [if_pos h1, fdiv_pos (by omega), wrapU8, wrapU8]
    have : n / 256 % 256 = n / 256 := by omega
    rw [this]
  · refine (ifd_f (by simpa using h1)).trans ?_
    rw [if_neg h1, wrap32 (x := n - 65536) (by omega) (by omega), and32 (by omega) (by omega), fdiv_pos (x := n - 65536) (by omega)]
    rw [wrap32 (x := 55296 + (n - 65536) / 1024) (by omega) (by omega), wrap32 (x := 56320 + (n - 65536) % 1024) (by omega) (by omega), fdiv_pos (by omega), fdiv_pos (by omega)]
    rw [wrapU8, wrapU8, wrapU8, wrapU8]
    have a1 : (55296 + (n - 65536) / 1024) / 256 % 256 = (55296 + (n - 65536) / 1024) / 256 := by omega
    have a2 : (56320 + (n - 65536) % 1024) / 256 % 256 = (56320 + (n - 65536) % 1024) / 256 := by omega
    rw [a1, a2]

theorem bl_len (n : Int) : (encRune n).length ≤ 4 := by rw [encRune_utf8]; exact (utf8_len n).2

theorem find3_spec (n : Int) : charset_find_3_c (pcL prog cfg) n = some (utf8 n, (true, ())) := by
  refine charset_find_3_of ?_
  unfold charset_find_3_B
  have := bl_len n
  refine (ifd_t (by simp only [decide_eq_true_eq]; omega)).trans ?_
  rw [encRune_utf8]

theorem pair16_len (n : Int) : (pair16 n).length ≤ 4 := by
  unfold pair16
  split <;> simp

theorem piece_len (set n : Int) : (piece set n).length ≤ 4 := by
  unfold piece
  split
  · simp
  · split
    · exact (utf8_len n).2
    · exact pair16_len n

/-- at a character of a valid text -/
theorem valid_at (s : List Int) (hB : Bytes s) (i : Nat) (hi : i < s.length) (hv : validL (s.drop i) = true) :
    Ok (rune1 (s.drop i)).1 ∧ 1 ≤ (rune1 (s.drop i)).2 ∧ i + (rune1 (s.drop i)).2 ≤ s.length ∧ validL (s.drop (i + (rune1 (s.drop i)).2)) = true ∧ ((decRune s i).1 : Int) = (rune1 (s.drop i)).1 ∧ (decRune s i).2 = (rune1 (s.drop i)).2 := by
  have hd := drop_getD s i hi
  have hsz := rune1_size (s.getD i 0) (s.drop (i + 1))
  have hvc := validL_cons (s.getD i 0) (s.drop (i + 1))
  have hBd : Bytes (s.getD i 0 :: s.drop (i + 1)) := by rw [← hd]; exact hB.drop i
  have hle := rune1_le (s.getD i 0) (s.drop (i + 1)) (hB.getD i).1
  have hu := utf8_rune1 (s.getD i 0) (s.drop (i + 1)) hBd
  rw [← hd] at hsz hvc hle hu
  rw [hvc, Bool.and_eq_true, decide_eq_true_eq] at hv
  obtain ⟨d1, d2⟩ := decFix s i hB hi
  have hfix : fix (rune1 (s.drop i)).1 = (rune1 (s.drop i)).1 := if_neg (by omega)
  rw [hfix] at d1
  rw [List.length_drop] at hsz
  refine ⟨⟨hv.1, hle.2, (hu hv.1).2⟩, hsz.1, by omega, ?_, d1, d2⟩
  rw [← List.drop_drop]
  exact hv.2

theorem encG_at (set : Int) (s : List Int) (i : Nat) (hi : i < s.length) : encG set i (s.drop i) =
    if badIn set (rune1 (s.drop i)).1 then ([], (i : Int))
    else if 0 ≤ (encG set (i + (rune1 (s.drop i)).2) (s.drop (i + (rune1 (s.drop i)).2))).2 then ([], (encG set (i + (rune1 (s.drop i)).2) (s.drop (i + (rune1 (s.drop i)).2))).2)
    else (piece set (rune1 (s.drop i)).1 ++ (encG set (i + (rune1 (s.drop i)).2) (s.drop (i + (rune1 (s.drop i)).2))).1, -1) := by
  have hd := drop_getD s i hi
  have := encG_cons set i (s.getD i 0) (s.drop (i + 1))
  rw [← hd, List.drop_drop] at this
  exact this

theorem Encode_L1_spec (s : List Int) (hB : Bytes s) (hs : s.length ≤ 2000000) : ∀ (k i : Nat) (out : List Int), s.length - i = k → out.length + 4 * k ≤ 20000000 → validL (s.drop i) = true →
    ∃ p, charset_Encode_L1 (pcL prog cfg) lpL (((), (), out, (), ()), ((0, 0, ()), ((), (), ()), ((), ()), (128, ()), ((), (), ()), (s, i), ())) = some (if 0 ≤ (encG 0 i (s.drop i)).2 then Sum.inl (((), (), ()), ((17, (encG 0 i (s.drop i)).2, ()), ((), (), ()), ((), ()), (128, ()), ((), (), ()), (s, p), ())) else Sum.inr (((), out ++ (encG 0 i (s.drop i)).1, ()), ((0, 0, ()), ((), (), ()), ((), ()), (128, ()), ((), (), ()), (s, p), ()))) := by
  intro k
  induction k using Nat.strongRecOn with
  | _ k ih =>
    intro i out hk ho hv
    by_cases hi : i < s.length
    · obtain ⟨hok, h1, h2, h3, d1, d2⟩ := valid_at s hB i hi hv
      have hE := encG_at 0 s i hi
      unfold Ok at hok
      by_cases hb : (rune1 (s.drop i)).1 < 128
      · have hbad : badIn 0 (rune1 (s.drop i)).1 = false := by
          have q1 : decide ((rune1 (s.drop i)).1 > 127) = false := decide_eq_false (by omega)
          simp [badIn, q1]
        obtain ⟨p, hp⟩ := ih (s.length - (i + (rune1 (s.drop i)).2)) (by omega) (i + (rune1 (s.drop i)).2) (out ++ [(rune1 (s.drop i)).1]) rfl (by simp; omega) h3
        refine ⟨p, ?_⟩
        refine charset_Encode_L1_of ?_
        unfold charset_Encode_L1_R
        dsimp only
        refine (ifd_t hi).trans ?_
        rw [d1, d2]
        refine (ifd_f (by simp only [decide_eq_true hb]; simp)).trans ?_
        rw [wrapU8i hok.1 (by omega)]
        refine (ifd_t (by simp only [decide_eq_true_eq, List.length_cons, List.length_nil]; omega)).trans ?_
        rw [hp, hE, hbad]
        by_cases hq : 0 ≤ (encG 0 (i + (rune1 (s.drop i)).2) (s.drop (i + (rune1 (s.drop i)).2))).2
        · simp only [hq, if_true, Bool.false_eq_true, if_false]
        · have : ¬ (0 : Int) ≤ -1 := by omega
          have hpc : piece 0 (rune1 (s.drop i)).1 = [(rune1 (s.drop i)).1] := if_pos (by omega)
          simp only [hq, this, if_true, Bool.false_eq_true, if_false, hpc, List.append_assoc]
      · have hbad : badIn 0 (rune1 (s.drop i)).1 = true := by
          have q1 : decide ((rune1 (s.drop i)).1 > 127) = true := decide_eq_true (by omega)
          simp [badIn, q1]
        refine ⟨i + (rune1 (s.drop i)).2, ?_⟩
        refine charset_Encode_L1_of ?_
        unfold charset_Encode_L1_R
        dsimp only
        refine (ifd_t hi).trans ?_
        rw [d1, d2]
        refine (ifd_t (by simp only [decide_eq_false hb]; simp)).trans ?_
        rw [hE, hbad]
        have : (0 : Int) ≤ (i : Int) := by omega
        simp only [this, if_true]
    · refine ⟨i, ?_⟩
      refine charset_Encode_L1_of ?_
      unfold charset_Encode_L1_R
      dsimp only
      refine (ifd_f hi).trans ?_
      rw [List.drop_eq_nil_of_le (by omega), encG_nil]
      simp

theorem Encode_L2_spec (s : List Int) (hB : Bytes s) (hs : s.length ≤ 2000000) : ∀ (k i : Nat) (out : List Int), s.length - i = k → out.length + 4 * k ≤ 20000000 → validL (s.drop i) = true →
    ∃ p, charset_Encode_L2 (pcL prog cfg) lpL (((), (), out, (), ()), ((0, 0, ()), ((), (), ()), ((), ()), (256, ()), ((), (), ()), (s, i), ())) = some (if 0 ≤ (encG 1 i (s.drop i)).2 then Sum.inl (((), (), ()), ((17, (encG 1 i (s.drop i)).2, ()), ((), (), ()), ((), ()), (256, ()), ((), (), ()), (s, p), ())) else Sum.inr (((), out ++ (encG 1 i (s.drop i)).1, ()), ((0, 0, ()), ((), (), ()), ((), ()), (256, ()), ((), (), ()), (s, p), ()))) := by
  intro k
  induction k using Nat.strongRecOn with
  | _ k ih =>
    intro i out hk ho hv
    by_cases hi : i < s.length
    · obtain ⟨hok, h1, h2, h3, d1, d2⟩ := valid_at s hB i hi hv
      have hE := encG_at 1 s i hi
      unfold Ok at hok
      by_cases hb : (rune1 (s.drop i)).1 < 256
      · have hbad : badIn 1 (rune1 (s.drop i)).1 = false := by
          have q1 : decide ((rune1 (s.drop i)).1 > 255) = false := decide_eq_false (by omega)
          simp [badIn, q1]
        obtain ⟨p, hp⟩ := ih (s.length - (i + (rune1 (s.drop i)).2)) (by omega) (i + (rune1 (s.drop i)).2) (out ++ [(rune1 (s.drop i)).1]) rfl (by simp; omega) h3
        refine ⟨p, ?_⟩
        refine charset_Encode_L2_of ?_
        unfold charset_Encode_L2_R
        dsimp only
        refine (ifd_t hi).trans ?_
        rw [d1, d2]
        refine (ifd_f (by simp only [decide_eq_true hb]; simp)).trans ?_
        rw [wrapU8i hok.1 (by omega)]
        refine (ifd_t (by simp only [decide_eq_true_eq, List.length_cons, List.length_nil]; omega)).trans ?_
        rw [hp, hE, hbad]
        by_cases hq : 0 ≤ (encG 1 (i + (rune1 (s.drop i)).2) (s.drop (i + (rune1 (s.drop i)).2))).2
        · simp only [hq, if_true, Bool.false_eq_true, if_false]
        · have : ¬ (0 : Int) ≤ -1 := by omega
          have hpc : piece 1 (rune1 (s.drop i)).1 = [(rune1 (s.drop i)).1] := if_pos (by omega)
          simp only [hq, this, if_true, Bool.false_eq_true, if_false, hpc, List.append_assoc]
      · have hbad : badIn 1 (rune1 (s.drop i)).1 = true := by
          have q1 : decide ((rune1 (s.drop i)).1 > 255) = true := decide_eq_true (by omega)
          simp [badIn, q1]
        refine ⟨i + (rune1 (s.drop i)).2, ?_⟩
        refine charset_Encode_L2_of ?_
        unfold charset_Encode_L2_R
        dsimp only
        refine (ifd_t hi).trans ?_
        rw [d1, d2]
        refine (ifd_t (by simp only [decide_eq_false hb]; simp)).trans ?_
        rw [hE, hbad]
        have : (0 : Int) ≤ (i : Int) := by omega
        simp only [this, if_true]
    · refine ⟨i, ?_⟩
      refine charset_Encode_L2_of ?_
      unfold charset_Encode_L2_R
      dsimp only
      refine (ifd_f hi).trans ?_
      rw [List.drop_eq_nil_of_le (by omega), encG_nil]
      simp

theorem Encode_L3_spec (s : List Int) (hB : Bytes s) (hs : s.length ≤ 2000000) : ∀ (k i : Nat) (out : List Int), s.length - i = k → out.length + 4 * k ≤ 20000000 → validL (s.drop i) = true →
    ∃ p, charset_Encode_L3 (pcL prog cfg) lpL (((), (), out, (), ()), ((0, 0, ()), ((), (), ()), ((), (), ()), (s, i), ())) = some (if 0 ≤ (encG 2 i (s.drop i)).2 then Sum.inl (((), (), ()), ((17, (encG 2 i (s.drop i)).2, ()), ((), (), ()), ((), (), ()), (s, p), ())) else Sum.inr (((), out ++ (encG 2 i (s.drop i)).1, ()), ((0, 0, ()), ((), (), ()), ((), (), ()), (s, p), ()))) := by
  intro k
  induction k using Nat.strongRecOn with
  | _ k ih =>
    intro i out hk ho hv
    by_cases hi : i < s.length
    · obtain ⟨hok, h1, h2, h3, d1, d2⟩ := valid_at s hB i hi hv
      have hE := encG_at 2 s i hi
      have hbad : badIn 2 (rune1 (s.drop i)).1 = false := by simp [badIn]
      have hpc : piece 2 (rune1 (s.drop i)).1 = utf8 (rune1 (s.drop i)).1 := rfl
      have hpl := piece_len 2 (rune1 (s.drop i)).1
      rw [hpc] at hpl
      obtain ⟨p, hp⟩ := ih (s.length - (i + (rune1 (s.drop i)).2)) (by omega) (i + (rune1 (s.drop i)).2) (out ++ utf8 (rune1 (s.drop i)).1) rfl (by rw [List.length_append]; omega) h3
      refine ⟨p, ?_⟩
      refine charset_Encode_L3_of ?_
      unfold charset_Encode_L3_R
      dsimp only
      refine (ifd_t hi).trans ?_
      rw [d1, d2]
      refine bnd2 (find3_spec _) rfl ?_
      refine (ifd_f (by simp)).trans ?_
      refine (ifd_t (by simp only [decide_eq_true_eq]; omega)).trans ?_
      rw [hp, hE, hbad]
      by_cases hq : 0 ≤ (encG 2 (i + (rune1 (s.drop i)).2) (s.drop (i + (rune1 (s.drop i)).2))).2
      · simp only [hq, if_true, Bool.false_eq_true, if_false]
      · have : ¬ (0 : Int) ≤ -1 := by omega
        simp only [hq, this, if_true, Bool.false_eq_true, if_false, hpc, List.append_assoc]
    · refine ⟨i, ?_⟩
      refine charset_Encode_L3_of ?_
      unfold charset_Encode_L3_R
      dsimp only
      refine (ifd_f hi).trans ?_
      rw [List.drop_eq_nil_of_le (by omega), encG_nil]
      simp

theorem Encode_L4_spec (s : List Int) (hB : Bytes s) (hs : s.length ≤ 2000000) : ∀ (k i : Nat) (out : List Int), s.length - i = k → out.length + 4 * k ≤ 20000000 → validL (s.drop i) = true →
    ∃ p, charset_Encode_L4 (pcL prog cfg) lpL (((), (), out, (), ()), ((0, 0, ()), ((), (), ()), ((), (), ()), (s, i), ())) = some (if 0 ≤ (encG 3 i (s.drop i)).2 then Sum.inl (((), (), ()), ((17, (encG 3 i (s.drop i)).2, ()), ((), (), ()), ((), (), ()), (s, p), ())) else Sum.inr (((), out ++ (encG 3 i (s.drop i)).1, ()), ((0, 0, ()), ((), (), ()), ((), (), ()), (s, p), ()))) := by
  intro k
  induction k using Nat.strongRecOn with
  | _ k ih =>
    intro i out hk ho hv
    by_cases hi : i < s.length
    · obtain ⟨hok, h1, h2, h3, d1, d2⟩ := valid_at s hB i hi hv
      have hE := encG_at 3 s i hi
      have hbad : badIn 3 (rune1 (s.drop i)).1 = false := by simp [badIn]
      have hpc : piece 3 (rune1 (s.drop i)).1 = pair16 (rune1 (s.drop i)).1 := rfl
      have hpl := piece_len 3 (rune1 (s.drop i)).1
      rw [hpc] at hpl
      obtain ⟨p, hp⟩ := ih (s.length - (i + (rune1 (s.drop i)).2)) (by omega) (i + (rune1 (s.drop i)).2) (out ++ pair16 (rune1 (s.drop i)).1) rfl (by rw [List.length_append]; omega) h3
      refine ⟨p, ?_⟩
      refine charset_Encode_L4_of ?_
      unfold charset_Encode_L4_R
      dsimp only
      refine (ifd_t hi).trans ?_
      rw [d1, d2]
      refine bnd2 (pairs_spec hok) rfl ?_
      refine (ifd_f (by simp)).trans ?_
      refine (ifd_t (by simp only [decide_eq_true_eq]; omega)).trans ?_
      rw [hp, hE, hbad]
      by_cases hq : 0 ≤ (encG 3 (i + (rune1 (s.drop i)).2) (s.drop (i + (rune1 (s.drop i)).2))).2
      · simp only [hq, if_true, Bool.false_eq_true, if_false]
      · have : ¬ (0 : Int) ≤ -1 := by omega
        simp only [hq, this, if_true, Bool.false_eq_true, if_false, hpc, List.append_assoc]
    · refine ⟨i, ?_⟩
      refine charset_Encode_L4_of ?_
      unfold charset_Encode_L4_R
      dsimp only
      refine (ifd_f hi).trans ?_
      rw [List.drop_eq_nil_of_le (by omega), encG_nil]
      simp

theorem Encode_spec (name a : List Int) (hN : Bytes name) (hn : name.length ≤ 2000000) (hB : Bytes a) (ha : a.length ≤ 2000000) :
    charset_Encode_c (pcL prog cfg) name a = some (if a.length > 12000 then ([], ((1, ((-1), ())), ())) else if setOf name < 0 then ([], ((18, ((-2), ())), ())) else if validL a = false then ([], ((5, ((-3), ())), ()))
      else if 0 ≤ (encG (setOf name) 0 a).2 then ([], ((17, ((encG (setOf name) 0 a).2, ())), ())) else ((encG (setOf name) 0 a).1, ((0, (0, ())), ()))) := by
  refine charset_Encode_of ?_
  unfold charset_Encode_B
  refine bnd2 (lower_spec name hN hn) rfl ?_
  unfold setOf
  by_cases h12 : a.length > 12000
  · rw [if_pos h12]
    have hd : (decide (((a.length : Nat) : Int) > 12000)) = true := by simp only [decide_eq_true_eq]; omega
    by_cases h0 : lowL name = [97, 115, 99, 105, 105]
    · refine (ifd_t (by rw [h0]; rfl)).trans ?_
      exact ifd_t hd
    refine (ifd_f (by simpa using h0)).trans ?_
    by_cases h1 : lowL name = [108, 97, 116, 105, 110, 49]
    · refine (ifd_t (by rw [h1]; rfl)).trans ?_
      exact ifd_t hd
    refine (ifd_f (by simpa using h1)).trans ?_
    by_cases h2 : lowL name = [117, 116, 102, 56]
    · refine (ifd_t (by rw [h2]; rfl)).trans ?_
      exact ifd_t hd
    refine (ifd_f (by simpa using h2)).trans ?_
    by_cases h3 : lowL name = [117, 116, 102, 49, 54, 98, 101]
    · refine (ifd_t (by rw [h3]; rfl)).trans ?_
      exact ifd_t hd
    refine (ifd_f (by simpa using h3)).trans ?_
    exact ifd_t hd
  · rw [if_neg h12]
    have hd : ¬ (decide (((a.length : Nat) : Int) > 12000)) = true := by simp only [decide_eq_true_eq]; omega
    by_cases h0 : lowL name = [97, 115, 99, 105, 105]
    · refine (ifd_t (by rw [h0]; rfl)).trans ?_
      rw [if_pos h0]
      refine (ifd_f hd).trans ?_
      refine bnd2 (ValidString_spec a hB) rfl ?_
      cases hv : validL a with
      | false => exact ifd_t rfl
      | true =>
        refine (ifd_f (by simp)).trans ?_
        obtain ⟨p, hp⟩ := Encode_L1_spec a hB ha _ 0 [] rfl (by simp; omega) (by rw [List.drop_zero]; exact hv)
        rw [List.drop_zero, List.nil_append] at hp
        refine bnd1 hp ?_
        by_cases hq : 0 ≤ (encG 0 0 a).2
        · simp only [hq, if_true]
          rfl
        · simp only [hq, if_false]
          rfl
    refine (ifd_f (by simpa using h0)).trans ?_
    rw [if_neg h0]
    by_cases h1 : lowL name = [108, 97, 116, 105, 110, 49]
    · refine (ifd_t (by rw [h1]; rfl)).trans ?_
      rw [if_pos h1]
      refine (ifd_f hd).trans ?_
      refine bnd2 (ValidString_spec a hB) rfl ?_
      cases hv : validL a with
      | false => exact ifd_t rfl
      | true =>
        refine (ifd_f (by simp)).trans ?_
        obtain ⟨p, hp⟩ := Encode_L2_spec a hB ha _ 0 [] rfl (by simp; omega) (by rw [List.drop_zero]; exact hv)
        rw [List.drop_zero, List.nil_append] at hp
        refine bnd1 hp ?_
        by_cases hq : 0 ≤ (encG 1 0 a).2
        · simp only [hq, if_true]
          rfl
        · simp only [hq, if_false]
          rfl
    refine (ifd_f (by simpa using h1)).trans ?_
    rw [if_neg h1]
    by_cases h2 : lowL name = [117, 116, 102, 56]
    · refine (ifd_t (by rw [h2]; rfl)).trans ?_
      rw [if_pos h2]
      refine (ifd_f hd).trans ?_
      refine bnd2 (ValidString_spec a hB) rfl ?_
      cases hv : validL a with
      | false => exact ifd_t rfl
      | true =>
        refine (ifd_f (by simp)).trans ?_
        obtain ⟨p, hp⟩ := Encode_L3_spec a hB ha _ 0 [] rfl (by simp; omega) (by rw [List.drop_zero]; exact hv)
        rw [List.drop_zero, List.nil_append] at hp
        refine bnd1 hp ?_
        by_cases hq : 0 ≤ (encG 2 0 a).2
        · simp only [hq, if_true]
          rfl
        · simp only [hq, if_false]
          rfl
    refine (ifd_f (by simpa using h2)).trans ?_
    rw [if_neg h2]
    by_cases h3 : lowL name = [117, 116, 102, 49, 54, 98, 101]
    · refine (ifd_t (by rw [h3]; rfl)).trans ?_
      rw [if_pos h3]
      refine (ifd_f hd).trans ?_
      refine bnd2 (ValidString_spec a hB) rfl ?_
      cases hv : validL a with
      | false => exact ifd_t rfl
      | true =>
        refine (ifd_f (by simp)).trans ?_
        obtain ⟨p, hp⟩ := Encode_L4_spec a hB ha _ 0 [] rfl (by simp; omega) (by rw [List.drop_zero]; exact hv)
        rw [List.drop_zero, List.nil_append] at hp
        refine bnd1 hp ?_
        by_cases hq : 0 ≤ (encG 3 0 a).2
        · simp only [hq, if_true]
          rfl
        · simp only [hq, if_false]
          rfl
    refine (ifd_f (by simpa using h3)).trans ?_
    rw [if_neg h3]
    exact ifd_f hd

end Go.Proofs.YtklllljgdabheaaDoorSim
