/- Characters of a text, in plain form. -/
import Derived.Test.YthhllkiefncbnaaDoorPl
namespace Go.Proofs.YthhllkiefncbnaaDoorSim
open Go
set_option linter.unusedVariables false
set_option linter.unusedSimpArgs false

def cont (x : Int) : Bool := decide (128 ≤ x ∧ x ≤ 191)
def n2 (c x : Int) : Int := 64 * (c - 192) + (x - 128)
def n3 (c x y : Int) : Int := 64 * (64 * (c - 224) + (x - 128)) + (y - 128)
def n4 (c x y z : Int) : Int := 64 * (64 * (64 * (c - 240) + (x - 128)) + (y - 128)) + (z - 128)

/-- the character at the head: its number (-1: invalid), its size -/
def rune1 : List Int → Int × Nat
  | [] => (-1, 1)
  | c :: r =>
    if c < 128 then (c, 1)
    else if c < 192 then (-1, 1)
    else if c < 224 then
      if 1 ≤ r.length ∧ cont (r.getD 0 0) = true ∧ 128 ≤ n2 c (r.getD 0 0) then (n2 c (r.getD 0 0), 2) else (-1, 1)
    else if c < 240 then
      if 2 ≤ r.length ∧ cont (r.getD 0 0) = true ∧ cont (r.getD 1 0) = true ∧ 2048 ≤ n3 c (r.getD 0 0) (r.getD 1 0) ∧ ¬ (55296 ≤ n3 c (r.getD 0 0) (r.getD 1 0) ∧ n3 c (r.getD 0 0) (r.getD 1 0) ≤ 57343) then (n3 c (r.getD 0 0) (r.getD 1 0), 3) else (-1, 1)
    else if c < 248 then
      if 3 ≤ r.length ∧ cont (r.getD 0 0) = true ∧ cont (r.getD 1 0) = true ∧ cont (r.getD 2 0) = true ∧ 65536 ≤ n4 c (r.getD 0 0) (r.getD 1 0) (r.getD 2 0) ∧ n4 c (r.getD 0 0) (r.getD 1 0) (r.getD 2 0) ≤ 1114111 then (n4 c (r.getD 0 0) (r.getD 1 0) (r.getD 2 0), 4) else (-1, 1)
    else (-1, 1)

theorem cont_iff {x : Int} : cont x = true ↔ 128 ≤ x ∧ x ≤ 191 := by simp [cont]

theorem rune1_size (c : Int) (r : List Int) : 1 ≤ (rune1 (c :: r)).2 ∧ (rune1 (c :: r)).2 ≤ r.length + 1 ∧ (rune1 (c :: r)).2 ≤ 4 := by
  rw [rune1]
  split
  · simp
  · split
    · simp
    · split
      · split <;> simp <;> omega
      · split
        · split <;> simp <;> omega
        · split
          · split <;> simp <;> omega
          · simp

theorem rune1_le (c : Int) (r : List Int) (h : 0 ≤ c) : -1 ≤ (rune1 (c :: r)).1 ∧ (rune1 (c :: r)).1 ≤ 1114111 := by
  rw [rune1]
  split
  · simp; omega
  · split
    · simp
    · split
      · split
        · rename_i h1; have := cont_iff.1 h1.2.1; simp only [n2] at *; omega
        · simp
      · split
        · split
          · rename_i h1; have := cont_iff.1 h1.2.1; have := cont_iff.1 h1.2.2.1; simp only [n3] at *; omega
          · simp
        · split
          · split
            · rename_i h1; simp only; omega
            · simp
          · simp

theorem toBA_size (l : List Int) : (toBA l).size = l.length := by simp [toBA, ByteArray.size]

theorem toBA_get (l : List Int) (j : Nat) (h : j < l.length) (hB : Bytes l) : ((toBA l).get! j).toNat = (l.getD j 0).toNat := by
  have hb := hB (l[j]) (List.getElem_mem h)
  have e : (toBA l).get! j = UInt8.ofNat (l[j]).toNat := by
    show ((toBA l).data)[j]! = _
    simp [toBA, h]
  rw [e, List.getD_eq_getElem?_getD, List.getElem?_eq_getElem h]
  simp
  omega

theorem decRune_spec (l : List Int) (i : Nat) (hB : Bytes l) (h : i < l.length) :
    decRune l i = ((if (rune1 (l.drop i)).1 < 0 then 65533 else (rune1 (l.drop i)).1.toNat), (rune1 (l.drop i)).2) := by
  have hd := drop_getD l i h
  have hr : (l.drop (i + 1)).length = l.length - (i + 1) := List.length_drop
  have hg : ∀ k, (l.drop (i + 1)).getD k 0 = l.getD (i + (k + 1)) 0 := fun k => by
    simp [List.getD_eq_getElem?_getD, Nat.add_assoc, Nat.add_comm 1 k]
  have hc := hB.getD i
  have hat : ∀ k, i + k < l.length → ((toBA l).get! (i + k)).toNat = (l.getD (i + k) 0).toNat := fun k hk => toBA_get l _ hk hB
  have hct : ∀ k, (decide (i + (k + 1) < (toBA l).size) && ((toBA l).get! (i + (k + 1))).toNat / 64 == 2) = (decide (k + 1 ≤ (l.drop (i + 1)).length) && cont ((l.drop (i + 1)).getD k 0)) := fun k => by
    rw [toBA_size, hr, hg]
    by_cases hk : i + (k + 1) < l.length
    · rw [hat _ hk]
      have hx := hB.getD (i + (k + 1))
      have e1 : k + 1 ≤ l.length - (i + 1) := by omega
      simp only [hk, e1, decide_true, Bool.true_and, cont]
      rw [Bool.eq_iff_iff]
      simp only [beq_iff_eq, decide_eq_true_eq]
      omega
    · have e1 : ¬ (k + 1 ≤ l.length - (i + 1)) := by omega
      simp [hk, e1]
  have h0 := hat 0 h
  simp only [Nat.add_zero] at h0
  have c1 := hct 0
  have c2 := hct 1
  have c3 := hct 2
  simp only [Nat.zero_add, Nat.reduceAdd] at c1 c2 c3
  have g1 : 1 ≤ (l.drop (i + 1)).length → ((toBA l).get! (i + 1)).toNat = ((l.drop (i + 1)).getD 0 0).toNat := fun hk => by rw [hg]; exact hat 1 (by omega)
  have g2 : 2 ≤ (l.drop (i + 1)).length → ((toBA l).get! (i + 2)).toNat = ((l.drop (i + 1)).getD 1 0).toNat := fun hk => by rw [hg]; exact hat 2 (by omega)
  have g3 : 3 ≤ (l.drop (i + 1)).length → ((toBA l).get! (i + 3)).toNat = ((l.drop (i + 1)).getD 2 0).toNat := fun hk => by rw [hg]; exact hat 3 (by omega)
  unfold decRune Utf8.decode
  dsimp only
  simp only [Nat.add_zero, h0, c1, c2, c3]
  rw [hd]
  generalize (toBA l).get! (i + 1) = b1 at g1
  generalize (toBA l).get! (i + 2) = b2 at g2
  generalize (toBA l).get! (i + 3) = b3 at g3
  generalize l.drop (i + 1) = r at g1 g2 g3
  generalize l.getD i 0 = c at hc
  have bad : rune1 (c :: r) = (-1, 1) → (Utf8.runeError, 1) = ((if (rune1 (c :: r)).1 < 0 then 65533 else (rune1 (c :: r)).1.toNat), (rune1 (c :: r)).2) := fun h => by rw [h]; rfl
  have good : ∀ (n : Int) (k : Nat), 0 ≤ n → rune1 (c :: r) = (n, k) → (n.toNat, k) = ((if (rune1 (c :: r)).1 < 0 then 65533 else (rune1 (c :: r)).1.toNat), (rune1 (c :: r)).2) := fun n k hn h => by
    rw [h]
    have : ¬ n < 0 := by omega
    simp [this]
  by_cases h1 : c < 128
  · have a1 : c.toNat < 128 := by omega
    rw [if_pos a1]
    exact good c 1 hc.1 (by rw [rune1, if_pos h1])
  · have a1 : ¬ c.toNat < 128 := by omega
    rw [if_neg a1]
    by_cases h2 : c < 192
    · have e1 : (c.toNat / 32 == 6) = false := beq_eq_false_iff_ne.2 (by omega)
      have e2 : (c.toNat / 16 == 14) = false := beq_eq_false_iff_ne.2 (by omega)
      have e3 : (c.toNat / 8 == 30) = false := beq_eq_false_iff_ne.2 (by omega)
      simp only [e1, e2, e3, Bool.false_and, Bool.false_eq_true, if_false]
      exact bad (by rw [rune1, if_neg h1, if_pos h2])
    · by_cases h3 : c < 224
      · have e1 : (c.toNat / 32 == 6) = true := beq_iff_eq.2 (by omega)
        have e2 : (c.toNat / 16 == 14) = false := beq_eq_false_iff_ne.2 (by omega)
        have e3 : (c.toNat / 8 == 30) = false := beq_eq_false_iff_ne.2 (by omega)
        simp only [e1, e2, e3, Bool.true_and, Bool.false_and, Bool.false_eq_true, if_false, Bool.and_eq_true, decide_eq_true_eq]
        by_cases hk : 1 ≤ r.length ∧ cont (r.getD 0 0) = true
        · have hx := cont_iff.1 hk.2
          have e4 : c.toNat % 32 * 64 + b1.toNat % 64 = (n2 c (r.getD 0 0)).toNat := by rw [g1 hk.1]; simp only [n2]; omega
          rw [if_pos hk, e4]
          by_cases hn : 128 ≤ n2 c (r.getD 0 0)
          · have hn' : (n2 c (r.getD 0 0)).toNat ≥ 128 := by omega
            rw [if_pos hn']
            exact good _ 2 (by omega) (by rw [rune1, if_neg h1, if_neg h2, if_pos h3, if_pos ⟨hk.1, hk.2, hn⟩])
          · have hn' : ¬ (n2 c (r.getD 0 0)).toNat ≥ 128 := by omega
            rw [if_neg hn']
            exact bad (by rw [rune1, if_neg h1, if_neg h2, if_pos h3, if_neg (fun h => hn h.2.2)])
        · rw [if_neg hk]
          exact bad (by rw [rune1, if_neg h1, if_neg h2, if_pos h3, if_neg (fun h => hk ⟨h.1, h.2.1⟩)])
      · have e1 : (c.toNat / 32 == 6) = false := beq_eq_false_iff_ne.2 (by omega)
        by_cases h4 : c < 240
        · have e2 : (c.toNat / 16 == 14) = true := beq_iff_eq.2 (by omega)
          have e3 : (c.toNat / 8 == 30) = false := beq_eq_false_iff_ne.2 (by omega)
          simp only [e1, e2, e3, Bool.true_and, Bool.false_and, Bool.false_eq_true, if_false, Bool.and_eq_true, decide_eq_true_eq]
          by_cases hk : (1 ≤ r.length ∧ cont (r.getD 0 0) = true) ∧ 2 ≤ r.length ∧ cont (r.getD 1 0) = true
          · have hx := cont_iff.1 hk.1.2
            have hy := cont_iff.1 hk.2.2
            have e4 : c.toNat % 16 * 4096 + b1.toNat % 64 * 64 + b2.toNat % 64 = (n3 c (r.getD 0 0) (r.getD 1 0)).toNat := by rw [g1 hk.1.1, g2 hk.2.1]; simp only [n3]; omega
            have hn0 : 0 ≤ n3 c (r.getD 0 0) (r.getD 1 0) := by simp only [n3]; omega
            have hn9 : n3 c (r.getD 0 0) (r.getD 1 0) ≤ 65535 := by simp only [n3]; omega
            have hv : Utf8.valid (((n3 c (r.getD 0 0) (r.getD 1 0)).toNat : Nat) : Int) = true ↔ ¬ (55296 ≤ n3 c (r.getD 0 0) (r.getD 1 0) ∧ n3 c (r.getD 0 0) (r.getD 1 0) ≤ 57343) := by
              rw [Int.toNat_of_nonneg hn0]
              simp only [Utf8.valid, Bool.or_eq_true, Bool.and_eq_true, decide_eq_true_eq]
              omega
            rw [if_pos hk, e4]
            by_cases hn : 2048 ≤ n3 c (r.getD 0 0) (r.getD 1 0) ∧ ¬ (55296 ≤ n3 c (r.getD 0 0) (r.getD 1 0) ∧ n3 c (r.getD 0 0) (r.getD 1 0) ≤ 57343)
            · rw [if_pos ⟨by omega, hv.2 hn.2⟩]
              exact good _ 3 hn0 (by rw [rune1, if_neg h1, if_neg h2, if_neg h3, if_pos h4, if_pos ⟨hk.2.1, hk.1.2, hk.2.2, hn⟩])
            · rw [if_neg (fun h => hn ⟨by omega, hv.1 h.2⟩)]
              exact bad (by rw [rune1, if_neg h1, if_neg h2, if_neg h3, if_pos h4, if_neg (fun h => hn h.2.2.2)])
          · rw [if_neg hk]
            exact bad (by rw [rune1, if_neg h1, if_neg h2, if_neg h3, if_pos h4, if_neg (fun h => hk ⟨⟨by omega, h.2.1⟩, h.1, h.2.2.1⟩)])
        · have e2 : (c.toNat / 16 == 14) = false := beq_eq_false_iff_ne.2 (by omega)
          by_cases h5 : c < 248
          · have e3 : (c.toNat / 8 == 30) = true := beq_iff_eq.2 (by omega)
            simp only [e1, e2, e3, Bool.true_and, Bool.false_and, Bool.false_eq_true, if_false, Bool.and_eq_true, decide_eq_true_eq]
            by_cases hk : ((1 ≤ r.length ∧ cont (r.getD 0 0) = true) ∧ 2 ≤ r.length ∧ cont (r.getD 1 0) = true) ∧ 3 ≤ r.length ∧ cont (r.getD 2 0) = true
            · have hx := cont_iff.1 hk.1.1.2
              have hy := cont_iff.1 hk.1.2.2
              have hz := cont_iff.1 hk.2.2
              have e4 : c.toNat % 8 * 262144 + b1.toNat % 64 * 4096 + b2.toNat % 64 * 64 + b3.toNat % 64 = (n4 c (r.getD 0 0) (r.getD 1 0) (r.getD 2 0)).toNat := by rw [g1 hk.1.1.1, g2 hk.1.2.1, g3 hk.2.1]; simp only [n4]; omega
              have hn0 : 0 ≤ n4 c (r.getD 0 0) (r.getD 1 0) (r.getD 2 0) := by simp only [n4]; omega
              have hv : Utf8.valid (((n4 c (r.getD 0 0) (r.getD 1 0) (r.getD 2 0)).toNat : Nat) : Int) = true ↔ n4 c (r.getD 0 0) (r.getD 1 0) (r.getD 2 0) ≤ 1114111 ∧ ¬ (55296 ≤ n4 c (r.getD 0 0) (r.getD 1 0) (r.getD 2 0) ∧ n4 c (r.getD 0 0) (r.getD 1 0) (r.getD 2 0) ≤ 57343) := by
                rw [Int.toNat_of_nonneg hn0]
                simp only [Utf8.valid, Bool.or_eq_true, Bool.and_eq_true, decide_eq_true_eq]
                omega
              rw [if_pos hk, e4]
              by_cases hn : 65536 ≤ n4 c (r.getD 0 0) (r.getD 1 0) (r.getD 2 0) ∧ n4 c (r.getD 0 0) (r.getD 1 0) (r.getD 2 0) ≤ 1114111
              · rw [if_pos ⟨by omega, hv.2 ⟨hn.2, by omega⟩⟩]
                exact good _ 4 hn0 (by rw [rune1, if_neg h1, if_neg h2, if_neg h3, if_neg h4, if_pos h5, if_pos ⟨hk.2.1, hk.1.1.2, hk.1.2.2, hk.2.2, hn⟩])
              · rw [if_neg (fun h => hn ⟨by omega, (hv.1 h.2).1⟩)]
                exact bad (by rw [rune1, if_neg h1, if_neg h2, if_neg h3, if_neg h4, if_pos h5, if_neg (fun h => hn h.2.2.2.2)])
            · rw [if_neg hk]
              exact bad (by rw [rune1, if_neg h1, if_neg h2, if_neg h3, if_neg h4, if_pos h5, if_neg (fun h => hk ⟨⟨⟨by omega, h.2.1⟩, by omega, h.2.2.1⟩, h.1, h.2.2.2.1⟩)])
          · have e3 : (c.toNat / 8 == 30) = false := beq_eq_false_iff_ne.2 (by omega)
            simp only [e1, e2, e3, Bool.false_and, Bool.false_eq_true, if_false]
            exact bad (by rw [rune1, if_neg h1, if_neg h2, if_neg h3, if_neg h4, if_neg h5])

/-- a character, or the one that stands for what is none -/
def clean (n : Int) : Int := if 0 ≤ n ∧ n ≤ 1114111 ∧ ¬ (55296 ≤ n ∧ n ≤ 57343) then n else 65533
def Ok (n : Int) : Prop := 0 ≤ n ∧ n ≤ 1114111 ∧ ¬ (55296 ≤ n ∧ n ≤ 57343)
theorem clean_ok (n : Int) : Ok (clean n) := by
  unfold clean Ok
  split <;> omega
theorem clean_of {n : Int} (h : Ok n) : clean n = n := if_pos h

def put (n : Int) : List Int :=
  if n < 128 then [n] else if n < 2048 then [192 + n / 64, 128 + n % 64]
  else if n < 65536 then [224 + n / 4096, 128 + n / 64 % 64, 128 + n % 64]
  else [240 + n / 262144, 128 + n / 4096 % 64, 128 + n / 64 % 64, 128 + n % 64]

/-- a character's bytes -/
def utf8 (n : Int) : List Int := put (clean n)
theorem utf8_put {n : Int} (h : Ok n) : utf8 n = put n := by rw [utf8, clean_of h]
theorem utf8_clean (n : Int) : utf8 (clean n) = utf8 n := by rw [utf8_put (clean_ok n), utf8]

theorem encRune_utf8 (n : Int) : encRune n = utf8 n := by
  unfold encRune Utf8.encode utf8 put clean
  have hv : Utf8.valid n = true ↔ 0 ≤ n ∧ n ≤ 1114111 ∧ ¬ (55296 ≤ n ∧ n ≤ 57343) := by
    simp only [Utf8.valid, Bool.or_eq_true, Bool.and_eq_true, decide_eq_true_eq]
    omega
  have hc : ((if Utf8.valid n = true then n.toNat else Utf8.runeError : Nat) : Int) = if 0 ≤ n ∧ n ≤ 1114111 ∧ ¬ (55296 ≤ n ∧ n ≤ 57343) then n else 65533 := by
    by_cases h : Utf8.valid n = true
    · rw [if_pos h, if_pos (hv.1 h)]
      have := (hv.1 h).1
      omega
    · rw [if_neg h, if_neg (fun h' => h (hv.2 h'))]
      rfl
  dsimp only
  rw [← hc]
  have hb : (if Utf8.valid n = true then n.toNat else Utf8.runeError : Nat) ≤ 1114111 := by
    split
    · rename_i h; have := (hv.1 h); omega
    · decide
  generalize (if Utf8.valid n = true then n.toNat else Utf8.runeError : Nat) = c at hb
  by_cases h1 : c < 128
  · have h1' : (c : Int) < 128 := by omega
    rw [if_pos h1, if_pos h1']
    simp [bl]; omega
  · have h1' : ¬ (c : Int) < 128 := by omega
    rw [if_neg h1, if_neg h1']
    by_cases h2 : c < 2048
    · have h2' : (c : Int) < 2048 := by omega
      rw [if_pos h2, if_pos h2']
      simp [bl]; omega
    · have h2' : ¬ (c : Int) < 2048 := by omega
      rw [if_neg h2, if_neg h2']
      by_cases h3 : c < 65536
      · have h3' : (c : Int) < 65536 := by omega
        rw [if_pos h3, if_pos h3']
        simp [bl]; omega
      · have h3' : ¬ (c : Int) < 65536 := by omega
        rw [if_neg h3, if_neg h3']
        simp [bl]; omega

theorem encRunes_flat : ∀ l : List Int, encRunes l = l.flatMap utf8
  | [] => rfl
  | n :: r => by rw [encRunes, encRunes_flat r, encRune_utf8, List.flatMap_cons]

theorem put_len (n : Int) : 1 ≤ (put n).length ∧ (put n).length ≤ 4 := by
  unfold put
  split
  · simp
  · split
    · simp
    · split <;> simp

theorem utf8_len (n : Int) : 1 ≤ (utf8 n).length ∧ (utf8 n).length ≤ 4 := put_len _

theorem utf8_bytes (n : Int) : Bytes (utf8 n) := by
  have hc := clean_ok n
  unfold utf8
  generalize clean n = c at hc
  unfold Ok at hc
  unfold put
  split
  · intro x hx; simp at hx; omega
  · split
    · intro x hx; simp at hx; omega
    · split
      · intro x hx; simp at hx; omega
      · intro x hx; simp at hx; omega

/-- what is written is read -/
theorem rune1_utf8 (n : Int) (h : Ok n) (s : List Int) : rune1 (utf8 n ++ s) = (n, (utf8 n).length) := by
  rw [utf8_put h]
  unfold Ok at h
  unfold put
  by_cases h1 : n < 128
  · rw [if_pos h1]
    simp [rune1, h1]
  · rw [if_neg h1]
    by_cases h2 : n < 2048
    · rw [if_pos h2]
      simp only [List.cons_append, List.nil_append, rune1, List.length_cons, List.length_nil]
      have e : n2 (192 + n / 64) (128 + n % 64) = n := by simp only [n2]; omega
      rw [if_neg (by omega), if_neg (by omega), if_pos (by omega), List.getD_cons_zero, e, if_pos ⟨by omega, cont_iff.2 (by omega), by omega⟩]
    · rw [if_neg h2]
      by_cases h3 : n < 65536
      · rw [if_pos h3]
        simp only [List.cons_append, List.nil_append, rune1, List.length_cons, List.length_nil]
        have e : n3 (224 + n / 4096) (128 + n / 64 % 64) (128 + n % 64) = n := by simp only [n3]; omega
        rw [if_neg (by omega), if_neg (by omega), if_neg (by omega), if_pos (by omega), List.getD_cons_zero, List.getD_cons_succ, List.getD_cons_zero, e, if_pos ⟨by omega, cont_iff.2 (by omega), cont_iff.2 (by omega), by omega, h.2.2⟩]
      · rw [if_neg h3]
        simp only [List.cons_append, List.nil_append, rune1, List.length_cons, List.length_nil]
        have e : n4 (240 + n / 262144) (128 + n / 4096 % 64) (128 + n / 64 % 64) (128 + n % 64) = n := by simp only [n4]; omega
        rw [if_neg (by omega), if_neg (by omega), if_neg (by omega), if_neg (by omega), if_pos (by omega), List.getD_cons_zero, List.getD_cons_succ, List.getD_cons_zero, List.getD_cons_succ, List.getD_cons_succ, List.getD_cons_zero, e, if_pos ⟨by omega, cont_iff.2 (by omega), cont_iff.2 (by omega), cont_iff.2 (by omega), by omega, h.2.1⟩]

/-- what is read was written so -/
theorem utf8_rune1 (c : Int) (r : List Int) (hB : Bytes (c :: r)) (h : 0 ≤ (rune1 (c :: r)).1) :
    utf8 (rune1 (c :: r)).1 = (c :: r).take (rune1 (c :: r)).2 ∧ ¬ (55296 ≤ (rune1 (c :: r)).1 ∧ (rune1 (c :: r)).1 ≤ 57343) := by
  have hc : 0 ≤ c ∧ c ≤ 255 := hB c (by simp)
  rw [rune1] at h ⊢
  by_cases h1 : c < 128
  · simp only [h1, if_true] at h ⊢
    have e : 0 ≤ c ∧ c ≤ 1114111 ∧ ¬ (55296 ≤ c ∧ c ≤ 57343) := by omega
    refine ⟨?_, by omega⟩
    rw [utf8_put e, put, if_pos h1]
    rfl
  · simp only [h1, if_false] at h ⊢
    by_cases h2 : c < 192
    · simp only [h2, if_true] at h; omega
    · simp only [h2, if_false] at h ⊢
      by_cases h3 : c < 224
      · simp only [h3, if_true] at h ⊢
        split at h
        · rename_i hk
          rw [if_pos hk]
          obtain ⟨k1, k2, k3⟩ := hk
          match r, k1 with
          | x :: r', _ =>
            simp only [List.getD_cons_zero] at k2 k3 ⊢
            have hx := cont_iff.1 k2
            have e1 : n2 c x ≤ 2047 := by simp only [n2]; omega
            have e2 : c = 192 + n2 c x / 64 := by simp only [n2]; omega
            have e3 : x = 128 + n2 c x % 64 := by simp only [n2]; omega
            refine ⟨?_, by omega⟩
            generalize n2 c x = n at *
            rw [utf8_put (by unfold Ok; omega), put, if_neg (by omega), if_pos (by omega), ← e2, ← e3]
            rfl
        · simp at h
      · simp only [h3, if_false] at h ⊢
        by_cases h4 : c < 240
        · simp only [h4, if_true] at h ⊢
          split at h
          · rename_i hk
            rw [if_pos hk]
            obtain ⟨k1, k2, k3, k4, k5⟩ := hk
            match r, k1 with
            | x :: y :: r', _ =>
              simp only [List.getD_cons_zero, List.getD_cons_succ] at k2 k3 k4 k5 ⊢
              have hx := cont_iff.1 k2
              have hy := cont_iff.1 k3
              have e1 : n3 c x y ≤ 65535 := by simp only [n3]; omega
              have e2 : c = 224 + n3 c x y / 4096 := by simp only [n3]; omega
              have e3 : x = 128 + n3 c x y / 64 % 64 := by simp only [n3]; omega
              have e4 : y = 128 + n3 c x y % 64 := by simp only [n3]; omega
              refine ⟨?_, k5⟩
              generalize n3 c x y = n at *
              rw [utf8_put (by unfold Ok; omega), put, if_neg (by omega), if_neg (by omega), if_pos (by omega), ← e2, ← e3, ← e4]
              rfl
          · simp at h
        · simp only [h4, if_false] at h ⊢
          by_cases h5 : c < 248
          · simp only [h5, if_true] at h ⊢
            split at h
            · rename_i hk
              rw [if_pos hk]
              obtain ⟨k1, k2, k3, k4, k5, k6⟩ := hk
              match r, k1 with
              | x :: y :: z :: r', _ =>
                simp only [List.getD_cons_zero, List.getD_cons_succ] at k2 k3 k4 k5 k6 ⊢
                have hx := cont_iff.1 k2
                have hy := cont_iff.1 k3
                have hz := cont_iff.1 k4
                have e2 : c = 240 + n4 c x y z / 262144 := by simp only [n4]; omega
                have e3 : x = 128 + n4 c x y z / 4096 % 64 := by simp only [n4]; omega
                have e4 : y = 128 + n4 c x y z / 64 % 64 := by simp only [n4]; omega
                have e5 : z = 128 + n4 c x y z % 64 := by simp only [n4]; omega
                refine ⟨?_, by omega⟩
                generalize n4 c x y z = n at *
                rw [utf8_put (by unfold Ok; omega), put, if_neg (by omega), if_neg (by omega), if_neg (by omega), ← e2, ← e3, ← e4, ← e5]
                rfl
            · simp at h
          · simp only [h5, if_false] at h
            omega

/-- the characters; -1: invalid -/
def runesL : List Int → List Int
  | [] => []
  | c :: r => (rune1 (c :: r)).1 :: runesL ((c :: r).drop (rune1 (c :: r)).2)
termination_by l => l.length
decreasing_by have := (rune1_size c r).1; simp; omega

def validL (l : List Int) : Bool := (runesL l).all fun n => decide (0 ≤ n)

/-- a character as the range over a text gives it -/
def fix (n : Int) : Int := if n < 0 then 65533 else n

theorem runesFrom_spec (l : List Int) (hB : Bytes l) : ∀ (b i : Nat), l.length - i ≤ b → runesFrom l b i = (runesL (l.drop i)).map fix
  | 0, i, h => by
    rw [List.drop_eq_nil_of_le (by omega), runesL]
    rfl
  | b + 1, i, h => by
    rw [runesFrom]
    by_cases hi : i < l.length
    · rw [if_pos hi, decRune_spec l i hB hi]
      have hd := drop_getD l i hi
      have hs := rune1_size (l.getD i 0) (l.drop (i + 1))
      rw [← hd] at hs
      rw [runesFrom_spec l hB b _ (by omega), ← List.drop_drop]
      have e : runesL (l.drop i) = (rune1 (l.drop i)).1 :: runesL ((l.drop i).drop (rune1 (l.drop i)).2) := by
        rw [hd, runesL]
      rw [e, List.map_cons]
      congr 1
      unfold fix
      split <;> omega
    · rw [if_neg hi, List.drop_eq_nil_of_le (by omega), runesL]
      rfl

theorem runes_spec (l : List Int) (hB : Bytes l) : runes l = (runesL l).map fix := by
  unfold runes
  rw [runesFrom_spec l hB _ _ (by omega), List.drop_zero]

theorem utf8_fix (n : Int) : utf8 (fix n) = utf8 n := by
  unfold fix
  split
  · rename_i h
    have h1 : clean n = 65533 := if_neg (by omega)
    have h2 : clean 65533 = 65533 := clean_of (by unfold Ok; omega)
    rw [utf8, utf8, h1, h2]
  · rfl

theorem runesL_cons (c : Int) (r : List Int) : runesL (c :: r) = (rune1 (c :: r)).1 :: runesL ((c :: r).drop (rune1 (c :: r)).2) := by rw [runesL]

theorem runesL_utf8 (n : Int) (h : Ok n) (s : List Int) : runesL (utf8 n ++ s) = n :: runesL s := by
  have hr := rune1_utf8 n h s
  have hl := utf8_len n
  cases hu : utf8 n with
  | nil => rw [hu] at hl; simp at hl
  | cons c r =>
    rw [List.cons_append, runesL_cons, ← List.cons_append, ← hu, hr]
    simp

theorem validL_utf8 (n : Int) (s : List Int) : validL (utf8 n ++ s) = validL s := by
  have h := clean_ok n
  rw [← utf8_clean]
  unfold validL
  rw [runesL_utf8 _ h]
  simp [h.1]

theorem validL_flat : ∀ (l : List Int) (s : List Int), validL (l.flatMap utf8 ++ s) = validL s
  | [], s => rfl
  | n :: l, s => by rw [List.flatMap_cons, List.append_assoc, validL_utf8, validL_flat l s]

/-- a valid text is its characters' bytes -/
theorem flat_runes : ∀ (k : Nat) (l : List Int), l.length = k → Bytes l → validL l = true → (runesL l).flatMap utf8 = l ∧ ∀ n ∈ runesL l, Ok n := by
  intro k
  induction k using Nat.strongRecOn with
  | _ k ih =>
    intro l hk hB hv
    cases l with
    | nil => rw [runesL]; exact ⟨rfl, fun n h => by cases h⟩
    | cons c r =>
      unfold validL at hv
      rw [runesL_cons] at hv ⊢
      simp only [List.all_cons, Bool.and_eq_true, decide_eq_true_eq] at hv
      have hs := rune1_size c r
      have hu := utf8_rune1 c r hB hv.1
      have hle := rune1_le c r (hB c (by simp)).1
      simp only [List.length_cons] at hk
      obtain ⟨h1, h2⟩ := ih ((c :: r).drop (rune1 (c :: r)).2).length (by rw [List.length_drop, List.length_cons]; omega) _ rfl (hB.drop _) hv.2
      refine ⟨?_, ?_⟩
      · rw [List.flatMap_cons, h1, hu.1, List.take_append_drop]
      · intro n hn
        rw [List.mem_cons] at hn
        rcases hn with rfl | hn
        · exact ⟨hv.1, hle.2, hu.2⟩
        · exact h2 n hn

end Go.Proofs.YthhllkiefncbnaaDoorSim
