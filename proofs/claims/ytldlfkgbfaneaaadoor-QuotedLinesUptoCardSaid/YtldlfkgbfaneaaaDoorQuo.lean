/- quoted: the functions in plain form. -/
import Derived.Test.YtldlfkgbfaneaaaDoorGen1
import Derived.Test.YtldlfkgbfaneaaaDoorPl
namespace Go.Proofs.YtldlfkgbfaneaaaDoorSim
open Go Go.Proofs
open Go.Proofs.Tryd (prog)
set_option linter.unusedVariables false
set_option linter.unusedSimpArgs false

def crlf (l : List Int) : Bool := l.getD 0 0 == 13 && l.getD 1 0 == 10
def lineEnd (l : List Int) : Bool := l.isEmpty || crlf l

theorem getD_drop_add (l : List Int) (i j : Nat) : (l.drop i).getD j 0 = l.getD (i + j) 0 := by
  simp [List.getD_eq_getElem?_getD]

theorem getD_out (l : List Int) {i : Nat} (h : l.length ≤ i) : l.getD i 0 = 0 := by
  simp [List.getD_eq_getElem?_getD, List.getElem?_eq_none h]

theorem crlf_drop (b : List Int) (i : Nat) : crlf (b.drop i) = (b.getD i 0 == 13 && b.getD (i + 1) 0 == 10) := by
  simp only [crlf, getD_drop_add, Nat.add_zero]

theorem lineEnd_drop (b : List Int) (i : Nat) (h : i ≤ b.length) : lineEnd (b.drop i) = (decide (i = b.length) || (b.getD i 0 == 13 && b.getD (i + 1) 0 == 10)) := by
  simp only [lineEnd, crlf_drop]
  congr 1
  by_cases h' : i = b.length
  · simp [h']
  · have : b.drop i ≠ [] := by simp; omega
    simp [h', this]

theorem atLineEnd_spec (b : List Int) (i : Int) (h0 : 0 ≤ i) (h1 : i ≤ b.length) (hb : b.length ≤ 2000000) : quoted_atLineEnd_c (pcL prog cfg) b i = some (lineEnd (b.drop i.toNat)) := by
  refine quoted_atLineEnd_of ?_
  rw [lineEnd_drop _ _ (by omega)]
  unfold quoted_atLineEnd_B
  have e1 : (i + 1).toNat = i.toNat + 1 := by omega
  rw [wrap64 (by omega) (by omega), e1]
  simp only [ifd_eq, beq_iff_eq, decide_eq_true_eq]
  by_cases c1 : i = b.length
  · simp [c1]
  · have c1' : ¬ i.toNat = b.length := by omega
    by_cases c2 : b.getD i.toNat 0 = 13
    · by_cases c3 : i + 1 < b.length
      · simp only [c1, c2, c3, c1', if_true, if_false]
        rw [if_pos (by omega), if_pos ⟨by omega, trivial⟩]
        simp
      · have c4 : b.getD (i.toNat + 1) 0 = 0 := getD_out _ (by omega)
        simp only [c1, c2, c3, c1', if_true, if_false]
        rw [if_pos (by omega), c4]
        simp
    · simp only [c1, c2, c1', if_true, if_false]
      have c2' : (b.getD i.toNat 0 == 13) = false := beq_eq_false_iff_ne.2 c2
      rw [if_pos (by omega), c2']
      simp

theorem Crlf_spec (b : List Int) (i : Int) (h0 : 0 ≤ i) (hb : b.length ≤ 2000000) (hi : i ≤ 2000000) : ref1_Crlf_c (pcL prog cfg) b i = some (crlf (b.drop i.toNat)) := by
  refine ref1_Crlf_of ?_
  rw [crlf_drop]
  unfold ref1_Crlf_B
  have e1 : (i + 1).toNat = i.toNat + 1 := by omega
  rw [wrap64 (by omega) (by omega), e1]
  simp only [ifd_eq, beq_iff_eq, decide_eq_true_eq]
  by_cases c3 : i + 1 < b.length
  · rw [if_pos c3, if_pos (by omega), if_pos c3]
    by_cases c2 : b.getD i.toNat 0 = 13
    · simp only [c2, if_true]
      rw [if_pos (by omega)]
      simp
    · have c2' : (b.getD i.toNat 0 == 13) = false := beq_eq_false_iff_ne.2 c2
      simp only [c2, if_false]
      rw [c2', Bool.false_and]
  · have c4 : b.getD (i.toNat + 1) 0 = 0 := getD_out _ (by omega)
    rw [if_neg c3, if_neg c3, c4]
    simp

def blank (c : Int) : Bool := c == 32 || c == 9

theorem Blank_spec (c : Int) : ref1_Blank_c (pcL prog cfg) c = some (blank c) := by
  refine ref1_Blank_of ?_
  unfold ref1_Blank_B
  simp only [ifd_eq, beq_iff_eq]
  by_cases h : c = 32 <;> simp [h, blank]

theorem In_spec (n a b : Int) : ref1_In_c (pcL prog cfg) n a b = some (decide (a ≤ n ∧ n ≤ b)) := by
  refine ref1_In_of ?_
  unfold ref1_In_B
  simp only [ifd_eq, decide_eq_true_eq]
  by_cases h : n ≥ a
  · have : a ≤ n := h
    simp [this]
  · have : ¬ a ≤ n := h
    simp [this]

def dg (n : Int) : Int := [48, 49, 50, 51, 52, 53, 54, 55, 56, 57, 65, 66, 67, 68, 69, 70].getD n.toNat 0

/-- a byte as two digits -/
def two (c : Int) : List Int := [dg (c / 16), dg (c % 16)]

/-- all bytes -/
theorem byte_cases {p : Int → Prop} [∀ c, Decidable (p c)] (h : (List.range 256).all (fun n => decide (p (n : Int))) = true) {c : Int} (hc : 0 ≤ c ∧ c ≤ 255) : p c := by
  have := (List.all_eq_true.1 h) c.toNat (by simp; omega)
  simp only [decide_eq_true_eq] at this
  rwa [Int.toNat_of_nonneg hc.1] at this

theorem Two_spec {c : Int} (hc : 0 ≤ c ∧ c ≤ 255) : ref1_Two_c (pcL prog cfg) c = some (two c) := by
  refine ref1_Two_of ?_
  have e : ref1_Two_B (pcL prog cfg) lpL c = ref1_Two_B (fun _ _ => none) (fun _ _ _ _ => none) c := rfl
  rw [e]
  refine byte_cases (p := fun c => ref1_Two_B (fun _ _ => none) (fun _ _ _ _ => none) c = some (two c)) ?_ hc
  decide +kernel

/-- the characters that represent a byte -/
def tok (c : Int) (r : List Int) : List Int := if (33 ≤ c ∧ c ≤ 126 ∧ c ≠ 61) ∨ (blank c = true ∧ lineEnd r = false) then [c] else 61 :: two c

theorem token_C1_spec (b : List Int) (i c : Int) (h0 : 0 ≤ i) (h1 : i < b.length) (hb : b.length ≤ 2000000) :
    quoted_token_C1 (pcL prog cfg) lpL ((b, i, c, ()), ()) = some ((c, (blank c && !lineEnd (b.drop (i.toNat + 1))), ()), ()) := by
  unfold quoted_token_C1
  dsimp only
  have e1 : (i + 1).toNat = i.toNat + 1 := by omega
  have hs := atLineEnd_spec b (i + 1) (by omega) (by omega) hb
  rw [wrap64 (by omega) (by omega), hs, e1]
  simp only [ifd_eq, beq_iff_eq, bnd_s]
  by_cases h : c = 32
  · simp [h, blank]
  · by_cases h2 : c = 9 <;> simp [h, h2, blank]

theorem token_dig {c : Int} (hc : 0 ≤ c ∧ c ≤ 255) : ((0 ≤ Int.fdiv c ((2 : Int) ^ (min (Int.toNat 4) 8)) ∧ Int.fdiv c ((2 : Int) ^ (min (Int.toNat 4) 8)) < 16) ∧ Int.fdiv c ((2 : Int) ^ (min (Int.toNat 4) 8)) = c / 16) ∧ ((0 ≤ ibits .and .u8 c 15 ∧ ibits .and .u8 c 15 < 16) ∧ ibits .and .u8 c 15 = c % 16) :=
  byte_cases (p := fun c => ((0 ≤ Int.fdiv c ((2 : Int) ^ (min (Int.toNat 4) 8)) ∧ Int.fdiv c ((2 : Int) ^ (min (Int.toNat 4) 8)) < 16) ∧ Int.fdiv c ((2 : Int) ^ (min (Int.toNat 4) 8)) = c / 16) ∧ ((0 ≤ ibits .and .u8 c 15 ∧ ibits .and .u8 c 15 < 16) ∧ ibits .and .u8 c 15 = c % 16)) (by decide +kernel) hc

theorem token_spec (b : List Int) (i : Int) (h0 : 0 ≤ i) (h1 : i < b.length) (hB : Bytes b) (hb : b.length ≤ 2000000) :
    quoted_token_c (pcL prog cfg) b i = some (tok (b.getD i.toNat 0) (b.drop (i.toNat + 1))) := by
  refine quoted_token_of ?_
  unfold quoted_token_B
  refine (ifd_t (by simp only [decide_eq_true_eq]; omega)).trans ?_
  refine bnd1 (token_C1_spec b i _ h0 h1 hb) ?_
  dsimp only
  have hc := hB.getD i.toNat
  unfold tok
  generalize b.getD i.toNat 0 = c at hc ⊢
  generalize lineEnd (b.drop (i.toNat + 1)) = e
  obtain ⟨⟨⟨d1, d2⟩, d3⟩, ⟨⟨d4, d5⟩, d6⟩⟩ := token_dig hc
  rw [d3] at d1 d2 ⊢
  rw [d6] at d4 d5 ⊢
  have l16 : ((List.length ([48, 49, 50, 51, 52, 53, 54, 55, 56, 57, 65, 66, 67, 68, 69, 70] : List Int) : Nat) : Int) = 16 := rfl
  have t1 : (decide ((0 : Int) ≤ c / 16 ∧ c / 16 < 16)) = true := decide_eq_true ⟨d1, d2⟩
  have t2 : (decide ((0 : Int) ≤ c % 16 ∧ c % 16 < 16)) = true := decide_eq_true ⟨d4, d5⟩
  generalize hk : (blank c && !e) = k
  have hbl : (blank c = true ∧ e = false) ↔ k = true := by rw [← hk]; simp
  simp only [ifd_eq, l16, t1, t2, if_true, hbl]
  cases k
  · by_cases h1 : c > 32
    · by_cases h2 : c < 127
      · by_cases h3 : c = 61
        · subst h3; rfl
        · have : 33 ≤ c ∧ c ≤ 126 ∧ c ≠ 61 := by omega
          simp [h1, h2, h3, this]
      · have : ¬ (33 ≤ c ∧ c ≤ 126 ∧ c ≠ 61) := by omega
        simp [h1, h2, this, two, dg]
    · have : ¬ (33 ≤ c ∧ c ≤ 126 ∧ c ≠ 61) := by omega
      simp [h1, this, two, dg]
  · simp

end Go.Proofs.YtldlfkgbfaneaaaDoorSim
