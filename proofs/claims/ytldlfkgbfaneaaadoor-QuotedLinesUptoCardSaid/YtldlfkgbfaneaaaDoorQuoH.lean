/- quoted: digits, blanks at an end. -/
import Derived.Test.YtldlfkgbfaneaaaDoorQuoR
namespace Go.Proofs.YtldlfkgbfaneaaaDoorSim
open Go Go.Proofs
open Go.Proofs.Tryd (prog)
set_option linter.unusedVariables false
set_option linter.unusedSimpArgs false

/-- the value of a hexadecimal digit, or -1 -/
def hexv (c : Int) : Int := if 48 ≤ c ∧ c ≤ 57 then c - 48 else if 65 ≤ c ∧ c ≤ 70 then c - 55 else if 97 ≤ c ∧ c ≤ 102 then c - 87 else -1

theorem hexv_ge (c : Int) : -1 ≤ hexv c ∧ hexv c ≤ 15 := by
  unfold hexv
  split
  · omega
  · split
    · omega
    · split <;> omega

theorem IndexByte_spec (l : List Int) (c : Int) : bytes_IndexByte_c (pcL prog cfg) l c = some (indexByteL l c) := bytes_IndexByte_of rfl

theorem Hex_spec {c : Int} (hc : 0 ≤ c ∧ c ≤ 255) : quoted_Hex_c (pcL prog cfg) c = some (hexv c) := by
  refine quoted_Hex_of ?_
  unfold quoted_Hex_B
  simp only [IndexByte_spec]
  have h := byte_cases (p := fun c => (if c ≥ 97 then (if c ≤ 102 then indexByteL [48, 49, 50, 51, 52, 53, 54, 55, 56, 57, 65, 66, 67, 68, 69, 70] (IntKind.wrap .u8 (c - 32)) else indexByteL [48, 49, 50, 51, 52, 53, 54, 55, 56, 57, 65, 66, 67, 68, 69, 70] c) else indexByteL [48, 49, 50, 51, 52, 53, 54, 55, 56, 57, 65, 66, 67, 68, 69, 70] c) = hexv c) (by decide +kernel) hc
  rw [← h]
  delta bnd
  dsimp only
  simp only [ifd_eq, decide_eq_true_eq]
  by_cases h1 : c ≥ 97
  · by_cases h2 : c ≤ 102 <;> simp only [h1, h2, if_true, if_false]
  · simp only [h1, if_false]

/-! ### The reference's -/
def low (c : Int) : Int := if 65 ≤ c ∧ c ≤ 90 then c + 32 else c

theorem Lower_L1_spec (l : List Int) (hB : Bytes l) (hb : l.length ≤ 2000000) : ∀ (k : Nat) (pre rest : List Int), Bytes rest → l.length = pre.length + rest.length → rest.length = k →
    ref1_Lower_L1 (pcL prog cfg) lpL (((), (pre.length : Int), ()), (pre ++ rest, ())) = some (((), ()), (pre ++ rest.map low, ())) := by
  intro k
  induction k with
  | zero =>
    intro pre rest hR hl hk
    rw [List.length_eq_zero_iff] at hk
    subst hk
    refine ref1_Lower_L1_of ?_
    unfold ref1_Lower_L1_R
    dsimp only
    refine (ifd_f (by simp)).trans ?_
    simp
  | succ k ih =>
    intro pre rest hR hl hk
    obtain ⟨c, r, rfl⟩ : ∃ c r, rest = c :: r := by
      cases rest with
      | nil => simp at hk
      | cons c r => exact ⟨c, r, rfl⟩
    refine ref1_Lower_L1_of ?_
    unfold ref1_Lower_L1_R
    dsimp only
    have hc := hR.head
    have hg : List.getD (pre ++ c :: r) (Int.toNat (pre.length : Int)) 0 = c := by simp [List.getD_eq_getElem?_getD]
    have hs : ∀ x, List.set (pre ++ c :: r) (Int.toNat (pre.length : Int)) x = pre ++ [x] ++ r := by
      intro x; simp
    simp only [List.length_cons] at hk hl
    have hln : (pre ++ c :: r).length = pre.length + (r.length + 1) := by simp
    rw [hg]
    simp only [hs, hln]
    refine (ifd_t (by simp only [decide_eq_true_eq]; omega)).trans ?_
    refine (ifd_t (by simp only [decide_eq_true_eq]; omega)).trans ?_
    refine (ifd_t (by simp only [decide_eq_true_eq]; omega)).trans ?_
    rw [wrap64 (by omega) (by omega)]
    refine bnd2 (In_spec _ _ _) rfl ?_
    rw [wrap64 (by omega) (by omega)]
    by_cases h : 65 ≤ c ∧ c ≤ 90
    · refine (ifd_t (by simp only [decide_eq_true_eq]; exact h)).trans ?_
      refine (ifd_t (by simp only [decide_eq_true_eq]; omega)).trans ?_
      refine (ifd_t (by simp only [decide_eq_true_eq]; omega)).trans ?_
      refine (ifd_t (by simp only [decide_eq_true_eq]; omega)).trans ?_
      refine (ifd_t (by simp only [decide_eq_true_eq]; omega)).trans ?_
      rw [wrapU8i (by omega) (by omega)]
      have := ih (pre ++ [c + 32]) r hR.tail (by simp; omega) (by omega)
      simp only [List.length_append, List.length_cons, List.length_nil] at this
      refine this.trans ?_
      simp [low, h]
    · refine (ifd_f (by simp only [decide_eq_true_eq]; exact h)).trans ?_
      have := ih (pre ++ [c]) r hR.tail (by simp; omega) (by omega)
      simp only [List.length_append, List.length_cons, List.length_nil, List.append_assoc, List.singleton_append] at this
      refine this.trans ?_
      simp [low, h]

theorem Lower_spec (l : List Int) (hB : Bytes l) (hb : l.length ≤ 2000000) : ref1_Lower_c (pcL prog cfg) l = some (l.map low) := by
  refine ref1_Lower_of ?_
  unfold ref1_Lower_B
  refine (ifd_t (by simp only [decide_eq_true_eq]; omega)).trans ?_
  refine bnd1 (Lower_L1_spec l hB hb _ [] l hB (by simp) rfl) ?_
  rfl

/-- the digits' places from i on -/
def fnd : Nat → Nat → Int → Option Int
  | 0, _, _ => none
  | k + 1, i, c => if [48, 49, 50, 51, 52, 53, 54, 55, 56, 57, 65, 66, 67, 68, 69, 70].getD i 0 = c then some i else if ([48, 49, 50, 51, 52, 53, 54, 55, 56, 57, 65, 66, 67, 68, 69, 70].map low).getD i 0 = c then some i else fnd k (i + 1) c

theorem hexDigits_bytes : Bytes [48, 49, 50, 51, 52, 53, 54, 55, 56, 57, 65, 66, 67, 68, 69, 70] := by
  intro x hx
  simp only [List.mem_cons, List.not_mem_nil, or_false] at hx
  omega

theorem rHex_L1_spec (c : Int) : ∀ (k i : Nat), i + k = 16 → ref1_Hex_L1 (pcL prog cfg) lpL ((c, (i : Int), ()), ()) = some (match fnd k i c with | some v => .inl ((v, ()), ()) | none => .inr ((), ())) := by
  intro k
  induction k with
  | zero =>
    intro i hi
    refine ref1_Hex_L1_of ?_
    unfold ref1_Hex_L1_R
    dsimp only
    exact ifd_f (by simp only [decide_eq_true_eq]; omega)
  | succ k ih =>
    intro i hi
    refine ref1_Hex_L1_of ?_
    unfold ref1_Hex_L1_R
    dsimp only
    rw [Int.toNat_natCast, fnd]
    refine (ifd_t (by simp only [decide_eq_true_eq]; omega)).trans ?_
    refine (ifd_t (by simp only [decide_eq_true_eq]; exact ⟨by omega, by show (i : Int) < 16; omega⟩)).trans ?_
    by_cases h1 : [48, 49, 50, 51, 52, 53, 54, 55, 56, 57, 65, 66, 67, 68, 69, 70].getD i 0 = c
    · rw [if_pos h1]
      refine (ifd_t (by rw [beq_iff_eq]; exact h1)).trans ?_
      exact (ifd_t (by rw [beq_iff_eq]; exact h1))
    · rw [if_neg h1]
      refine (ifd_f (by rw [beq_iff_eq]; exact h1)).trans ?_
      refine bnd2 (Lower_spec _ hexDigits_bytes (by simp)) rfl ?_
      refine (ifd_t (by simp only [decide_eq_true_eq]; exact ⟨by omega, by show (i : Int) < 16; omega⟩)).trans ?_
      refine (ifd_f (by rw [beq_iff_eq]; exact h1)).trans ?_
      by_cases h2 : ([48, 49, 50, 51, 52, 53, 54, 55, 56, 57, 65, 66, 67, 68, 69, 70].map low).getD i 0 = c
      · rw [if_pos h2]
        exact ifd_t (by rw [beq_iff_eq]; exact h2)
      · rw [if_neg h2]
        refine (ifd_f (by rw [beq_iff_eq]; exact h2)).trans ?_
        rw [wrap64 (by omega) (by omega)]
        exact ih (i + 1) (by omega)

theorem rHex_spec {c : Int} (hc : 0 ≤ c ∧ c ≤ 255) : ref1_Hex_c (pcL prog cfg) c = some (hexv c) := by
  refine ref1_Hex_of ?_
  unfold ref1_Hex_B
  refine bnd1 (rHex_L1_spec c 16 0 rfl) ?_
  have h := byte_cases (p := fun c => (fnd 16 0 c).getD (-1) = hexv c) (by decide +kernel) hc
  rw [← h]
  cases fnd 16 0 c <;> rfl

/-! ### Blanks at the end -/
/-- the length without the blanks at the end -/
def tl : List Int → Nat
  | [] => 0
  | c :: r => if tl r = 0 then (if blank c then 0 else 1) else tl r + 1

theorem tl_le : ∀ l : List Int, tl l ≤ l.length
  | [] => by simp [tl]
  | c :: r => by
    have := tl_le r
    rw [tl]
    split
    · split <;> simp
    · simp; omega

theorem tl_snoc (c : Int) : ∀ l : List Int, tl (l ++ [c]) = if blank c then tl l else l.length + 1
  | [] => by simp [tl]
  | d :: r => by
    rw [List.cons_append, tl, tl_snoc c r]
    cases blank c
    · simp
    · simp [tl]

theorem tl_take (l : List Int) (n : Nat) (h : n < l.length) : tl (l.take (n + 1)) = if blank (l.getD n 0) then tl (l.take n) else n + 1 := by
  have : l.take (n + 1) = l.take n ++ [l.getD n 0] := by
    rw [List.take_succ_eq_append_getElem h, List.getD_eq_getElem?_getD, List.getElem?_eq_getElem h]
    rfl
  rw [this, tl_snoc, List.length_take, Nat.min_eq_left (by omega)]

/-- The set of the two blanks. -/
def blanks : List Bool := ((List.replicate 256 false).set 32 true).set 9 true

theorem blanks_at {c : Int} (hc : 0 ≤ c ∧ c ≤ 255) : blanks.getD c.toNat false = blank c :=
  byte_cases (p := fun c => blanks.getD c.toNat false = blank c) (by decide +kernel) hc

theorem blanks_len : blanks.length = 256 := by rw [blanks, List.length_set, List.length_set, List.length_replicate]

theorem TrimRight_L5_spec (x : List Bool) (l : List Int) (hB : Bytes l) (hb : l.length ≤ 2000000) : ∀ (n : Nat), n ≤ l.length →
    bytes_TrimRight_L5 (pcL prog cfg) lpL ((l.take n, (), ()), (x, blanks, ())) = some ((l.take (tl (l.take n)), ()), (x, blanks, ())) := by
  intro n
  induction n with
  | zero =>
    intro hn
    refine bytes_TrimRight_L5_of ?_
    unfold bytes_TrimRight_L5_R
    dsimp only
    refine (ifd_f (by simp)).trans ?_
    simp [tl]
  | succ n ih =>
    intro hn
    refine bytes_TrimRight_L5_of ?_
    unfold bytes_TrimRight_L5_R
    dsimp only
    have hlen : (l.take (n + 1)).length = n + 1 := by simp; omega
    have hc := hB.getD n
    have hat : (l.take (n + 1)).getD n 0 = l.getD n 0 := by
      simp [List.getD_eq_getElem?_getD, List.getElem?_take]
    have e1 : Int.toNat (((n + 1 : Nat) : Int) - 1) = n := by omega
    rw [hlen, wrap64 (by omega) (by omega)]
    simp only [e1, hat, blanks_len]
    refine (ifd_t (by simp only [decide_eq_true_eq]; omega)).trans ?_
    refine (ifd_t (by simp only [decide_eq_true_eq]; omega)).trans ?_
    refine (ifd_t (by simp only [Bool.and_eq_true, decide_eq_true_eq, and_true]; omega)).trans ?_
    refine (ifd_t (by simp only [decide_eq_true_eq]; omega)).trans ?_
    rw [blanks_at hc, tl_take _ _ (by omega)]
    cases hbl : blank (l.getD n 0)
    · refine (ifd_t rfl).trans ?_
      simp
    · refine (ifd_f (by simp)).trans ?_
      refine (ifd_t (by simp only [decide_eq_true_eq]; omega)).trans ?_
      have : List.drop (Int.toNat 0) (List.take n (List.take (n + 1) l)) = List.take n l := by
        rw [List.take_take]
        simp [Nat.min_eq_left (Nat.le_succ n)]
      rw [this]
      exact ih (by omega)

theorem TrimRight_L3_spec : bytes_TrimRight_L3 (pcL prog cfg) lpL (([32, 9], (), 0, ()), (List.replicate 256 false, ())) = some (.inr (((), ()), (blanks, ()))) := by
  have two : bytes_TrimRight_L3_R (pcL prog cfg) lpL (bytes_TrimRight_L3 (pcL prog cfg) lpL) (([32, 9], (), 2, ()), (blanks, ())) = some (.inr (((), ()), (blanks, ()))) := by kernel_rfl
  have one : bytes_TrimRight_L3_R (pcL prog cfg) lpL (bytes_TrimRight_L3 (pcL prog cfg) lpL) (([32, 9], (), 1, ()), ((List.replicate 256 false).set 32 true, ())) = bytes_TrimRight_L3 (pcL prog cfg) lpL (([32, 9], (), 2, ()), (blanks, ())) := by kernel_rfl
  have nul : bytes_TrimRight_L3_R (pcL prog cfg) lpL (bytes_TrimRight_L3 (pcL prog cfg) lpL) (([32, 9], (), 0, ()), (List.replicate 256 false, ())) = bytes_TrimRight_L3 (pcL prog cfg) lpL (([32, 9], (), 1, ()), ((List.replicate 256 false).set 32 true, ())) := by kernel_rfl
  exact bytes_TrimRight_L3_of (nul.trans (bytes_TrimRight_L3_of (one.trans (bytes_TrimRight_L3_of two))))

theorem TrimRight_spec (l : List Int) (hB : Bytes l) (hb : l.length ≤ 2000000) : bytes_TrimRight_c (pcL prog cfg) l [32, 9] = some (l.take (tl l)) := by
  refine bytes_TrimRight_of ?_
  unfold bytes_TrimRight_B
  refine bnd1 (v := ((l, [32, 9], decide (l.length = 0), ()), ())) ?_ ?_
  · unfold bytes_TrimRight_C1
    dsimp only
    simp only [ifd_eq, beq_iff_eq]
    by_cases h : l.length = 0
    · simp [h]
    · simp [h]
  dsimp only
  by_cases h : l.length = 0
  · refine (ifd_t (by simpa using h)).trans ?_
    rw [List.length_eq_zero_iff] at h
    subst h
    rfl
  · refine (ifd_f (by simpa using h)).trans ?_
    refine bnd1 (v := ((l, [32, 9], false, ()), ())) ?_ ?_
    · unfold bytes_TrimRight_C2
      rfl
    dsimp only
    refine (ifd_f (by simp)).trans ?_
    refine bnd1 TrimRight_L3_spec ?_
    dsimp only [Sum.elim]
    have e1 : getRow blanks false 0 256 = blanks := getRow_all blanks_len
    rw [blanks_len, e1, e1, blanks_len]
    refine (ifd_t rfl).trans ?_
    refine (ifd_t rfl).trans ?_
    refine (ifd_t rfl).trans ?_
    have := TrimRight_L5_spec blanks l hB hb l.length (Nat.le_refl _)
    rw [List.take_length] at this
    exact bnd1 this rfl

end Go.Proofs.YtldlfkgbfaneaaaDoorSim
