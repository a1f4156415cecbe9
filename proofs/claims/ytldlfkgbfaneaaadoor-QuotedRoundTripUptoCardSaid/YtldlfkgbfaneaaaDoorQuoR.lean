/- quoted: the reference encoding. -/
import Derived.Test.YtldlfkgbfaneaaaDoorQuoE
namespace Go.Proofs.YtldlfkgbfaneaaaDoorSim
open Go Go.Proofs
open Go.Proofs.Tryd (prog)
set_option linter.unusedVariables false
set_option linter.unusedSimpArgs false

theorem drop_getD_cons {α : Type} (l : List α) (i : Nat) (d : α) (h : i < l.length) : l.drop i = l.getD i d :: l.drop (i + 1) := by
  rw [List.drop_eq_getElem_cons h, List.getD_eq_getElem?_getD, List.getElem?_eq_getElem h]
  rfl

def units : List Int → List (List Int)
  | [] => []
  | c :: r => (if (33 ≤ c ∧ c ≤ 126 ∧ c ≠ 61) ∨ (blank c = true ∧ r ≠ []) then [c] else 61 :: two c) :: units r

def encU (col : Nat) : List (List Int) → List Int
  | [] => []
  | t :: us => if col + t.length > (if us = [] then 76 else 75) then [61, 13, 10] ++ (t ++ encU t.length us) else t ++ encU (col + t.length) us

def lineLen : List Int → Nat
  | [] => 0
  | c :: r => if crlf (c :: r) then 0 else lineLen r + 1

theorem lineLen_le : ∀ b : List Int, lineLen b ≤ b.length
  | [] => by simp [lineLen]
  | c :: r => by
    have := lineLen_le r
    rw [lineLen]
    split <;> simp <;> omega

theorem lineLen_zero (b : List Int) : lineLen b = 0 ↔ lineEnd b = true := by
  cases b with
  | nil => simp [lineLen, lineEnd]
  | cons c r =>
    rw [lineEnd_cons, lineLen]
    split
    · simp_all
    · simp_all

theorem line_nil (r : List Int) : r.take (lineLen r) = [] ↔ lineEnd r = true := by
  rw [← lineLen_zero, List.take_eq_nil_iff]
  constructor
  · rintro (h | h)
    · exact h
    · subst h; rfl
  · exact .inl

theorem units_nil (l : List Int) : units l = [] ↔ l = [] := by cases l <;> simp [units]

theorem encL_lines : ∀ (b : List Int) (col : Nat), encL col b = encU col (units (b.take (lineLen b))) ++ (if lineLen b = b.length then [] else [13, 10] ++ encL 0 (b.drop (lineLen b + 2)))
  | [], col => by simp [encL, lineLen, units, encU]
  | c :: r, col => by
    rw [encL, lineLen]
    by_cases h : crlf (c :: r) = true
    · rw [if_pos h, if_pos h]
      simp [units, encU]
    · rw [if_neg h, if_neg h]
      have e1 : (if (33 ≤ c ∧ c ≤ 126 ∧ c ≠ 61) ∨ (blank c = true ∧ r.take (lineLen r) ≠ []) then [c] else 61 :: two c) = tok c r := by
        unfold tok
        congr 1
        have : (r.take (lineLen r) ≠ []) = (lineEnd r = false) := by rw [Ne, line_nil]; simp
        rw [this]
      have e2 : (if units (r.take (lineLen r)) = [] then 76 else 75) = room r := by
        unfold room
        congr 1
        rw [units_nil, line_nil]
      have e3 : (lineLen r + 1 = (c :: r).length) = (lineLen r = r.length) := by simp
      have e4 : (c :: r).drop (lineLen r + 1 + 2) = r.drop (lineLen r + 2) := by
        rw [show lineLen r + 1 + 2 = (lineLen r + 2) + 1 by omega, List.drop_succ_cons]
      rw [List.take_succ_cons, units, encU, e1, e2, e4]
      simp only [e3]
      split
      · rw [encL_lines r]; simp
      · rw [encL_lines r]; simp

theorem unit_len (c : Int) (p : Prop) [Decidable p] : (if p then [c] else 61 :: two c).length ≤ 3 := by
  split <;> simp [two]

theorem units_length (l : List Int) : (units l).length = l.length := by
  induction l with
  | nil => rfl
  | cons c r ih => simp [units, ih]

theorem LU_C2_spec (l : List Int) (out : List (List Int)) (i c : Int) (hc : 0 ≤ c ∧ c ≤ 255) (h0 : 0 ≤ i) (h1 : i < l.length) (hb : l.length ≤ 2000000) :
    ref1_LineUnits_C2 (pcL prog cfg) lpL ((l, out, i, c, ()), ()) = some ((l, out, i, c, decide ((33 ≤ c ∧ c ≤ 126 ∧ c ≠ 61) ∨ (blank c = true ∧ l.drop (i.toNat + 1) ≠ [])), ()), ()) := by
  unfold ref1_LineUnits_C2
  dsimp only
  have hd : (l.drop (i.toNat + 1) ≠ []) = (i + 1 < l.length) := by
    rw [Ne, List.drop_eq_nil_iff]
    exact propext (by omega)
  simp only [hd]
  rw [wrap64 (by omega) (by omega), In_spec, Blank_spec, wrap64 (by omega) (by omega)]
  delta bnd
  dsimp only
  simp only [ifd_eq, decide_eq_true_eq]
  by_cases a1 : 33 ≤ c ∧ c ≤ 126
  · by_cases a2 : c = 61
    · subst a2
      simp [blank]
    · simp [a1, a2]
  · have a3 : ¬ (33 ≤ c ∧ c ≤ 126 ∧ c ≠ 61) := fun h => a1 ⟨h.1, h.2.1⟩
    simp only [a1, a3, if_false, false_or]
    cases hbl : blank c <;> simp

theorem LU_L3_spec (l : List Int) (hB : Bytes l) (hb : l.length ≤ 2000000) : ∀ (k : Nat) (out : List (List Int)) (i : Int), 0 ≤ i → i ≤ l.length → l.length - i.toNat = k → out.length + (l.length - i.toNat) ≤ 1000000000 →
    ref1_LineUnits_L3 (pcL prog cfg) lpL ((l, out, i, ()), ()) = some ((out ++ units (l.drop i.toNat), ()), ()) := by
  intro k
  induction k with
  | zero =>
    intro out i h0 h1 hk hl
    refine ref1_LineUnits_L3_of ?_
    unfold ref1_LineUnits_L3_R
    dsimp only
    refine (ifd_f (by simp only [decide_eq_true_eq]; omega)).trans ?_
    rw [List.drop_eq_nil_of_le (by omega), units]
    simp
  | succ k ih =>
    intro out i h0 h1 hk hl
    refine ref1_LineUnits_L3_of ?_
    unfold ref1_LineUnits_L3_R
    dsimp only
    refine (ifd_t (by simp only [decide_eq_true_eq]; omega)).trans ?_
    refine (ifd_t (by simp only [decide_eq_true_eq]; omega)).trans ?_
    have hc := hB.getD i.toNat
    refine bnd1 (LU_C2_spec l out i _ hc h0 (by omega) hb) ?_
    dsimp only
    have e1 : (i + 1).toNat = i.toNat + 1 := by omega
    have hd : l.drop i.toNat = l.getD i.toNat 0 :: l.drop (i.toNat + 1) := drop_getD _ _ (by omega)
    rw [hd, units]
    have ih1 := fun (t : List Int) => ih (out ++ [t]) (i + 1) (by omega) (by omega) (by omega) (by simp; omega)
    rw [wrap64 (by omega) (by omega)]
    simp only [e1, List.append_assoc, List.singleton_append] at ih1
    by_cases hp : (33 ≤ l.getD i.toNat 0 ∧ l.getD i.toNat 0 ≤ 126 ∧ l.getD i.toNat 0 ≠ 61) ∨ (blank (l.getD i.toNat 0) = true ∧ l.drop (i.toNat + 1) ≠ [])
    · rw [if_pos hp]
      refine (ifd_t (by rw [decide_eq_true_eq]; exact hp)).trans ?_
      refine (ifd_t (by simp only [decide_eq_true_eq]; simp; omega)).trans ?_
      exact ih1 _
    · rw [if_neg hp]
      refine (ifd_f (by rw [decide_eq_true_eq]; exact hp)).trans ?_
      refine bnd2 (Two_spec hc) rfl ?_
      refine (ifd_t (by simp [two])).trans ?_
      refine (ifd_t (by simp only [decide_eq_true_eq]; simp; omega)).trans ?_
      exact ih1 _

theorem LineUnits_spec (l : List Int) (hB : Bytes l) (hb : l.length ≤ 2000000) : ref1_LineUnits_c (pcL prog cfg) l = some (units l) := by
  refine ref1_LineUnits_of ?_
  unfold ref1_LineUnits_B
  refine bnd1 (LU_L3_spec l hB hb _ [] 0 (by omega) (by omega) rfl (by simp; omega)) ?_
  simp

/-! ### Quoted -/
theorem Q_L1_spec (b out : List Int) (a : Int) (hb : b.length ≤ 2000000) : ∀ (k : Nat) (e : Int), 0 ≤ e → e ≤ b.length → b.length - e.toNat = k →
    ref1_Quoted_L1 (pcL prog cfg) lpL ((b, out, a, e, ()), ()) = some ((b, out, a, e + lineLen (b.drop e.toNat), ()), ()) := by
  intro k
  induction k with
  | zero =>
    intro e h0 h1 hk
    refine ref1_Quoted_L1_of ?_
    unfold ref1_Quoted_L1_R
    dsimp only
    refine (ifd_f (by simp only [decide_eq_true_eq]; omega)).trans ?_
    refine (ifd_f (by simp only [decide_eq_true_eq]; omega)).trans ?_
    rw [List.drop_eq_nil_of_le (by omega), lineLen]
    simp
  | succ k ih =>
    intro e h0 h1 hk
    refine ref1_Quoted_L1_of ?_
    unfold ref1_Quoted_L1_R
    dsimp only
    have hd : b.drop e.toNat = b.getD e.toNat 0 :: b.drop (e.toNat + 1) := drop_getD _ _ (by omega)
    refine (ifd_t (by simp only [decide_eq_true_eq]; omega)).trans ?_
    refine bnd2 (Crlf_spec b e h0 hb (by omega)) rfl ?_
    refine (ifd_t (by simp only [decide_eq_true_eq]; omega)).trans ?_
    rw [hd, lineLen]
    by_cases h : crlf (b.getD e.toNat 0 :: b.drop (e.toNat + 1)) = true
    · rw [if_pos h]
      refine (ifd_f (by rw [h]; simp)).trans ?_
      simp
    · rw [if_neg h]
      refine (ifd_t (by rw [Bool.eq_false_iff.2 h]; rfl)).trans ?_
      rw [wrap64 (by omega) (by omega)]
      have e2 : (e + 1).toNat = e.toNat + 1 := by omega
      rw [ih (e + 1) (by omega) (by omega) (by omega), e2]
      have : e + 1 + (lineLen (b.drop (e.toNat + 1)) : Int) = e + ((lineLen (b.drop (e.toNat + 1)) + 1 : Nat) : Int) := by omega
      rw [this]

theorem Q_L4_spec (b : List Int) (e : Int) (us : List (List Int)) (hu : ∀ t ∈ us, t.length ≤ 3) (hb : us.length ≤ 2000000) : ∀ (k : Nat) (out : List Int) (col : Nat) (i : Int), 0 ≤ i → i ≤ us.length → us.length - i.toNat = k → col ≤ 76 → out.length + (encU col (us.drop i.toNat)).length ≤ 1000000000 →
    ref1_Quoted_L4 (pcL prog cfg) lpL ((b, out, e, us, (col : Int), i, ()), ()) = some ((b, out ++ encU col (us.drop i.toNat), e, ()), ()) := by
  intro k
  induction k with
  | zero =>
    intro out col i h0 h1 hk hcol hl
    refine ref1_Quoted_L4_of ?_
    unfold ref1_Quoted_L4_R
    dsimp only
    refine (ifd_f (by simp only [decide_eq_true_eq]; omega)).trans ?_
    rw [List.drop_eq_nil_of_le (by omega), encU]
    simp
  | succ k ih =>
    intro out col i h0 h1 hk hcol hl
    refine ref1_Quoted_L4_of ?_
    unfold ref1_Quoted_L4_R
    dsimp only
    have hd : us.drop i.toNat = us.getD i.toNat [] :: us.drop (i.toNat + 1) := drop_getD_cons _ _ _ (by omega)
    have ht : (us.getD i.toNat []).length ≤ 3 := by
      rw [List.getD_eq_getElem?_getD, List.getElem?_eq_getElem (by omega)]
      exact hu _ (List.getElem_mem _)
    have hn : (us.drop (i.toNat + 1) = []) = (i + 1 = us.length) := by
      rw [List.drop_eq_nil_iff]
      exact propext (by omega)
    have e2 : (i + 1).toNat = i.toNat + 1 := by omega
    rw [hd, encU] at hl ⊢
    refine (ifd_t (by simp only [decide_eq_true_eq]; omega)).trans ?_
    refine bnd1 (v := ((b, out, e, us, (col : Int), i, ((if us.drop (i.toNat + 1) = [] then 76 else 75 : Nat) : Int), ()), ())) ?_ ?_
    · unfold ref1_Quoted_C2
      dsimp only
      rw [wrap64 (by omega) (by omega)]
      simp only [hn]
      by_cases h : i + 1 = us.length
      · refine (ifd_t (by simp [h])).trans ?_
        simp [h]
      · refine (ifd_f (by simp [h])).trans ?_
        simp [h]
    dsimp only
    have hrm : (if us.drop (i.toNat + 1) = [] then 76 else 75 : Nat) ≤ 76 ∧ 75 ≤ (if us.drop (i.toNat + 1) = [] then 76 else 75 : Nat) := by split <;> simp
    generalize (if us.drop (i.toNat + 1) = [] then 76 else 75 : Nat) = rm at hrm hl ⊢
    by_cases hbr : col + (us.getD i.toNat []).length > rm
    · rw [if_pos hbr] at hl ⊢
      simp only [List.length_append, List.length_cons, List.length_nil] at hl
      refine bnd1 (v := ((b, out ++ [61, 13, 10], e, us, 0, i, ()), ())) ?_ ?_
      · unfold ref1_Quoted_C3
        dsimp only
        refine (ifd_t (by simp only [decide_eq_true_eq]; omega)).trans ?_
        refine (ifd_t (by simp only [decide_eq_true_eq]; rw [wrap64 (by omega) (by omega)]; omega)).trans ?_
        exact ifd_t (by simp only [decide_eq_true_eq]; simp; omega)
      · dsimp only
        refine (ifd_t (by simp only [decide_eq_true_eq]; omega)).trans ?_
        refine (ifd_t (by simp only [decide_eq_true_eq, List.length_append, List.length_cons, List.length_nil]; omega)).trans ?_
        refine (ifd_t (by simp only [decide_eq_true_eq]; omega)).trans ?_
        rw [wrap64 (x := 0 + _) (by omega) (by omega), wrap64 (by omega) (by omega), Int.zero_add]
        have := ih (out ++ [61, 13, 10] ++ us.getD i.toNat []) (us.getD i.toNat []).length (i + 1) (by omega) (by omega) (by omega) (by omega) (by rw [e2]; simp only [List.length_append, List.length_cons, List.length_nil]; omega)
        rw [e2] at this
        refine this.trans ?_
        simp
    · rw [if_neg hbr] at hl ⊢
      simp only [List.length_append] at hl
      refine bnd1 (v := ((b, out, e, us, (col : Int), i, ()), ())) ?_ ?_
      · unfold ref1_Quoted_C3
        dsimp only
        refine (ifd_t (by simp only [decide_eq_true_eq]; omega)).trans ?_
        exact ifd_f (by simp only [decide_eq_true_eq]; rw [wrap64 (by omega) (by omega)]; omega)
      · dsimp only
        refine (ifd_t (by simp only [decide_eq_true_eq]; omega)).trans ?_
        refine (ifd_t (by simp only [decide_eq_true_eq]; omega)).trans ?_
        refine (ifd_t (by simp only [decide_eq_true_eq]; omega)).trans ?_
        rw [wrap64 (by omega) (by omega), wrap64 (by omega) (by omega)]
        have := ih (out ++ us.getD i.toNat []) (col + (us.getD i.toNat []).length) (i + 1) (by omega) (by omega) (by omega) (by omega) (by rw [e2]; simp only [List.length_append]; omega)
        rw [e2] at this
        refine Eq.trans ?_ (this.trans ?_)
        · simp
        · simp

theorem units_mem : ∀ (l : List Int) (t : List Int), t ∈ units l → t.length ≤ 3
  | [], t, h => by simp [units] at h
  | c :: r, t, h => by
    rw [units] at h
    rcases List.mem_cons.1 h with rfl | h
    · exact unit_len _ _
    · exact units_mem r t h

theorem lineLen_crlf : ∀ (b : List Int), lineLen b ≠ b.length → lineLen b + 2 ≤ b.length
  | [], h => by simp [lineLen] at h
  | c :: r, h => by
    rw [lineLen] at h ⊢
    split at h
    · rename_i hc
      rw [if_pos hc]
      cases r with
      | nil => simp [crlf] at hc
      | cons d s => simp
    · rename_i hc
      rw [if_neg hc]
      have := lineLen_crlf r (by simpa using h)
      simp; omega

theorem Q_L5_spec (b : List Int) (hB : Bytes b) (hb : b.length ≤ 2000000) : ∀ (k : Nat) (out : List Int) (a : Int), 0 ≤ a → a ≤ b.length → b.length - a.toNat = k → out.length + (encL 0 (b.drop a.toNat)).length ≤ 1000000000 →
    ref1_Quoted_L5 (pcL prog cfg) lpL ((b, out, a, ()), ()) = some ((out ++ encL 0 (b.drop a.toNat), ()), ()) := by
  intro k
  induction k using Nat.strongRecOn with
  | _ k ih =>
    intro out a h0 h1 hk hl
    refine ref1_Quoted_L5_of ?_
    unfold ref1_Quoted_L5_R
    dsimp only
    have hle := lineLen_le (b.drop a.toNat)
    have hdl : (b.drop a.toNat).length = b.length - a.toNat := List.length_drop
    refine (ifd_t (by simp only [decide_eq_true_eq]; omega)).trans ?_
    refine bnd1 (Q_L1_spec b out a hb _ a h0 h1 rfl) ?_
    dsimp only
    refine (ifd_t (by simp only [decide_eq_true_eq]; omega)).trans ?_
    have hpart : List.drop a.toNat (List.take (a + (lineLen (b.drop a.toNat) : Int)).toNat b) = (b.drop a.toNat).take (lineLen (b.drop a.toNat)) := by
      rw [List.drop_take]
      congr 1; omega
    rw [hpart]
    refine bnd2 (LineUnits_spec _ ((hB.drop _).take _) (by simp; omega)) rfl ?_
    rw [encL_lines] at hl ⊢
    have hlen := lineLen_crlf (b.drop a.toNat)
    have hull := units_length ((b.drop a.toNat).take (lineLen (b.drop a.toNat)))
    rw [List.length_take] at hull
    refine bnd1 (Q_L4_spec b _ _ (units_mem _) (by omega) _ out 0 0 (by omega) (by omega) rfl (by omega) (by
      simp only [List.length_append, Int.toNat_zero, List.drop_zero] at hl ⊢
      omega)) ?_
    dsimp only
    simp only [Int.toNat_zero, List.drop_zero]
    by_cases h : lineLen (b.drop a.toNat) = (b.drop a.toNat).length
    · rw [if_pos h]
      refine (ifd_t (by simp only [beq_iff_eq]; omega)).trans ?_
      simp
    · rw [if_neg h] at hl ⊢
      have := hlen h
      simp only [List.length_append, List.length_cons, List.length_nil] at hl
      refine (ifd_f (by simp only [beq_iff_eq]; omega)).trans ?_
      refine (ifd_t (by simp only [decide_eq_true_eq, List.length_append, List.length_cons, List.length_nil]; omega)).trans ?_
      rw [wrap64 (by omega) (by omega)]
      have e2 : (a + (lineLen (b.drop a.toNat) : Int) + 2).toNat = a.toNat + (lineLen (b.drop a.toNat) + 2) := by omega
      have e3 : b.drop (a.toNat + (lineLen (b.drop a.toNat) + 2)) = (b.drop a.toNat).drop (lineLen (b.drop a.toNat) + 2) := by rw [List.drop_drop]
      have := ih (b.length - (a + (lineLen (b.drop a.toNat) : Int) + 2).toNat) (by omega) (out ++ encU 0 (units ((b.drop a.toNat).take (lineLen (b.drop a.toNat)))) ++ [13, 10]) (a + (lineLen (b.drop a.toNat) : Int) + 2) (by omega) (by omega) rfl (by rw [e2, e3]; simp only [List.length_append, List.length_cons, List.length_nil]; omega)
      rw [e2, e3] at this
      refine this.trans ?_
      simp

theorem Quoted_spec (b : List Int) (hB : Bytes b) (hb : b.length ≤ 2000000) : ref1_Quoted_c (pcL prog cfg) b = some (encL 0 b) := by
  refine ref1_Quoted_of ?_
  unfold ref1_Quoted_B
  have hl := encL_len _ b 0 rfl
  refine bnd1 (Q_L5_spec b hB hb _ [] 0 (by omega) (by omega) rfl (by simp; omega)) ?_
  dsimp only
  simp only [Int.toNat_zero, List.drop_zero, List.nil_append]
  exact ifd_t (by simp only [decide_eq_true_eq]; omega)

end Go.Proofs.YtldlfkgbfaneaaaDoorSim
