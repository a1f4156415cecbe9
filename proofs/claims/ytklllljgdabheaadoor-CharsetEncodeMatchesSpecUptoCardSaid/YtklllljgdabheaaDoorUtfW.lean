/- The library's test whether a text is valid, its loop. -/
import Derived.Test.YtklllljgdabheaaDoorUtfV
namespace Go.Proofs.YtklllljgdabheaaDoorSim
open Go Go.Proofs
open Go.Proofs.Tryd (prog)
set_option linter.unusedVariables false
set_option linter.unusedSimpArgs false

def szV (c : Int) : Int := if 194 ≤ c ∧ c ≤ 223 then 2 else if 224 ≤ c ∧ c ≤ 239 then 3 else if 240 ≤ c ∧ c ≤ 244 then 4 else 1
def loV (c : Int) : Int := if c = 224 then 160 else if c = 240 then 144 else 128
def hiV (c : Int) : Int := if c = 237 then 159 else if c = 244 then 143 else 191

theorem all_bytes {p : Int → Prop} [∀ c, Decidable (p c)] (h : (List.range 256).all (fun n => decide (p (n : Int))) = true) {c : Int} (hc : 0 ≤ c ∧ c ≤ 255) : p c := by
  have := (List.all_eq_true.1 h) c.toNat (by simp; omega)
  simp only [decide_eq_true_eq] at this
  rwa [Int.toNat_of_nonneg hc.1] at this

theorem tableV {c : Int} (hc : 0 ≤ c ∧ c ≤ 255) : 128 ≤ c →
    (0 ≤ Int.fdiv (List.getD firstL (Int.toNat c) 0) ((2 : Int) ^ (min (Int.toNat 4) 8)) ∧ Int.fdiv (List.getD firstL (Int.toNat c) 0) ((2 : Int) ^ (min (Int.toNat 4) 8)) < 16) ∧
    IntKind.wrap .i64 (ibits .and .u8 (List.getD firstL (Int.toNat c) 0) 7) = szV c ∧
    (szV c ≠ 1 → (List.getD acceptP (Int.toNat (Int.fdiv (List.getD firstL (Int.toNat c) 0) ((2 : Int) ^ (min (Int.toNat 4) 8)))) (0, (0, ()))).1 = loV c ∧
      (List.getD acceptP (Int.toNat (Int.fdiv (List.getD firstL (Int.toNat c) 0) ((2 : Int) ^ (min (Int.toNat 4) 8)))) (0, (0, ()))).2.1 = hiV c) :=
  all_bytes (p := fun c => 128 ≤ c →
    (0 ≤ Int.fdiv (List.getD firstL (Int.toNat c) 0) ((2 : Int) ^ (min (Int.toNat 4) 8)) ∧ Int.fdiv (List.getD firstL (Int.toNat c) 0) ((2 : Int) ^ (min (Int.toNat 4) 8)) < 16) ∧
    IntKind.wrap .i64 (ibits .and .u8 (List.getD firstL (Int.toNat c) 0) 7) = szV c ∧
    (szV c ≠ 1 → (List.getD acceptP (Int.toNat (Int.fdiv (List.getD firstL (Int.toNat c) 0) ((2 : Int) ^ (min (Int.toNat 4) 8)))) (0, (0, ()))).1 = loV c ∧
      (List.getD acceptP (Int.toNat (Int.fdiv (List.getD firstL (Int.toNat c) 0) ((2 : Int) ^ (min (Int.toNat 4) 8)))) (0, (0, ()))).2.1 = hiV c)) (by decide +kernel) hc

/-- a character of more than one byte, as the library tests it -/
def okV (c : Int) (r : List Int) : Prop :=
  szV c ≠ 1 ∧ szV c ≤ r.length + 1 ∧ (loV c ≤ r.getD 0 0 ∧ r.getD 0 0 ≤ hiV c) ∧ (3 ≤ szV c → 128 ≤ r.getD 1 0 ∧ r.getD 1 0 ≤ 191) ∧ (4 ≤ szV c → 128 ≤ r.getD 2 0 ∧ r.getD 2 0 ≤ 191)

theorem okV_rune (c : Int) (r : List Int) (h1 : ¬ c < 128) : (okV c r → 0 ≤ (rune1 (c :: r)).1 ∧ ((rune1 (c :: r)).2 : Int) = szV c) ∧ (¬ okV c r → (rune1 (c :: r)).1 < 0) := by
  unfold okV
  rw [rune1, if_neg h1]
  by_cases h2 : c < 192
  · have e : szV c = 1 := by unfold szV; rw [if_neg (by omega), if_neg (by omega), if_neg (by omega)]
    rw [if_pos h2, e]
    exact ⟨fun h => absurd rfl h.1, fun _ => by simp⟩
  · rw [if_neg h2]
    by_cases h3 : c < 224
    · rw [if_pos h3]
      by_cases h194 : 194 ≤ c
      · have e : szV c = 2 := by unfold szV; rw [if_pos (by omega)]
        have e2 : loV c = 128 := by unfold loV; rw [if_neg (by omega), if_neg (by omega)]
        have e3 : hiV c = 191 := by unfold hiV; rw [if_neg (by omega), if_neg (by omega)]
        rw [e, e2, e3]
        constructor
        · rintro ⟨_, k1, k2, _, _⟩
          rw [if_pos ⟨by omega, cont_iff.2 k2, by simp only [n2]; omega⟩]
          exact ⟨by simp only [n2]; omega, rfl⟩
        · intro hn
          rw [if_neg (fun h => hn ⟨by omega, by omega, cont_iff.1 h.2.1, fun h => by omega, fun h => by omega⟩)]
          simp
      · have e : szV c = 1 := by unfold szV; rw [if_neg (by omega), if_neg (by omega), if_neg (by omega)]
        rw [e]
        refine ⟨fun h => absurd rfl h.1, fun _ => ?_⟩
        rw [if_neg (fun h => by have := cont_iff.1 h.2.1; have := h.2.2; simp only [n2] at this; omega)]
        simp
    · rw [if_neg h3]
      by_cases h4 : c < 240
      · have e : szV c = 3 := by unfold szV; rw [if_neg (by omega), if_pos (by omega)]
        rw [if_pos h4, e]
        have q1 : c ≠ 240 := by omega
        have q2 : c ≠ 244 := by omega
        constructor
        · rintro ⟨_, k1, k2, k3, _⟩
          have k3 := k3 (by omega)
          unfold loV hiV at k2
          rw [if_neg q1, if_neg q2] at k2
          have hx : 128 ≤ r.getD 0 0 ∧ r.getD 0 0 ≤ 191 := by
            have a := k2.1; have b := k2.2
            constructor
            · split at a <;> omega
            · split at b <;> omega
          have hA : c = 224 → 160 ≤ r.getD 0 0 := fun h => by have a := k2.1; rw [if_pos h] at a; exact a
          have hB : c = 237 → r.getD 0 0 ≤ 159 := fun h => by have a := k2.2; rw [if_pos h] at a; exact a
          rw [if_pos ⟨by omega, cont_iff.2 hx, cont_iff.2 k3, by simp only [n3]; omega, by simp only [n3]; omega⟩]
          exact ⟨by simp only [n3]; omega, rfl⟩
        · intro hn
          rw [if_neg]
          · simp
          · rintro ⟨h1, h2, h3, h4, h5⟩
            have hx := cont_iff.1 h2
            have hy := cont_iff.1 h3
            simp only [n3] at h4 h5
            refine hn ⟨by omega, by omega, ?_, fun _ => hy, fun h => by omega⟩
            unfold loV hiV
            rw [if_neg q1, if_neg q2]
            constructor <;> split <;> omega
      · rw [if_neg h4]
        have q0 : c ≠ 224 := by omega
        have q1 : c ≠ 237 := by omega
        by_cases h5 : c < 248
        · rw [if_pos h5]
          by_cases h245 : c ≤ 244
          · have e : szV c = 4 := by unfold szV; rw [if_neg (by omega), if_neg (by omega), if_pos (by omega)]
            rw [e]
            constructor
            · rintro ⟨_, k1, k2, k3, k4⟩
              have k3 := k3 (by omega)
              have k4 := k4 (by omega)
              unfold loV hiV at k2
              rw [if_neg q0, if_neg q1] at k2
              have hx : 128 ≤ r.getD 0 0 ∧ r.getD 0 0 ≤ 191 := by
                have a := k2.1; have b := k2.2
                constructor
                · split at a <;> omega
                · split at b <;> omega
              have hA : c = 240 → 144 ≤ r.getD 0 0 := fun h => by have a := k2.1; rw [if_pos h] at a; exact a
              have hB : c = 244 → r.getD 0 0 ≤ 143 := fun h => by have a := k2.2; rw [if_pos h] at a; exact a
              rw [if_pos ⟨by omega, cont_iff.2 hx, cont_iff.2 k3, cont_iff.2 k4, by simp only [n4]; omega, by simp only [n4]; omega⟩]
              exact ⟨by simp only [n4]; omega, rfl⟩
            · intro hn
              rw [if_neg]
              · simp
              · rintro ⟨h1, h2, h3, h4, h5, h6⟩
                have hx := cont_iff.1 h2
                have hy := cont_iff.1 h3
                have hz := cont_iff.1 h4
                simp only [n4] at h5 h6
                refine hn ⟨by omega, by omega, ?_, fun _ => hy, fun _ => hz⟩
                unfold loV hiV
                rw [if_neg q0, if_neg q1]
                constructor <;> split <;> omega
          · have e : szV c = 1 := by unfold szV; rw [if_neg (by omega), if_neg (by omega), if_neg (by omega)]
            rw [e]
            refine ⟨fun h => absurd rfl h.1, fun _ => ?_⟩
            rw [if_neg (fun h => by
              obtain ⟨h1, h2, h3, h4, h5, h6⟩ := h
              have hx := cont_iff.1 h2
              have hy := cont_iff.1 h3
              have hz := cont_iff.1 h4
              simp only [n4] at h6
              omega)]
            simp
        · have e : szV c = 1 := by unfold szV; rw [if_neg (by omega), if_neg (by omega), if_neg (by omega)]
          rw [if_neg h5, e]
          exact ⟨fun h => absurd rfl h.1, fun _ => by simp⟩

theorem V_L5 : ∀ (n : Nat) (l : List Int), l.length = n → Bytes l →
    unicode_utf8_ValidString_L5 (pcL prog cfg) lpL ((l, ()), ()) = some (if validL l then Sum.inr ((), ()) else Sum.inl ((false, ()), ())) := by
  intro n
  induction n using Nat.strongRecOn with
  | _ n ih =>
    intro l hn hB
    refine unicode_utf8_ValidString_L5_of ?_
    unfold unicode_utf8_ValidString_L5_R
    dsimp only
    cases l with
    | nil =>
      have : validL [] = true := by unfold validL; rw [runesL]; rfl
      rw [this]
      exact ifd_f (by simp)
    | cons c r =>
      simp only [List.length_cons] at hn
      have hl1 : (((c :: r).length : Nat) : Int) = (r.length : Int) + 1 := by simp
      refine (ifd_t (by simp only [decide_eq_true_eq]; omega)).trans ?_
      refine (ifd_t (by simp only [decide_eq_true_eq]; omega)).trans ?_
      have hc : 0 ≤ c ∧ c ≤ 255 := hB c (by simp)
      have hBr : Bytes r := fun x hx => hB x (by simp [hx])
      have e0 : List.getD (c :: r) (Int.toNat 0) 0 = c := rfl
      have e1 : List.getD (c :: r) (Int.toNat 1) 0 = r.getD 0 0 := rfl
      have e2 : List.getD (c :: r) (Int.toNat 2) 0 = r.getD 1 0 := rfl
      have e3 : List.getD (c :: r) (Int.toNat 3) 0 = r.getD 2 0 := rfl
      rw [e0, e1, e2, e3]
      by_cases h128 : c < 128
      · refine (ifd_t (decide_eq_true h128)).trans ?_
        refine (ifd_t (by simp only [decide_eq_true_eq]; omega)).trans ?_
        rw [show Int.toNat 1 = 1 from rfl, dropS]
        obtain ⟨k, hk, hlow, h4⟩ := V_C4 r hBr
        refine bnd1 h4 ?_
        dsimp only
        have hv : validL (c :: r) = validL (r.drop k) := by
          have h1 : rune1 (c :: r) = (c, 1) := by rw [rune1, if_pos h128]
          have e2 : decide (0 ≤ c) = true := decide_eq_true hc.1
          rw [validL_cons, h1, e2, Bool.true_and]
          exact validL_low k r hBr hk hlow
        rw [hv]
        exact ih (r.drop k).length (by rw [List.length_drop]; omega) _ rfl (hBr.drop k)
      · refine (ifd_f (by simpa using h128)).trans ?_
        refine (ifd_t (by simp only [decide_eq_true_eq]; omega)).trans ?_
        obtain ⟨t1, t2, t3⟩ := tableV hc (by omega)
        refine (ifd_t (decide_eq_true t1)).trans ?_
        rw [t2]
        have hok := okV_rune c r h128
        have bad : ¬ okV c r → validL (c :: r) = false := fun h => by
          rw [validL_cons, decide_eq_false (by have := hok.2 h; omega), Bool.false_and]
        have good : ∀ k : Nat, szV c = k → okV c r → unicode_utf8_ValidString_L5 (pcL prog cfg) lpL (((c :: r).drop k, ()), ()) = some (if validL (c :: r) then Sum.inr ((), ()) else Sum.inl ((false, ()), ())) := fun k hk h => by
          obtain ⟨g1, g2⟩ := hok.1 h
          have hsz := rune1_size c r
          have g3 : (rune1 (c :: r)).2 = k := by omega
          rw [validL_cons, decide_eq_true g1, Bool.true_and, g3]
          exact ih ((c :: r).drop k).length (by rw [List.length_drop, List.length_cons]; omega) _ rfl (hB.drop k)
        generalize Int.fdiv (List.getD firstL (Int.toNat c) 0) ((2 : Int) ^ (min (Int.toNat 4) 8)) = F at t3
        by_cases s2 : szV c = 2
        · rw [s2]
          obtain ⟨t4, t5⟩ := t3 (by omega)
          rw [t4, t5]
          refine (ifd_t rfl).trans ?_
          by_cases p1 : r.length + 1 < 2
          · refine (ifd_t (by simp only [decide_eq_true_eq]; omega)).trans ?_
            refine (ifd_t (by simp only [decide_eq_true_eq]; omega)).trans ?_
            rw [bad (fun h => by have := h.2.1; omega)]
            rfl
          refine (ifd_f (by simp only [decide_eq_true_eq]; omega)).trans ?_
          refine (ifd_t (by simp only [decide_eq_true_eq]; omega)).trans ?_
          refine (ifd_f (by simp only [decide_eq_true_eq]; omega)).trans ?_
          by_cases p2 : r.getD 0 0 < loV c
          · refine (ifd_t (decide_eq_true p2)).trans ?_
            refine (ifd_t (decide_eq_true p2)).trans ?_
            rw [bad (fun h => by have := h.2.2.1; omega)]
            rfl
          have p2' : ¬ (decide (r.getD 0 0 < loV c)) = true := by simpa using p2
          refine (ifd_f p2').trans ?_
          refine (ifd_t (by simp only [decide_eq_true_eq]; omega)).trans ?_
          refine (ifd_f p2').trans ?_
          by_cases p3 : hiV c < r.getD 0 0
          · refine (ifd_t (decide_eq_true p3)).trans ?_
            rw [bad (fun h => by have := h.2.2.1; omega)]
            rfl
          refine (ifd_f (by simpa using p3)).trans ?_
          refine (ifd_t (by simp only [decide_eq_true_eq]; omega)).trans ?_
          rw [show Int.toNat 2 = 2 from rfl, dropS]
          exact good 2 (by omega) ⟨by omega, by omega, by omega, fun h => by omega, fun h => by omega⟩
        · have s2' : ¬ (szV c == 2) = true := by simpa using s2
          refine (ifd_f s2').trans ?_
          by_cases s3 : szV c = 3
          · rw [s3]
            obtain ⟨t4, t5⟩ := t3 (by omega)
            rw [t4, t5]
            refine (ifd_t rfl).trans ?_
            by_cases p1 : r.length + 1 < 3
            · refine (ifd_t (by simp only [decide_eq_true_eq]; omega)).trans ?_
              refine (ifd_t (by simp only [decide_eq_true_eq]; omega)).trans ?_
              rw [bad (fun h => by have := h.2.1; omega)]
              rfl
            refine (ifd_f (by simp only [decide_eq_true_eq]; omega)).trans ?_
            refine (ifd_t (by simp only [decide_eq_true_eq]; omega)).trans ?_
            refine (ifd_f (by simp only [decide_eq_true_eq]; omega)).trans ?_
            by_cases p2 : r.getD 0 0 < loV c
            · refine (ifd_t (decide_eq_true p2)).trans ?_
              refine (ifd_t (decide_eq_true p2)).trans ?_
              rw [bad (fun h => by have := h.2.2.1; omega)]
              rfl
            have p2' : ¬ (decide (r.getD 0 0 < loV c)) = true := by simpa using p2
            refine (ifd_f p2').trans ?_
            refine (ifd_t (by simp only [decide_eq_true_eq]; omega)).trans ?_
            refine (ifd_f p2').trans ?_
            by_cases p3 : hiV c < r.getD 0 0
            · refine (ifd_t (decide_eq_true p3)).trans ?_
              refine (ifd_t (decide_eq_true p3)).trans ?_
              rw [bad (fun h => by have := h.2.2.1; omega)]
              rfl
            have p3' : ¬ (decide (hiV c < r.getD 0 0)) = true := by simpa using p3
            refine (ifd_f p3').trans ?_
            refine (ifd_t (by simp only [decide_eq_true_eq]; omega)).trans ?_
            refine (ifd_f p3').trans ?_
            by_cases p4 : r.getD 1 0 < 128
            · refine (ifd_t (decide_eq_true p4)).trans ?_
              refine (ifd_t (decide_eq_true p4)).trans ?_
              rw [bad (fun h => by have := h.2.2.2.1 (by omega); omega)]
              rfl
            have p4' : ¬ (decide (r.getD 1 0 < 128)) = true := by simpa using p4
            refine (ifd_f p4').trans ?_
            refine (ifd_t (by simp only [decide_eq_true_eq]; omega)).trans ?_
            refine (ifd_f p4').trans ?_
            by_cases p5 : 191 < r.getD 1 0
            · refine (ifd_t (decide_eq_true p5)).trans ?_
              rw [bad (fun h => by have := h.2.2.2.1 (by omega); omega)]
              rfl
            refine (ifd_f (by simpa using p5)).trans ?_
            refine (ifd_t (by simp only [decide_eq_true_eq]; omega)).trans ?_
            rw [show Int.toNat 3 = 3 from rfl, dropS]
            exact good 3 (by omega) ⟨by omega, by omega, by omega, fun h => by omega, fun h => by omega⟩
          · have s3' : ¬ (szV c == 3) = true := by simpa using s3
            refine (ifd_f s3').trans ?_
            by_cases s4 : szV c = 4
            · rw [s4]
              obtain ⟨t4, t5⟩ := t3 (by omega)
              rw [t4, t5]
              refine (ifd_t rfl).trans ?_
              by_cases p1 : r.length + 1 < 4
              · refine (ifd_t (by simp only [decide_eq_true_eq]; omega)).trans ?_
                refine (ifd_t (by simp only [decide_eq_true_eq]; omega)).trans ?_
                rw [bad (fun h => by have := h.2.1; omega)]
                rfl
              refine (ifd_f (by simp only [decide_eq_true_eq]; omega)).trans ?_
              refine (ifd_t (by simp only [decide_eq_true_eq]; omega)).trans ?_
              refine (ifd_f (by simp only [decide_eq_true_eq]; omega)).trans ?_
              by_cases p2 : r.getD 0 0 < loV c
              · refine (ifd_t (decide_eq_true p2)).trans ?_
                refine (ifd_t (decide_eq_true p2)).trans ?_
                rw [bad (fun h => by have := h.2.2.1; omega)]
                rfl
              have p2' : ¬ (decide (r.getD 0 0 < loV c)) = true := by simpa using p2
              refine (ifd_f p2').trans ?_
              refine (ifd_t (by simp only [decide_eq_true_eq]; omega)).trans ?_
              refine (ifd_f p2').trans ?_
              by_cases p3 : hiV c < r.getD 0 0
              · refine (ifd_t (decide_eq_true p3)).trans ?_
                refine (ifd_t (decide_eq_true p3)).trans ?_
                rw [bad (fun h => by have := h.2.2.1; omega)]
                rfl
              have p3' : ¬ (decide (hiV c < r.getD 0 0)) = true := by simpa using p3
              refine (ifd_f p3').trans ?_
              refine (ifd_t (by simp only [decide_eq_true_eq]; omega)).trans ?_
              refine (ifd_f p3').trans ?_
              by_cases p4 : r.getD 1 0 < 128
              · refine (ifd_t (decide_eq_true p4)).trans ?_
                refine (ifd_t (decide_eq_true p4)).trans ?_
                rw [bad (fun h => by have := h.2.2.2.1 (by omega); omega)]
                rfl
              have p4' : ¬ (decide (r.getD 1 0 < 128)) = true := by simpa using p4
              refine (ifd_f p4').trans ?_
              refine (ifd_t (by simp only [decide_eq_true_eq]; omega)).trans ?_
              refine (ifd_f p4').trans ?_
              by_cases p5 : 191 < r.getD 1 0
              · refine (ifd_t (decide_eq_true p5)).trans ?_
                refine (ifd_t (decide_eq_true p5)).trans ?_
                rw [bad (fun h => by have := h.2.2.2.1 (by omega); omega)]
                rfl
              have p5' : ¬ (decide (191 < r.getD 1 0)) = true := by simpa using p5
              refine (ifd_f p5').trans ?_
              refine (ifd_t (by simp only [decide_eq_true_eq]; omega)).trans ?_
              refine (ifd_f p5').trans ?_
              by_cases p6 : r.getD 2 0 < 128
              · refine (ifd_t (decide_eq_true p6)).trans ?_
                refine (ifd_t (decide_eq_true p6)).trans ?_
                rw [bad (fun h => by have := h.2.2.2.2 (by omega); omega)]
                rfl
              have p6' : ¬ (decide (r.getD 2 0 < 128)) = true := by simpa using p6
              refine (ifd_f p6').trans ?_
              refine (ifd_t (by simp only [decide_eq_true_eq]; omega)).trans ?_
              refine (ifd_f p6').trans ?_
              by_cases p7 : 191 < r.getD 2 0
              · refine (ifd_t (decide_eq_true p7)).trans ?_
                rw [bad (fun h => by have := h.2.2.2.2 (by omega); omega)]
                rfl
              refine (ifd_f (by simpa using p7)).trans ?_
              refine (ifd_t (by simp only [decide_eq_true_eq]; omega)).trans ?_
              rw [show Int.toNat 4 = 4 from rfl, dropS]
              exact good 4 (by omega) ⟨by omega, by omega, by omega, fun h => by omega, fun h => by omega⟩
            · have s4' : ¬ (szV c == 4) = true := by simpa using s4
              refine (ifd_f s4').trans ?_
              have : szV c = 1 := by
                unfold szV at s2 s3 s4 ⊢
                split at s2
                · exact absurd rfl s2
                · rename_i a1
                  rw [if_neg a1] at s3 s4 ⊢
                  split at s3
                  · exact absurd rfl s3
                  · rename_i a2
                    rw [if_neg a2] at s4 ⊢
                    split at s4
                    · exact absurd rfl s4
                    · rename_i a3
                      rw [if_neg a3]
              rw [bad (fun h => h.1 this)]
              rfl

theorem ValidString_spec (l : List Int) (hB : Bytes l) : unicode_utf8_ValidString_c (pcL prog cfg) l = some (validL l) := by
  refine unicode_utf8_ValidString_of ?_
  unfold unicode_utf8_ValidString_B
  refine bnd1 (V_L5 _ l rfl hB) ?_
  cases validL l <;> rfl

end Go.Proofs.YtklllljgdabheaaDoorSim
