/- The library's tables of first bytes. -/
import Derived.Test.YthhllkiefncbnaaDoorUtf
namespace Go.Proofs.YthhllkiefncbnaaDoorSim
open Go Go.Proofs
set_option linter.unusedVariables false
set_option linter.unusedSimpArgs false

def szV (c : Int) : Int := if 194 ≤ c ∧ c ≤ 223 then 2 else if 224 ≤ c ∧ c ≤ 239 then 3 else if 240 ≤ c ∧ c ≤ 244 then 4 else 1
def loV (c : Int) : Int := if c = 224 then 160 else if c = 240 then 144 else 128
def hiV (c : Int) : Int := if c = 237 then 159 else if c = 244 then 143 else 191

theorem all_bytes {p : Int → Prop} [∀ c, Decidable (p c)] (h : (List.range 256).all (fun n => decide (p (n : Int))) = true) {c : Int} (hc : 0 ≤ c ∧ c ≤ 255) : p c := by
  have := (List.all_eq_true.1 h) c.toNat (by simp; omega)
  simp only [decide_eq_true_eq] at this
  rwa [Int.toNat_of_nonneg hc.1] at this

theorem tableV {c : Int} (hc : 0 ≤ c ∧ c ≤ 255) : 128 ≤ c →
    (0 ≤ Int.fdiv (List.getD firstL (Int.toNat c) 0) ((2 : Int) ^ (min (Int.toNat 4) 8)) ∧ Int.fdiv (List.getD firstL (Int.toNat c) 0) ((2 : Int) ^ (min (Int.toNat 4) 8)) < 16) ∧
    IntKind.wrap .i64 (ibits .and .u8 (List.getD firstL (Int.toNat c) 0) 7) = szV c ∧
    (szV c ≠ 1 → (List.getD acceptP (Int.toNat (Int.fdiv (List.getD firstL (Int.toNat c) 0) ((2 : Int) ^ (min (Int.toNat 4) 8)))) (0, (0, ()))).1 = loV c ∧
      (List.getD acceptP (Int.toNat (Int.fdiv (List.getD firstL (Int.toNat c) 0) ((2 : Int) ^ (min (Int.toNat 4) 8)))) (0, (0, ()))).2.1 = hiV c) :=
  all_bytes (p := fun c => 128 ≤ c →
    (0 ≤ Int.fdiv (List.getD firstL (Int.toNat c) 0) ((2 : Int) ^ (min (Int.toNat 4) 8)) ∧ Int.fdiv (List.getD firstL (Int.toNat c) 0) ((2 : Int) ^ (min (Int.toNat 4) 8)) < 16) ∧
    IntKind.wrap .i64 (ibits .and .u8 (List.getD firstL (Int.toNat c) 0) 7) = szV c ∧
    (szV c ≠ 1 → (List.getD acceptP (Int.toNat (Int.fdiv (List.getD firstL (Int.toNat c) 0) ((2 : Int) ^ (min (Int.toNat 4) 8)))) (0, (0, ()))).1 = loV c ∧
      (List.getD acceptP (Int.toNat (Int.fdiv (List.getD firstL (Int.toNat c) 0) ((2 : Int) ^ (min (Int.toNat 4) 8)))) (0, (0, ()))).2.1 = hiV c)) (by decide +kernel) hc

/-- a character of more than one byte, as the library tests it -/
def okV (c : Int) (r : List Int) : Prop :=
  szV c ≠ 1 ∧ szV c ≤ r.length + 1 ∧ (loV c ≤ r.getD 0 0 ∧ r.getD 0 0 ≤ hiV c) ∧ (3 ≤ szV c → 128 ≤ r.getD 1 0 ∧ r.getD 1 0 ≤ 191) ∧ (4 ≤ szV c → 128 ≤ r.getD 2 0 ∧ r.getD 2 0 ≤ 191)

theorem okV_rune (c : Int) (r : List Int) (h1 : ¬ c < 128) : (okV c r → 0 ≤ (rune1 (c :: r)).1 ∧ ((rune1 (c :: r)).2 : Int) = szV c) ∧ (¬ okV c r → (rune1 (c :: r)).1 < 0) := by
  unfold okV
  rw [rune1, if_neg h1]
  by_cases h2 : c < 192
  · have e : szV c = 1 := by unfold szV; rw [if_neg (by omega), if_neg (by omega), if_neg (by omega)]
    rw [if_pos h2, e]
    exact ⟨fun h => absurd rfl h.1, fun _ => by simp⟩
  · rw [if_neg h2]
    by_cases h3 : c < 224
    · rw [if_pos h3]
      by_cases h194 : 194 ≤ c
      · have e : szV c = 2 := by unfold szV; rw [if_pos (by omega)]
        have e2 : loV c = 128 := by unfold loV; rw [if_neg (by omega), if_neg (by omega)]
        have e3 : hiV c = 191 := by unfold hiV; rw [if_neg (by omega), if_neg (by omega)]
        rw [e, e2, e3]
        constructor
        · rintro ⟨_, k1, k2, _, _⟩
          rw [if_pos ⟨by omega, cont_iff.2 k2, by simp only [n2]; omega⟩]
          exact ⟨by simp only [n2]; omega, rfl⟩
        · intro hn
          rw [if_neg (fun h => hn ⟨by omega, by omega, cont_iff.1 h.2.1, fun h => by omega, fun h => by omega⟩)]
          simp
      · have e : szV c = 1 := by unfold szV; rw [if_neg (by omega), if_neg (by omega), if_neg (by omega)]
        rw [e]
        refine ⟨fun h => absurd rfl h.1, fun _ => ?_⟩
        rw [if_neg (fun h => by have := cont_iff.1 h.2.1; have := h.2.2; simp only [n2] at this; omega)]
        simp
    · rw [if_neg h3]
      by_cases h4 : c < 240
      · have e : szV c = 3 := by unfold szV; rw [if_neg (by omega), if_pos (by omega)]
        rw [if_pos h4, e]
        have q1 : c ≠ 240 := by omega
        have q2 : c ≠ 244 := by omega
        constructor
        · rintro ⟨_, k1, k2, k3, _⟩
          have k3 := k3 (by omega)
          unfold loV hiV at k2
          rw [if_neg q1, if_neg q2] at k2
          have hx : 128 ≤ r.getD 0 0 ∧ r.getD 0 0 ≤ 191 := by
            have a := k2.1; have b := k2.2
            constructor
            · split at a <;> omega
            · split at b <;> omega
          have hA : c = 224 → 160 ≤ r.getD 0 0 := fun h => by have a := k2.1; rw [if_pos h] at a; exact a
          have hB : c = 237 → r.getD 0 0 ≤ 159 := fun h => by have a := k2.2; rw [if_pos h] at a; exact a
          rw [if_pos ⟨by omega, cont_iff.2 hx, cont_iff.2 k3, by simp only [n3]; omega, by simp only [n3]; omega⟩]
          exact ⟨by simp only [n3]; omega, rfl⟩
        · intro hn
          rw [if_neg]
          · simp
          · rintro ⟨h1, h2, h3, h4, h5⟩
            have hx := cont_iff.1 h2
            have hy := cont_iff.1 h3
            simp only [n3] at h4 h5
            refine hn ⟨by omega, by omega, ?_, fun _ => hy, fun h => by omega⟩
            unfold loV hiV
            rw [if_neg q1, if_neg q2]
            constructor <;> split <;> omega
      · rw [if_neg h4]
        have q0 : c ≠ 224 := by omega
        have q1 : c ≠ 237 := by omega
        by_cases h5 : c < 248
        · rw [if_pos h5]
          by_cases h245 : c ≤ 244
          · have e : szV c = 4 := by unfold szV; rw [if_neg (by omega), if_neg (by omega), if_pos (by omega)]
            rw [e]
            constructor
            · rintro ⟨_, k1, k2, k3, k4⟩
              have k3 := k3 (by omega)
              have k4 := k4 (by omega)
              unfold loV hiV at k2
              rw [if_neg q0, if_neg q1] at k2
              have hx : 128 ≤ r.getD 0 0 ∧ r.getD 0 0 ≤ 191 := by
                have a := k2.1; have b := k2.2
                constructor
                · split at a <;> omega
                · split at b <;> omega
              have hA : c = 240 → 144 ≤ r.getD 0 0 := fun h => by have a := k2.1; rw [if_pos h] at a; exact a
              have hB : c = 244 → r.getD 0 0 ≤ 143 := fun h => by have a := k2.2; rw [if_pos h] at a; exact a
              rw [if_pos ⟨by omega, cont_iff.2 hx, cont_iff.2 k3, cont_iff.2 k4, by simp only [n4]; omega, by simp only [n4]; omega⟩]
              exact ⟨by simp only [n4]; omega, rfl⟩
            · intro hn
              rw [if_neg]
              · simp
              · rintro ⟨h1, h2, h3, h4, h5, h6⟩
                have hx := cont_iff.1 h2
                have hy := cont_iff.1 h3
                have hz := cont_iff.1 h4
                simp only [n4] at h5 h6
                refine hn ⟨by omega, by omega, ?_, fun _ => hy, fun _ => hz⟩
                unfold loV hiV
                rw [if_neg q0, if_neg q1]
                constructor <;> split <;> omega
          · have e : szV c = 1 := by unfold szV; rw [if_neg (by omega), if_neg (by omega), if_neg (by omega)]
            rw [e]
            refine ⟨fun h => absurd rfl h.1, fun _ => ?_⟩
            rw [if_neg (fun h => by
              obtain ⟨h1, h2, h3, h4, h5, h6⟩ := h
              have hx := cont_iff.1 h2
              have hy := cont_iff.1 h3
              have hz := cont_iff.1 h4
              simp only [n4] at h6
              omega)]
            simp
        · have e : szV c = 1 := by unfold szV; rw [if_neg (by omega), if_neg (by omega), if_neg (by omega)]
          rw [if_neg h5, e]
          exact ⟨fun h => absurd rfl h.1, fun _ => by simp⟩

end Go.Proofs.YthhllkiefncbnaaDoorSim
