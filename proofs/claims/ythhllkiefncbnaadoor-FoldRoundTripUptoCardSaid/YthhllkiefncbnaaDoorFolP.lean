/- fold: the plain words: names, blanks, breaks, lines. -/
import Derived.Test.YthhllkiefncbnaaDoorPl
namespace Go.Proofs.YthhllkiefncbnaaDoorSim
open Go
set_option linter.unusedVariables false
set_option linter.unusedSimpArgs false

def blankB (c : Int) : Bool := c == 32 || c == 9
def nameOk (s : List Int) : Bool := s.all (fun c => decide (33 ≤ c ∧ c ≤ 126) && !(c == 58)) && decide (1 ≤ s.length ∧ s.length ≤ 60)
def badB (c : Int) : Bool := c == 13 || (c == 10 || c == 0)

/-! ### Without blanks at the ends -/
def trimL : List Int → List Int
  | [] => []
  | c :: r => if blankB c then trimL r else c :: r
def trimR (s : List Int) : List Int := (trimL s.reverse).reverse
def trimB (s : List Int) : List Int := trimL (trimR s)

theorem trimL_all {s : List Int} (h : ∀ c ∈ s, blankB c = true) : trimL s = [] := by
  induction s with
  | nil => rfl
  | cons c r ih => rw [trimL, if_pos (h c (by simp))]; exact ih fun x hx => h x (by simp [hx])

theorem trimL_app (a s : List Int) (h : ∀ c ∈ a, blankB c = true) : trimL (a ++ s) = trimL s := by
  induction a with
  | nil => rfl
  | cons c r ih => rw [List.cons_append, trimL, if_pos (h c (by simp))]; exact ih fun x hx => h x (by simp [hx])

theorem trimL_non {c : Int} {r : List Int} (h : blankB c = false) : trimL (c :: r) = c :: r := by rw [trimL, if_neg (by rw [h]; simp)]

theorem trimL_split (s : List Int) : ∃ a, s = a ++ trimL s ∧ (∀ c ∈ a, blankB c = true) ∧ ∀ c r, trimL s = c :: r → blankB c = false := by
  induction s with
  | nil => exact ⟨[], rfl, by simp, fun c r h => by cases h⟩
  | cons c r ih =>
    cases hb : blankB c with
    | true =>
      obtain ⟨a, h1, h2, h3⟩ := ih
      rw [trimL, if_pos hb]
      refine ⟨c :: a, by rw [List.cons_append, ← h1], fun x hx => ?_, h3⟩
      rcases List.mem_cons.1 hx with rfl | hx
      · exact hb
      · exact h2 x hx
    | false =>
      rw [trimL_non hb]
      exact ⟨[], rfl, by simp, fun x y h => by cases h; exact hb⟩

/-- from the other end first -/
theorem trim_comm (s : List Int) : trimL (trimR s) = trimR (trimL s) := by
  obtain ⟨a, h1, h2, h3⟩ := trimL_split s
  cases hm : trimL s with
  | nil =>
    rw [hm, List.append_nil] at h1
    have : trimR s = [] := by rw [trimR, trimL_all (fun c hc => by rw [h1] at hc; exact h2 c (by simpa using hc))]; rfl
    rw [this]; rfl
  | cons c r =>
    have hc := h3 c r hm
    rw [hm] at h1
    obtain ⟨e, g1, g2, g3⟩ := trimL_split (c :: r).reverse
    have hne : trimL (c :: r).reverse ≠ [] := fun q => by
      rw [q, List.append_nil] at g1
      have : blankB c = true := g2 c (by rw [← g1]; simp)
      rw [hc] at this; cases this
    have hR : trimR s = a ++ trimR (c :: r) := by
      unfold trimR
      rw [h1, List.reverse_append]
      have : trimL ((c :: r).reverse ++ a.reverse) = trimL (c :: r).reverse ++ a.reverse := by
        rw [g1, List.append_assoc, trimL_app _ _ g2]
        cases hq : trimL (c :: r).reverse with
        | nil => exact absurd hq hne
        | cons x y =>
          have hx := g3 x y hq
          rw [List.cons_append, trimL_non hx, trimL_app _ _ g2, trimL_non hx]
          rfl
      rw [this, List.reverse_append, List.reverse_reverse]
    rw [hR, trimL_app _ _ h2]
    have hcr : c :: r = trimR (c :: r) ++ e.reverse := by
      have := congrArg List.reverse g1
      rw [List.reverse_reverse, List.reverse_append] at this
      exact this
    cases hq : trimR (c :: r) with
    | nil => exact absurd (by unfold trimR at hq; exact List.reverse_eq_nil_iff.1 hq) hne
    | cons x y =>
      rw [hq, List.cons_append] at hcr
      have : x = c := by injection hcr with q _; exact q.symm
      rw [this, trimL_non hc]

/-! ### Where a line may be broken -/
def isPt (s : List Int) (i : Nat) : Bool := blankB (s.getD i 0) && !blankB (s.getD (i - 1) 0)

/-- the best place so far, from i on, k places left -/
def scan (s : List Int) : Nat → Nat → Option Nat → Option Nat
  | 0, _, best => best
  | k + 1, i, best => scan s k (i + 1) (if isPt s i && (decide (i ≤ 78) || best.isNone) then some i else best)

def brk (s : List Int) (from_ : Nat) : Nat := if s.length ≤ 78 then s.length else (scan s (s.length - from_) from_ none).getD s.length

theorem scan_late (s : List Int) : ∀ (k i b : Nat), 78 < i → scan s k i (some b) = some b
  | 0, _, _, _ => rfl
  | k + 1, i, b, h => by
    rw [scan, if_neg (by simp; omega)]
    exact scan_late s k (i + 1) b (by omega)

theorem scan_pt (s : List Int) : ∀ (k i : Nat) (best : Option Nat) (p : Nat), scan s k i best = some p → best = some p ∨ (i ≤ p ∧ p < i + k ∧ isPt s p = true)
  | 0, _, _, _, h => .inl h
  | k + 1, i, best, p, h => by
    rw [scan] at h
    rcases scan_pt s k (i + 1) _ p h with q | ⟨q1, q2, q3⟩
    · split at q
      · rename_i hc
        cases q
        rw [Bool.and_eq_true] at hc
        exact .inr ⟨by omega, by omega, hc.1⟩
      · exact .inl q
    · exact .inr ⟨by omega, by omega, q3⟩

/-- there is no break if none is found; one beyond the place is found only if there is none up to it -/
theorem scan_none (s : List Int) : ∀ (k i : Nat), scan s k i none = none → ∀ p, i ≤ p → p < i + k → isPt s p = false
  | 0, _, _, p, h1, h2 => by omega
  | k + 1, i, h, p, h1, h2 => by
    rw [scan] at h
    cases hp : isPt s i with
    | true =>
      exfalso
      rw [hp] at h
      simp only [Option.isNone_none, Bool.or_true, Bool.and_self, if_true] at h
      have key : ∀ (k i : Nat) (b : Nat), scan s k i (some b) ≠ none := by
        intro k
        induction k with
        | zero => intro i b h; cases h
        | succ k ih =>
          intro i b
          rw [scan]
          split
          · exact ih _ _
          · exact ih _ _
      exact key k (i + 1) i h
    | false =>
      rw [hp] at h
      simp only [Bool.false_and, Bool.false_eq_true, if_false] at h
      by_cases e : p = i
      · subst e; exact hp
      · exact scan_none s k (i + 1) h p (by omega) (by omega)

theorem scan_short (s : List Int) : ∀ (k i : Nat) (best : Option Nat), (∀ b, best = some b → b ≤ 78) → ∀ p, scan s k i best = some p → 78 < p → best = none ∧ ∀ q, i ≤ q → q < p → isPt s q = false
  | 0, _, _, hb, p, h, hp => by
    have := hb p h; omega
  | k + 1, i, best, hb, p, h, hp => by
    rw [scan] at h
    by_cases hc : (isPt s i && (decide (i ≤ 78) || best.isNone)) = true
    · rw [if_pos hc] at h
      rw [Bool.and_eq_true, Bool.or_eq_true, decide_eq_true_eq] at hc
      by_cases hi : i ≤ 78
      · have := scan_short s k (i + 1) (some i) (fun b e => by cases e; exact hi) p h hp
        exact absurd this.1 (by simp)
      · have hn : best = none := by
          rcases hc.2 with q | q
          · omega
          · cases best with
            | none => rfl
            | some b => cases q
        rw [scan_late s k (i + 1) i (by omega)] at h
        cases h
        exact ⟨hn, fun q h1 h2 => by omega⟩
    · rw [if_neg hc] at h
      obtain ⟨h1, h2⟩ := scan_short s k (i + 1) best hb p h hp
      refine ⟨h1, fun q q1 q2 => ?_⟩
      by_cases e : q = i
      · subst e
        rw [h1] at hc
        simpa using hc
      · exact h2 q (by omega) q2

theorem brk_pos (s : List Int) (from_ : Nat) (h1 : 1 ≤ from_) (h0 : s ≠ []) : 1 ≤ brk s from_ ∧ brk s from_ ≤ s.length := by
  have hl : 1 ≤ s.length := by cases s with
    | nil => exact absurd rfl h0
    | cons c r => simp
  unfold brk
  split
  · omega
  · cases hs : scan s (s.length - from_) from_ none with
    | none => simp; omega
    | some p =>
      rcases scan_pt s _ _ _ p hs with q | ⟨q1, q2, _⟩
      · cases q
      · simp; omega

/-- the lines of a text, n of them at most -/
def linesF : Nat → List Int → Nat → List (List Int)
  | 0, _, _ => []
  | n + 1, s, from_ => if s = [] then [] else s.take (brk s from_) :: linesF n (s.drop (brk s from_)) 1

def linesL (name value : List Int) : List (List Int) := linesF (name.length + 2 + value.length) (name ++ ([58, 32] ++ value)) (name.length + 3)

theorem linesF_stop : ∀ (n : Nat) (s : List Int) (f : Nat), 1 ≤ f → s.length ≤ n → linesF (n + 1) s f = linesF n s f
  | 0, s, f, h1, h => by
    have : s = [] := List.eq_nil_of_length_eq_zero (by omega)
    subst this; rfl
  | n + 1, s, f, h1, h => by
    rw [show linesF (n + 1 + 1) s f = if s = [] then [] else s.take (brk s f) :: linesF (n + 1) (s.drop (brk s f)) 1 from rfl, show linesF (n + 1) s f = if s = [] then [] else s.take (brk s f) :: linesF n (s.drop (brk s f)) 1 from rfl]
    by_cases h0 : s = []
    · rw [if_pos h0, if_pos h0]
    · rw [if_neg h0, if_neg h0]
      have := brk_pos s f h1 h0
      rw [linesF_stop n _ 1 (by omega) (by rw [List.length_drop]; omega)]

theorem linesF_more (s : List Int) (f : Nat) (h1 : 1 ≤ f) : ∀ (k n : Nat), s.length ≤ n → linesF (n + k) s f = linesF n s f
  | 0, n, _ => rfl
  | k + 1, n, h => by rw [← Nat.add_assoc, linesF_stop (n + k) s f h1 (by omega), linesF_more s f h1 k n h]

theorem linesF_flat : ∀ (n : Nat) (s : List Int) (f : Nat), 1 ≤ f → s.length ≤ n → (linesF n s f).flatten = s
  | 0, s, f, h1, h => by
    have : s = [] := List.eq_nil_of_length_eq_zero (by omega)
    subst this; rfl
  | n + 1, s, f, h1, h => by
    rw [linesF]
    by_cases h0 : s = []
    · rw [if_pos h0, h0]; rfl
    · rw [if_neg h0]
      have := brk_pos s f h1 h0
      rw [List.flatten_cons, linesF_flat n _ 1 (by omega) (by rw [List.length_drop]; omega), List.take_append_drop]

theorem linesF_len : ∀ (n : Nat) (s : List Int) (f : Nat), (linesF n s f).length ≤ n
  | 0, s, f => by simp [linesF]
  | n + 1, s, f => by
    rw [linesF]
    split
    · simp
    · have := linesF_len n (s.drop (brk s f)) 1
      simp; omega

end Go.Proofs.YthhllkiefncbnaaDoorSim
