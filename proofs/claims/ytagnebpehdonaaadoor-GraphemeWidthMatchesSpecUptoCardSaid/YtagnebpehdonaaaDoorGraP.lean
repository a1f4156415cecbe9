/- grapheme: pieces, in plain form. -/
import Derived.Test.YtagnebpehdonaaaDoorGraA
namespace Go.Proofs.YtagnebpehdonaaaDoorSim
open Go Go.Proofs
open Go.Proofs.Tryd (prog)
set_option linter.unusedVariables false
set_option linter.unusedSimpArgs false

/-- what is known of a piece: the last class, whether it was an invalid byte, the regional characters at its end -/
abbrev GS := Int × (Bool × Int)
def gs0 : GS := (0, (false, 0))
def upd (s : GS) (n : Int) : GS := (cls (fix n), (decide (n < 0), if cls (fix n) = 6 then s.2.2 + 1 else 0))
def stops (s : GS) (n : Int) : Bool := decide (n < 0) || !joinsV s.1 s.2.1 s.2.2 (cls (fix n))

/-- how much more belongs to the piece -/
def ext (s : GS) : List Int → Nat
  | [] => 0
  | c :: r => if stops s (rune1 (c :: r)).1 then 0 else (rune1 (c :: r)).2 + ext (upd s (rune1 (c :: r)).1) ((c :: r).drop (rune1 (c :: r)).2)
termination_by l => l.length
decreasing_by have := (rune1_size c r).1; simp; omega

def pieceLen : List Int → Nat
  | [] => 0
  | c :: r => (rune1 (c :: r)).2 + ext (upd gs0 (rune1 (c :: r)).1) ((c :: r).drop (rune1 (c :: r)).2)

theorem ext_nil (s : GS) : ext s [] = 0 := by rw [ext]
theorem ext_cons (s : GS) (c : Int) (r : List Int) : ext s (c :: r) = if stops s (rune1 (c :: r)).1 then 0 else (rune1 (c :: r)).2 + ext (upd s (rune1 (c :: r)).1) ((c :: r).drop (rune1 (c :: r)).2) := by rw [ext]

theorem ext_le : ∀ (k : Nat) (l : List Int) (s : GS), l.length = k → ext s l ≤ k := by
  intro k
  induction k using Nat.strongRecOn with
  | _ k ih =>
    intro l s hk
    cases l with
    | nil => rw [ext_nil]; omega
    | cons c r =>
      rw [ext_cons]
      split
      · omega
      · have hs := rune1_size c r
        simp only [List.length_cons] at hk
        have := ih ((c :: r).drop (rune1 (c :: r)).2).length (by rw [List.length_drop, List.length_cons]; omega) _ (upd s (rune1 (c :: r)).1) rfl
        rw [List.length_drop, List.length_cons] at this
        omega

theorem pieceLen_pos (c : Int) (r : List Int) : 1 ≤ pieceLen (c :: r) ∧ pieceLen (c :: r) ≤ r.length + 1 ∧ (rune1 (c :: r)).2 ≤ pieceLen (c :: r) := by
  have hs := rune1_size c r
  have := ext_le _ ((c :: r).drop (rune1 (c :: r)).2) (upd gs0 (rune1 (c :: r)).1) rfl
  rw [List.length_drop, List.length_cons] at this
  have e : pieceLen (c :: r) = (rune1 (c :: r)).2 + ext (upd gs0 (rune1 (c :: r)).1) ((c :: r).drop (rune1 (c :: r)).2) := rfl
  rw [e]
  omega

def pieces : List Int → List (List Int)
  | [] => []
  | c :: r => (c :: r).take (pieceLen (c :: r)) :: pieces ((c :: r).drop (pieceLen (c :: r)))
termination_by l => l.length
decreasing_by have := (pieceLen_pos c r).1; simp; omega

theorem pieces_nil : pieces [] = [] := by rw [pieces]
theorem pieces_cons (c : Int) (r : List Int) : pieces (c :: r) = (c :: r).take (pieceLen (c :: r)) :: pieces ((c :: r).drop (pieceLen (c :: r))) := by rw [pieces]
theorem pieces_ne (l : List Int) (h : l ≠ []) : pieces l = l.take (pieceLen l) :: pieces (l.drop (pieceLen l)) := by
  cases l with
  | nil => exact absurd rfl h
  | cons c r => exact pieces_cons c r

theorem pieces_flat : ∀ (k : Nat) (l : List Int), l.length = k → (pieces l).flatten = l ∧ (∀ p ∈ pieces l, p ≠ []) ∧ (pieces l).length ≤ k := by
  intro k
  induction k using Nat.strongRecOn with
  | _ k ih =>
    intro l hk
    cases l with
    | nil => rw [pieces_nil]; exact ⟨rfl, (fun p hp => by cases hp), by simp⟩
    | cons c r =>
      have hp := pieceLen_pos c r
      simp only [List.length_cons] at hk
      obtain ⟨h1, h2, h3⟩ := ih ((c :: r).drop (pieceLen (c :: r))).length (by rw [List.length_drop, List.length_cons]; omega) _ rfl
      rw [pieces_cons]
      refine ⟨by rw [List.flatten_cons, h1, List.take_append_drop], fun p hp' => ?_, ?_⟩
      · rw [List.mem_cons] at hp'
        rcases hp' with rfl | hp'
        · intro h
          have := congrArg List.length h
          rw [List.length_take, List.length_cons] at this
          simp at this
          omega
        · exact h2 p hp'
      · rw [List.length_cons]
        rw [List.length_drop, List.length_cons] at h3
        omega

/-- a text that is cut behind whole characters -/
theorem rune1_take (c : Int) (r : List Int) (m : Nat) (h : (rune1 (c :: r)).2 ≤ m) : rune1 ((c :: r).take m) = rune1 (c :: r) := by
  have hs := rune1_size c r
  obtain ⟨j, rfl⟩ : ∃ j, m = j + 1 := ⟨m - 1, by omega⟩
  rw [List.take_succ_cons]
  have hg : ∀ i, i < j → (r.take j).getD i 0 = r.getD i 0 := fun i hi => by
    simp [List.getD_eq_getElem?_getD, List.getElem?_take, hi]
  have hlen : (r.take j).length = min j r.length := List.length_take
  rw [rune1] at h
  rw [rune1, rune1]
  by_cases h1 : c < 128
  · rw [if_pos h1, if_pos h1]
  · rw [if_neg h1] at h ⊢
    rw [if_neg h1]
    by_cases h2 : c < 192
    · rw [if_pos h2, if_pos h2]
    · rw [if_neg h2] at h ⊢
      rw [if_neg h2]
      by_cases h3 : c < 224
      · rw [if_pos h3] at h ⊢
        rw [if_pos h3]
        by_cases hk : 1 ≤ r.length ∧ cont (r.getD 0 0) = true ∧ 128 ≤ n2 c (r.getD 0 0)
        · rw [if_pos hk] at h ⊢
          simp only at h
          have g0 := hg 0 (by omega)
          rw [g0, if_pos ⟨by omega, hk.2⟩]
        · rw [if_neg hk]
          by_cases hj : 1 ≤ (r.take j).length
          · have g0 := hg 0 (by omega)
            rw [g0, if_neg (fun q => hk ⟨by omega, q.2⟩)]
          · rw [if_neg (fun q => hj q.1)]
      · rw [if_neg h3] at h ⊢
        rw [if_neg h3]
        by_cases h4 : c < 240
        · rw [if_pos h4] at h ⊢
          rw [if_pos h4]
          by_cases hk : 2 ≤ r.length ∧ cont (r.getD 0 0) = true ∧ cont (r.getD 1 0) = true ∧ 2048 ≤ n3 c (r.getD 0 0) (r.getD 1 0) ∧ ¬ (55296 ≤ n3 c (r.getD 0 0) (r.getD 1 0) ∧ n3 c (r.getD 0 0) (r.getD 1 0) ≤ 57343)
          · rw [if_pos hk] at h ⊢
            simp only at h
            have g0 := hg 0 (by omega)
            have g1 := hg 1 (by omega)
            rw [g0, g1, if_pos ⟨by omega, hk.2⟩]
          · rw [if_neg hk]
            by_cases hj : 2 ≤ (r.take j).length
            · have g0 := hg 0 (by omega)
              have g1 := hg 1 (by omega)
              rw [g0, g1, if_neg (fun q => hk ⟨by omega, q.2⟩)]
            · rw [if_neg (fun q => hj q.1)]
        · rw [if_neg h4] at h ⊢
          rw [if_neg h4]
          by_cases h5 : c < 248
          · rw [if_pos h5] at h ⊢
            rw [if_pos h5]
            by_cases hk : 3 ≤ r.length ∧ cont (r.getD 0 0) = true ∧ cont (r.getD 1 0) = true ∧ cont (r.getD 2 0) = true ∧ 65536 ≤ n4 c (r.getD 0 0) (r.getD 1 0) (r.getD 2 0) ∧ n4 c (r.getD 0 0) (r.getD 1 0) (r.getD 2 0) ≤ 1114111
            · rw [if_pos hk] at h ⊢
              simp only at h
              have g0 := hg 0 (by omega)
              have g1 := hg 1 (by omega)
              have g2 := hg 2 (by omega)
              rw [g0, g1, g2, if_pos ⟨by omega, hk.2⟩]
            · rw [if_neg hk]
              by_cases hj : 3 ≤ (r.take j).length
              · have g0 := hg 0 (by omega)
                have g1 := hg 1 (by omega)
                have g2 := hg 2 (by omega)
                rw [g0, g1, g2, if_neg (fun q => hk ⟨by omega, q.2⟩)]
              · rw [if_neg (fun q => hj q.1)]
          · rw [if_neg h5, if_neg h5]

/-- m is 0, or behind the first character -/
def behind (m : Nat) (l : List Int) : Prop := m = 0 ∨ ∃ c r, l = c :: r ∧ (rune1 (c :: r)).2 ≤ m

theorem ext_take : ∀ (k : Nat) (l : List Int) (s : GS) (m : Nat), l.length = k → ext s l ≤ m → behind (m - ext s l) (l.drop (ext s l)) → ext s (l.take m) = ext s l := by
  intro k
  induction k using Nat.strongRecOn with
  | _ k ih =>
    intro l s m hk hm hb
    cases l with
    | nil => rw [List.take_nil]
    | cons c r =>
      have hs := rune1_size c r
      simp only [List.length_cons] at hk
      rw [ext_cons] at hm hb ⊢
      by_cases hst : stops s (rune1 (c :: r)).1 = true
      · rw [if_pos hst] at hm hb ⊢
        rw [Nat.sub_zero, List.drop_zero] at hb
        rcases hb with rfl | ⟨c', r', e, h2⟩
        · rw [List.take_zero, ext_nil]
        · simp only [List.cons.injEq] at e
          obtain ⟨rfl, rfl⟩ := e
          have ht := rune1_take c r m h2
          obtain ⟨j, rfl⟩ : ∃ j, m = j + 1 := ⟨m - 1, by omega⟩
          rw [List.take_succ_cons] at ht ⊢
          rw [ext_cons, ht, if_pos hst]
      · rw [if_neg hst] at hm hb ⊢
        have ht := rune1_take c r m (by omega)
        have hi := ih ((c :: r).drop (rune1 (c :: r)).2).length (by rw [List.length_drop, List.length_cons]; omega) ((c :: r).drop (rune1 (c :: r)).2) (upd s (rune1 (c :: r)).1) (m - (rune1 (c :: r)).2) rfl (by omega) (by
          rw [List.drop_drop]
          rw [Nat.sub_sub]
          exact hb)
        rw [← List.drop_take] at hi
        obtain ⟨j, rfl⟩ : ∃ j, m = j + 1 := ⟨m - 1, by omega⟩
        rw [List.take_succ_cons] at ht hi ⊢
        rw [ext_cons, ht, if_neg hst, hi]

theorem pieceLen_take (l : List Int) (m : Nat) (hm : pieceLen l ≤ m) (hb : behind (m - pieceLen l) (l.drop (pieceLen l))) : pieceLen (l.take m) = pieceLen l := by
  cases l with
  | nil => rw [List.take_nil]
  | cons c r =>
    have hp := pieceLen_pos c r
    have hs := rune1_size c r
    have ht := rune1_take c r m (by omega)
    have e : pieceLen (c :: r) = (rune1 (c :: r)).2 + ext (upd gs0 (rune1 (c :: r)).1) ((c :: r).drop (rune1 (c :: r)).2) := rfl
    rw [e] at hm hb ⊢
    have hi := ext_take _ ((c :: r).drop (rune1 (c :: r)).2) (upd gs0 (rune1 (c :: r)).1) (m - (rune1 (c :: r)).2) rfl (by omega) (by
      rw [List.drop_drop, Nat.sub_sub]
      exact hb)
    rw [← List.drop_take] at hi
    obtain ⟨j, rfl⟩ : ∃ j, m = j + 1 := ⟨m - 1, by omega⟩
    rw [List.take_succ_cons] at ht hi ⊢
    rw [pieceLen, ht, hi]

/-- the length of the first k pieces -/
def lenOf (k : Nat) (l : List Int) : Nat := ((pieces l).take k).flatten.length

theorem pieces_take : ∀ (k : Nat) (l : List Int), pieces (l.take (lenOf k l)) = (pieces l).take k ∧ pieces (l.drop (lenOf k l)) = (pieces l).drop k ∧ lenOf k l ≤ l.length ∧ behind (lenOf k l) l := by
  intro k
  induction k with
  | zero =>
    intro l
    have e : lenOf 0 l = 0 := by simp [lenOf]
    rw [e, List.take_zero, List.drop_zero, pieces_nil]
    exact ⟨by simp, by simp, by omega, Or.inl rfl⟩
  | succ k ih =>
    intro l
    cases l with
    | nil =>
      have e : lenOf (k + 1) [] = 0 := by simp [lenOf, pieces_nil]
      rw [e, List.take_nil, List.drop_nil, pieces_nil]
      exact ⟨by simp, by simp, by simp, Or.inl rfl⟩
    | cons c r =>
      have hp := pieceLen_pos c r
      obtain ⟨h1, h2, h3, h4⟩ := ih ((c :: r).drop (pieceLen (c :: r)))
      have e : lenOf (k + 1) (c :: r) = pieceLen (c :: r) + lenOf k ((c :: r).drop (pieceLen (c :: r))) := by
        unfold lenOf
        rw [pieces_cons, List.take_succ_cons, List.flatten_cons, List.length_append, List.length_take, List.length_cons, Nat.min_eq_left (by omega)]
      have hb : behind (lenOf (k + 1) (c :: r) - pieceLen (c :: r)) ((c :: r).drop (pieceLen (c :: r))) := by
        rw [e, Nat.add_sub_cancel_left]; exact h4
      have hl := pieceLen_take (c :: r) (lenOf (k + 1) (c :: r)) (by omega) hb
      have hne : (c :: r).take (lenOf (k + 1) (c :: r)) ≠ [] := by
        intro h
        have := congrArg List.length h
        rw [List.length_take, List.length_cons] at this
        simp at this
        omega
      rw [pieces_ne _ hne, hl, pieces_cons, List.take_succ_cons, List.drop_succ_cons]
      refine ⟨?_, ?_, ?_, Or.inr ⟨c, r, rfl, by omega⟩⟩
      · rw [List.take_take, Nat.min_eq_left (by omega), List.drop_take, e, Nat.add_sub_cancel_left, h1]
      · rw [e, ← List.drop_drop, h2]
      · rw [e]
        rw [List.length_drop, List.length_cons] at h3
        rw [List.length_cons]
        omega

theorem rune1_one (c : Int) (r : List Int) (h1 : (rune1 (c :: r)).2 = 1) (h0 : 0 ≤ (rune1 (c :: r)).1) : (rune1 (c :: r)).1 < 128 := by
  rw [rune1] at h1 h0 ⊢
  by_cases q1 : c < 128
  · rw [if_pos q1]; exact q1
  · rw [if_neg q1] at h1 h0
    exfalso
    split at h0
    · simp at h0
    · rename_i q2
      rw [if_neg q2] at h1
      split at h0
      · rename_i q3
        rw [if_pos q3] at h1
        split at h0
        · rename_i q; rw [if_pos q] at h1; simp at h1
        · simp at h0
      · rename_i q3
        rw [if_neg q3] at h1
        split at h0
        · rename_i q4
          rw [if_pos q4] at h1
          split at h0
          · rename_i q; rw [if_pos q] at h1; simp at h1
          · simp at h0
        · rename_i q4
          rw [if_neg q4] at h1
          split at h0
          · rename_i q5
            rw [if_pos q5] at h1
            split at h0
            · rename_i q; rw [if_pos q] at h1; simp at h1
            · simp at h0
          · simp at h0

theorem inv_eq (c : Int) (r : List Int) (hc : 0 ≤ c) : (fix (rune1 (c :: r)).1 == 65533 && (((rune1 (c :: r)).2 : Nat) : Int) == 1) = decide ((rune1 (c :: r)).1 < 0) := by
  by_cases h : (rune1 (c :: r)).1 < 0
  · rw [rune1_bad c r h hc]
    rfl
  · rw [decide_eq_false h]
    have hf : fix (rune1 (c :: r)).1 = (rune1 (c :: r)).1 := if_neg h
    rw [hf]
    by_cases h1 : (rune1 (c :: r)).2 = 1
    · have := rune1_one c r h1 (by omega)
      have e : ((rune1 (c :: r)).1 == 65533) = false := beq_eq_false_iff_ne.2 (by omega)
      rw [e, Bool.false_and]
    · have e : ((((rune1 (c :: r)).2 : Nat) : Int) == 1) = false := beq_eq_false_iff_ne.2 (by omega)
      rw [e, Bool.and_false]

/-- what is still to come, from within a piece -/
def rest (s : List Int) (start i : Nat) (st : GS) : List (List Int) :=
  if i = start then pieces (s.drop start) else (s.drop start).take (i - start + ext st (s.drop i)) :: pieces (s.drop (i + ext st (s.drop i)))

theorem rest_end (s : List Int) (start : Nat) (st : GS) (h : start ≤ s.length) : rest s start s.length st = if start < s.length then [s.drop start] else [] := by
  unfold rest
  have e : s.drop s.length = [] := List.drop_length
  by_cases h1 : s.length = start
  · rw [if_pos h1, if_neg (by omega), ← h1, e, pieces_nil]
  · rw [if_neg h1, if_pos (by omega), e, ext_nil, Nat.add_zero, Nat.add_zero, e, pieces_nil, List.take_of_length_le (by rw [List.length_drop]; omega)]

theorem rest_fresh (s : List Int) (i : Nat) (h : i < s.length) : pieces (s.drop i) = rest s i (i + (rune1 (s.drop i)).2) (upd gs0 (rune1 (s.drop i)).1) := by
  have hd := drop_getD s i h
  have hs := rune1_size (s.getD i 0) (s.drop (i + 1))
  have hl : pieceLen (s.drop i) = (rune1 (s.drop i)).2 + ext (upd gs0 (rune1 (s.drop i)).1) ((s.drop i).drop (rune1 (s.drop i)).2) := by rw [hd]; rfl
  rw [← hd] at hs
  unfold rest
  rw [if_neg (by omega), pieces_ne _ (by rw [hd]; simp), hl, List.drop_drop, List.drop_drop, Nat.add_sub_cancel_left, Nat.add_assoc]

theorem rest_stop (s : List Int) (start i : Nat) (st : GS) (h : i < s.length) (hlt : start < i) (hst : stops st (rune1 (s.drop i)).1 = true) : rest s start i st = (s.drop start).take (i - start) :: pieces (s.drop i) := by
  have hd := drop_getD s i h
  have he : ext st (s.drop i) = 0 := by
    rw [hd] at hst ⊢
    rw [ext_cons, if_pos hst]
  unfold rest
  rw [if_neg (by omega), he, Nat.add_zero, Nat.add_zero]

theorem rest_go (s : List Int) (start i : Nat) (st : GS) (h : i < s.length) (hlt : start < i) (hst : ¬ stops st (rune1 (s.drop i)).1 = true) : rest s start i st = rest s start (i + (rune1 (s.drop i)).2) (upd st (rune1 (s.drop i)).1) := by
  have hd := drop_getD s i h
  have he : ext st (s.drop i) = (rune1 (s.drop i)).2 + ext (upd st (rune1 (s.drop i)).1) ((s.drop i).drop (rune1 (s.drop i)).2) := by
    rw [hd] at hst ⊢
    rw [ext_cons, if_neg hst]
  unfold rest
  rw [if_neg (by omega), if_neg (by omega), he, List.drop_drop]
  have e1 : i - start + ((rune1 (s.drop i)).2 + ext (upd st (rune1 (s.drop i)).1) (s.drop (i + (rune1 (s.drop i)).2))) = i + (rune1 (s.drop i)).2 - start + ext (upd st (rune1 (s.drop i)).1) (s.drop (i + (rune1 (s.drop i)).2)) := by omega
  rw [e1, Nat.add_assoc]

end Go.Proofs.YtagnebpehdonaaaDoorSim
