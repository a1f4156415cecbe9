/- quoted: what is encoded is decoded again. -/
import Derived.Test.YtldlfkgbfaneaaaDoorQuoQ2
namespace Go.Proofs.YtldlfkgbfaneaaaDoorSim
open Go Go.Proofs
open Go.Proofs.Tryd (prog)
set_option linter.unusedVariables false
set_option linter.unusedSimpArgs false

theorem hexv_dg {c : Int} (hc : 0 ≤ c ∧ c ≤ 255) : (0 ≤ hexv (dg (c / 16)) ∧ 0 ≤ hexv (dg (c % 16))) ∧ (16 * hexv (dg (c / 16)) + hexv (dg (c % 16)) = c ∧ (32 < dg (c / 16) ∧ dg (c / 16) < 127) ∧ (32 < dg (c % 16) ∧ dg (c % 16) < 127) ∧ dg (c % 16) ≠ 61) :=
  byte_cases (p := fun c => (0 ≤ hexv (dg (c / 16)) ∧ 0 ≤ hexv (dg (c % 16))) ∧ (16 * hexv (dg (c / 16)) + hexv (dg (c % 16)) = c ∧ (32 < dg (c / 16) ∧ dg (c / 16) < 127) ∧ (32 < dg (c % 16) ∧ dg (c % 16) < 127) ∧ dg (c % 16) ≠ 61)) (by decide +kernel) hc

/-- one token decoded, whatever follows -/
theorem tok_dec {c : Int} (hc : 0 ≤ c ∧ c ≤ 255) (r s : List Int) : decL (tok c r ++ s) = c :: decL s := by
  unfold tok
  split
  · rename_i h
    have h61 : c ≠ 61 := by
      rcases h with h | h
      · exact h.2.2
      · intro e; rw [e] at h; simp [blank] at h
    rw [List.singleton_append, decL, if_neg]
    simp [hx, h61]
  · obtain ⟨⟨a1, a2⟩, a3, _⟩ := hexv_dg hc
    show decL (61 :: (two c ++ s)) = _
    unfold two
    rw [decL, if_pos]
    · show (16 * hexv (dg (c / 16)) + hexv (dg (c % 16))) :: decL s = _
      rw [a3]
    · simp [hx, a1, a2]

/-- the characters of a token -/
theorem tok_ch {c : Int} (hc : 0 ≤ c ∧ c ≤ 255) (r : List Int) : ∀ x ∈ tok c r, (32 ≤ x ∧ x ≤ 126) ∨ x = 9 := by
  unfold tok
  split
  · rename_i h
    intro x hx
    rw [List.mem_singleton] at hx
    subst hx
    rcases h with h | h
    · omega
    · have := h.1; simp [blank] at this; omega
  · obtain ⟨_, _, a4, a5, _⟩ := hexv_dg hc
    intro x hx
    unfold two at hx
    simp at hx
    omega

/-- its last -/
theorem tok_last {c : Int} (hc : 0 ≤ c ∧ c ≤ 255) (r : List Int) : ∃ q x, tok c r = q ++ [x] ∧ x ≠ 61 ∧ (lineEnd r = true → blank x = false) := by
  unfold tok
  split
  · rename_i h
    refine ⟨[], c, rfl, ?_, ?_⟩
    · rcases h with h | h
      · exact h.2.2
      · intro e; rw [e] at h; simp [blank] at h
    · intro hl
      rcases h with h | h
      · simp [blank]; omega
      · rw [h.2] at hl; cases hl
  · obtain ⟨_, _, a4, a5, a6⟩ := hexv_dg hc
    refine ⟨[61, dg (c / 16)], dg (c % 16), rfl, a6, ?_⟩
    intro _
    simp [blank]; omega

/-- a line's beginning and what it stands for -/
structure Pre (p v : List Int) : Prop where
  dec : ∀ s, decL (p ++ s) = v ++ decL s
  ch : ∀ x ∈ p, (32 ≤ x ∧ x ≤ 126) ∨ x = 9
  last : p = [] ∨ ∃ q x, p = q ++ [x] ∧ x ≠ 61

theorem Pre.nil : Pre [] [] := ⟨fun s => rfl, by simp, Or.inl rfl⟩

theorem Pre.tok {p v : List Int} (h : Pre p v) {c : Int} (hc : 0 ≤ c ∧ c ≤ 255) (r : List Int) : Pre (p ++ tok c r) (v ++ [c]) := by
  refine ⟨fun s => ?_, ?_, Or.inr ?_⟩
  · rw [List.append_assoc, h.dec, tok_dec hc, List.append_assoc, List.singleton_append]
  · intro x hx
    rw [List.mem_append] at hx
    exact hx.elim (h.ch x) (tok_ch hc r x)
  · obtain ⟨q, x, e, h1, _⟩ := tok_last hc r
    exact ⟨p ++ q, x, by rw [e, List.append_assoc], h1⟩

theorem Pre.lf {p v : List Int} (h : Pre p v) : ∀ x ∈ p, x ≠ 10 := fun x hx => by have := h.ch x hx; omega

/-- its last is no blank -/
def NB (p : List Int) : Prop := p = [] ∨ ∃ q x, p = q ++ [x] ∧ blank x = false

theorem NB.tl {p : List Int} (h : NB p) : tl p = p.length := by
  rcases h with h | ⟨q, x, h, hx⟩
  · subst h; rfl
  · subst h
    rw [tl_snoc, hx]
    simp

theorem Pre.softEnd {p v : List Int} (h : Pre p v) : softEnd p = false := by
  unfold YtldlfkgbfaneaaaDoorSim.softEnd
  rcases h.last with h | ⟨q, x, h, hx⟩
  · subst h; rfl
  · subst h
    simp [List.getD_eq_getElem?_getD, hx]

theorem lfLen_app : ∀ (l r : List Int), (∀ x ∈ l, x ≠ 10) → lfLen (l ++ 10 :: r) = l.length
  | [], r, _ => by simp [lfLen]
  | c :: l, r, h => by
    rw [List.cons_append, lfLen, if_neg (h c (by simp)), lfLen_app l r (fun x hx => h x (by simp [hx]))]
    rfl

theorem lfLen_all : ∀ (l : List Int), (∀ x ∈ l, x ≠ 10) → lfLen l = l.length
  | [], _ => by simp [lfLen]
  | c :: l, h => by
    rw [lfLen, if_neg (h c (by simp)), lfLen_all l (fun x hx => h x (by simp [hx]))]
    rfl

theorem loose_cons (c : Int) (r : List Int) : loose (c :: r) = piece (c :: r) ++ loose ((c :: r).drop (lfLen (c :: r) + 1)) := by rw [loose]

theorem loose_ne (l : List Int) (h : l ≠ []) : loose l = piece l ++ loose (l.drop (lfLen l + 1)) := by
  cases l with
  | nil => exact absurd rfl h
  | cons c r => exact loose_cons c r

theorem loose_line (l r : List Int) (h : ∀ x ∈ l, x ≠ 10) : loose (l ++ 10 :: r) = pieceOf true l ++ loose r := by
  rw [loose_ne _ (by simp), piece, lfLen_app l r h]
  have e1 : decide (l.length < (l ++ 10 :: r).length) = true := by simp
  have e2 : (l ++ 10 :: r).drop (l.length + 1) = r := by
    rw [List.drop_append, List.drop_eq_nil_of_le (by omega)]
    simp
  rw [e1, e2, List.take_left]

theorem loose_last (l : List Int) (h : ∀ x ∈ l, x ≠ 10) : loose l = pieceOf false l := by
  cases hl : l with
  | nil => simp [loose, pieceOf, bare, tl, softCut, softEnd, decL]
  | cons c r =>
    rw [← hl, loose_ne l (by rw [hl]; simp), piece, lfLen_all l h, List.take_length, List.drop_eq_nil_of_le (by omega)]
    simp [loose]

theorem crEnd_snoc (p : List Int) : crEnd (p ++ [13]) = true := by
  simp [crEnd, List.getD_eq_getElem?_getD]

theorem bare_cr (p : List Int) : bare true (p ++ [13]) = p ∧ lend true (p ++ [13]) = [13, 10] := by
  unfold bare lend
  rw [crEnd_snoc]
  simp

theorem pieceOf_hard {p v : List Int} (h : Pre p v) (hb : NB p) : pieceOf true (p ++ [13]) = v ++ [13, 10] := by
  unfold pieceOf
  rw [(bare_cr p).1, (bare_cr p).2, hb.tl, List.take_length, h.softEnd, softCut, h.softEnd]
  have := h.dec []
  rw [List.append_nil] at this
  simp [this, decL]

theorem pieceOf_last {p v : List Int} (h : Pre p v) (hb : NB p) : pieceOf false p = v := by
  unfold pieceOf
  have e : bare false p = p := by simp [bare]
  rw [e, hb.tl, List.take_length, softCut, h.softEnd]
  have := h.dec []
  rw [List.append_nil] at this
  simp [this, decL]

theorem pieceOf_soft {p v : List Int} (h : Pre p v) : pieceOf true (p ++ [61] ++ [13]) = v := by
  unfold pieceOf
  rw [(bare_cr (p ++ [61])).1, (bare_cr (p ++ [61])).2]
  have hb : NB (p ++ [61]) := Or.inr ⟨p, 61, rfl, rfl⟩
  rw [hb.tl, List.take_length]
  have hs : YtldlfkgbfaneaaaDoorSim.softEnd (p ++ [61]) = true := by
    simp [YtldlfkgbfaneaaaDoorSim.softEnd, List.getD_eq_getElem?_getD]
  rw [softCut, hs]
  have := h.dec []
  rw [List.append_nil] at this
  simp [this, decL]

theorem loose_enc : ∀ (n : Nat) (b : List Int), b.length = n → Bytes b → ∀ (col : Nat) (p v : List Int), Pre p v → (lineEnd b = true → NB p) → loose (p ++ encL col b) = v ++ b := by
  intro n
  induction n using Nat.strongRecOn with
  | _ n ih =>
    intro b hn hB col p v hp hnb
    cases b with
    | nil =>
      rw [encL, List.append_nil, List.append_nil, loose_last p hp.lf, pieceOf_last hp (hnb rfl)]
    | cons c r =>
      rw [encL]
      simp only [List.length_cons] at hn
      have hc : 0 ≤ c ∧ c ≤ 255 := hB c (by simp)
      have hBr : Bytes r := fun x hx => hB x (by simp [hx])
      obtain ⟨q, x, e, h1, h2⟩ := tok_last hc r
      by_cases hcr : crlf (c :: r) = true
      · rw [if_pos hcr]
        have hnb' := hnb (by rw [lineEnd_cons]; exact hcr)
        cases r with
        | nil => simp [crlf] at hcr
        | cons d r =>
          simp [crlf] at hcr
          obtain ⟨e1, e2⟩ := hcr
          subst e1 e2
          have hB2 : Bytes r := fun x hx => hBr x (by simp [hx])
          have := ih r.length (by simp at hn; omega) r rfl hB2 0 [] [] Pre.nil (fun _ => Or.inl rfl)
          rw [List.nil_append] at this
          show loose (p ++ 13 :: 10 :: encL 0 r) = _
          have e3 : p ++ 13 :: 10 :: encL 0 r = (p ++ [13]) ++ 10 :: encL 0 r := by simp
          rw [e3, loose_line, pieceOf_hard hp hnb', this]
          · simp
          · intro y hy
            rw [List.mem_append, List.mem_singleton] at hy
            rcases hy with hy | hy
            · exact hp.lf y hy
            · omega
      · rw [if_neg hcr]
        split
        · have hq : Pre (tok c r) [c] := by
            have := Pre.nil.tok hc r
            rwa [List.nil_append, List.nil_append] at this
          have := ih r.length (by omega) r rfl hBr (tok c r).length (tok c r) [c] hq (fun hl => Or.inr ⟨q, x, e, h2 hl⟩)
          have e3 : p ++ ([61, 13, 10] ++ (tok c r ++ encL (tok c r).length r)) = (p ++ [61] ++ [13]) ++ 10 :: (tok c r ++ encL (tok c r).length r) := by simp
          rw [e3, loose_line, pieceOf_soft hp, this]
          · simp
          · intro y hy
            rw [List.mem_append, List.mem_append, List.mem_singleton, List.mem_singleton] at hy
            rcases hy with (hy | hy) | hy
            · exact hp.lf y hy
            · omega
            · omega
        · have := ih r.length (by omega) r rfl hBr (col + (tok c r).length) (p ++ tok c r) (v ++ [c]) (hp.tok hc r) (fun hl => Or.inr ⟨p ++ q, x, by rw [e, List.append_assoc], h2 hl⟩)
          rw [List.append_assoc, List.append_assoc] at this
          exact this

theorem loose_encL (b : List Int) (hB : Bytes b) : loose (encL 0 b) = b := by
  have := loose_enc _ b rfl hB 0 [] [] Pre.nil (fun _ => Or.inl rfl)
  simpa using this

/-! ### bytes -/

theorem tok_bytes {c : Int} (hc : 0 ≤ c ∧ c ≤ 255) (r : List Int) : Bytes (tok c r) := fun x hx => by
  have := tok_ch hc r x hx
  omega

theorem encL_bytes : ∀ (n : Nat) (b : List Int), b.length = n → Bytes b → ∀ col, Bytes (encL col b) := by
  intro n
  induction n using Nat.strongRecOn with
  | _ n ih =>
    intro b hn hB col
    cases b with
    | nil => rw [encL]; intro x hx; cases hx
    | cons c r =>
      rw [encL]
      simp only [List.length_cons] at hn
      have hc : 0 ≤ c ∧ c ≤ 255 := hB c (by simp)
      have hBr : Bytes r := fun x hx => hB x (by simp [hx])
      have ht := tok_bytes hc r
      split
      · intro x hx
        simp only [List.mem_cons] at hx
        rcases hx with h | h | h
        · omega
        · omega
        · exact ih (r.drop 1).length (by simp; omega) (r.drop 1) rfl (hBr.drop 1) 0 x h
      · split
        · intro x hx
          simp only [List.mem_append, List.mem_cons, List.not_mem_nil, or_false] at hx
          rcases hx with h | h | h
          · omega
          · exact ht x h
          · exact ih r.length (by omega) r rfl hBr _ x h
        · intro x hx
          simp only [List.mem_append] at hx
          rcases hx with h | h
          · exact ht x h
          · exact ih r.length (by omega) r rfl hBr _ x h

theorem decL_bytes : ∀ (n : Nat) (l : List Int), l.length = n → Bytes l → Bytes (decL l) := by
  intro n
  induction n using Nat.strongRecOn with
  | _ n ih =>
    intro l hn hB
    cases l with
    | nil => rw [decL]; intro x hx; cases hx
    | cons c r =>
      rw [decL]
      simp only [List.length_cons] at hn
      have hBr : Bytes r := fun x hx => hB x (by simp [hx])
      split
      · rename_i h
        simp only [hx, Bool.and_eq_true, decide_eq_true_eq] at h
        obtain ⟨_, _, h3, h4⟩ := h
        have g3 := hexv_ge (r.getD 0 0)
        have g4 := hexv_ge (r.getD 1 0)
        have h3' : 0 ≤ hexv (r.getD 0 0) := h3
        have h4' : 0 ≤ hexv (r.getD 1 0) := h4
        intro x hx
        rw [List.mem_cons] at hx
        rcases hx with h | h
        · omega
        · exact ih (r.drop 2).length (by simp; omega) (r.drop 2) rfl (hBr.drop 2) x h
      · intro x hx
        rw [List.mem_cons] at hx
        rcases hx with h | h
        · exact hB x (by simp [h])
        · exact ih r.length (by omega) r rfl hBr x h

theorem pieceOf_bytes (f : Bool) (l : List Int) (hB : Bytes l) : Bytes (pieceOf f l) := by
  unfold pieceOf
  have h1 : Bytes (bare f l) := by unfold bare; split; exact hB.take _; exact hB
  have h2 := h1.take (tl (bare f l))
  have h3 : Bytes (softCut ((bare f l).take (tl (bare f l)))) := by unfold softCut; split; exact h2.take _; exact h2
  have h4 := decL_bytes _ _ rfl h3
  intro x hx
  rw [List.mem_append] at hx
  rcases hx with h | h
  · exact h4 x h
  · split at h
    · unfold lend at h
      split at h
      · simp at h; omega
      · simp at h; omega
    · cases h

theorem loose_bytes : ∀ (n : Nat) (b : List Int), b.length = n → Bytes b → Bytes (loose b) := by
  intro n
  induction n using Nat.strongRecOn with
  | _ n ih =>
    intro b hn hB
    cases b with
    | nil => rw [loose]; intro x hx; cases hx
    | cons c r =>
      rw [loose]
      intro x hx
      rw [List.mem_append] at hx
      rcases hx with h | h
      · exact pieceOf_bytes _ _ (hB.take _) x h
      · exact ih _ (by rw [← hn, List.length_drop]; simp; omega) _ rfl (hB.drop _) x h

/-! ### the lines -/

/-- the law's loop -/
def linesOk (col : Nat) (p : Int) : List Int → Bool
  | [] => !(decide (col > 76) || (decide (col > 0) && blank p))
  | c :: r => if crlf (c :: r) then !(decide (col > 76) || (decide (col > 0) && blank p)) && linesOk 0 10 (r.drop 1) else (decide (32 ≤ c ∧ c ≤ 126) || c == 9) && linesOk (col + 1) c r
termination_by l => l.length
decreasing_by all_goals simp; try omega

theorem linesOk_app : ∀ (t : List Int) (col : Nat) (p x : Int) (s : List Int), (∀ y ∈ t ++ [x], (32 ≤ y ∧ y ≤ 126) ∨ y = 9) → linesOk col p (t ++ [x] ++ s) = linesOk (col + (t ++ [x]).length) x s
  | [], col, p, x, s, h => by
    have hx := h x (by simp)
    have hn : crlf (x :: s) = false := by
      have : x ≠ 13 := by omega
      simp [crlf, this]
    rw [List.nil_append, List.singleton_append, linesOk, hn]
    have : (decide (32 ≤ x ∧ x ≤ 126) || x == 9) = true := by simpa using hx
    rw [this]
    simp only [Bool.false_eq_true, if_false, Bool.true_and, List.nil_append, List.length_cons, List.length_nil, Nat.zero_add]
  | y :: t, col, p, x, s, h => by
    have hx := h y (by simp)
    have hn : crlf (y :: (t ++ [x] ++ s)) = false := by
      have : y ≠ 13 := by omega
      simp [crlf, this]
    have : (decide (32 ≤ y ∧ y ≤ 126) || y == 9) = true := by simpa using hx
    rw [List.cons_append, List.cons_append, linesOk, hn, this]
    simp only [Bool.false_eq_true, if_false, Bool.true_and]
    rw [linesOk_app t (col + 1) y x s (fun z hz => h z (by rw [List.cons_append, List.mem_cons]; exact Or.inr hz))]
    congr 1
    simp only [List.length_cons]
    omega

theorem linesOk_enc : ∀ (n : Nat) (b : List Int), b.length = n → Bytes b → ∀ (col : Nat) (p : Int), (lineEnd b = true → col = 0 ∨ blank p = false) → (col ≤ 75 ∨ (lineEnd b = true ∧ col ≤ 76)) → linesOk col p (encL col b) = true := by
  intro n
  induction n using Nat.strongRecOn with
  | _ n ih =>
    intro b hn hB col p hbl hcol
    cases b with
    | nil =>
      have := hbl rfl
      rw [encL, linesOk]
      have h1 : ¬ col > 76 := by omega
      rcases this with h | h
      · simp [h]
      · simp [h]; omega
    | cons c r =>
      rw [encL]
      simp only [List.length_cons] at hn
      have hc : 0 ≤ c ∧ c ≤ 255 := hB c (by simp)
      have hBr : Bytes r := fun x hx => hB x (by simp [hx])
      obtain ⟨q, x, e, h1, h2⟩ := tok_last hc r
      have hch := tok_ch hc r
      have htl := tok_len c r
      rw [lineEnd_cons] at hbl hcol
      by_cases hcr : crlf (c :: r) = true
      · rw [if_pos hcr]
        have := hbl hcr
        have hi := ih (r.drop 1).length (by simp; omega) (r.drop 1) rfl (hBr.drop 1) 0 10 (fun _ => Or.inl rfl) (Or.inl (by omega))
        rw [linesOk]
        have hn : crlf (13 :: 10 :: encL 0 (r.drop 1)) = true := rfl
        rw [hn, if_pos rfl, List.drop_one, List.tail_cons, hi]
        rcases this with h | h
        · simp [h]
        · simp [h]; omega
      · rw [if_neg hcr]
        have hcol75 : col ≤ 75 := by
          rcases hcol with h | h
          · exact h
          · exact absurd h.1 hcr
        split
        · rw [List.cons_append, List.cons_append, List.cons_append, List.nil_append, linesOk]
          have hn : crlf (61 :: 13 :: 10 :: (tok c r ++ encL (tok c r).length r)) = false := rfl
          rw [hn, if_neg (by simp), linesOk]
          have hn : crlf (13 :: 10 :: (tok c r ++ encL (tok c r).length r)) = true := rfl
          rw [hn, if_pos rfl, List.drop_one, List.tail_cons]
          have hi := ih r.length (by omega) r rfl hBr (tok c r).length x (fun hl => Or.inr (h2 hl)) (Or.inl (by omega))
          have ha := linesOk_app q 0 10 x (encL (tok c r).length r) (by rw [← e]; exact hch)
          rw [← e, Nat.zero_add] at ha
          rw [ha, hi]
          have : ¬ col + 1 > 76 := by omega
          simp [blank]
          omega
        · rename_i hroom
          have hr := room_ge r
          have hi := ih r.length (by omega) r rfl hBr (col + (tok c r).length) x (fun hl => Or.inr (h2 hl)) (by
            unfold room at hroom
            split at hroom
            · rename_i hl; exact Or.inr ⟨hl, by omega⟩
            · exact Or.inl (by omega))
          have ha := linesOk_app q col p x (encL (col + (tok c r).length) r) (by rw [← e]; exact hch)
          rw [← e] at ha
          rw [ha, hi]

theorem linesOk_encL (b : List Int) (hB : Bytes b) : linesOk 0 0 (encL 0 b) = true :=
  linesOk_enc _ b rfl hB 0 0 (fun _ => Or.inl rfl) (Or.inl (by omega))

end Go.Proofs.YtldlfkgbfaneaaaDoorSim
