/- quoted: the encoding. -/
import Derived.Test.YtldlfkgbfaneaaaDoorQuo
namespace Go.Proofs.YtldlfkgbfaneaaaDoorSim
open Go Go.Proofs
open Go.Proofs.Tryd (prog)
set_option linter.unusedVariables false
set_option linter.unusedSimpArgs false

def room (r : List Int) : Nat := if lineEnd r then 76 else 75

/-- The encoding from a column on. -/
def encL (col : Nat) : List Int → List Int
  | [] => []
  | c :: r =>
    if crlf (c :: r) then 13 :: 10 :: encL 0 (r.drop 1)
    else if col + (tok c r).length > room r then [61, 13, 10] ++ (tok c r ++ encL (tok c r).length r)
    else tok c r ++ encL (col + (tok c r).length) r
termination_by b => b.length
decreasing_by all_goals simp; try omega

theorem tok_len (c : Int) (r : List Int) : (tok c r).length ≤ 3 ∧ 1 ≤ (tok c r).length := by
  unfold tok
  split <;> simp [two]

theorem room_ge (r : List Int) : 75 ≤ room r ∧ room r ≤ 76 := by
  unfold room
  split <;> simp

theorem encL_len : ∀ (n : Nat) (b : List Int) (col : Nat), b.length = n → 3 * (encL col b).length ≤ 12 * n + col := by
  intro n
  induction n using Nat.strongRecOn with
  | _ n ih =>
    intro b col hn
    cases b with
    | nil => simp [encL]
    | cons c r =>
      rw [encL]
      simp only [List.length_cons] at hn
      have ht := tok_len c r
      have hr := room_ge r
      split
      · have := ih (r.drop 1).length (by simp; omega) (r.drop 1) 0 rfl
        simp only [List.length_cons, List.length_drop] at this ⊢
        omega
      · split
        · have := ih r.length (by omega) r (tok c r).length rfl
          simp only [List.length_append, List.length_cons, List.length_nil] at this ⊢
          omega
        · have := ih r.length (by omega) r (col + (tok c r).length) rfl
          simp only [List.length_append] at this ⊢
          omega

theorem lineEnd_cons (c : Int) (r : List Int) : lineEnd (c :: r) = crlf (c :: r) := by simp [lineEnd]

theorem C3_spec (b out t : List Int) (col i : Int) (h0 : 0 ≤ i) (h1 : i < b.length) (hb : b.length ≤ 2000000) :
    quoted_Bytes_C3 (pcL prog cfg) lpL ((b, out, col, i, t, 76, ()), ()) = some ((b, out, col, i, t, (room (b.drop (i.toNat + 1)) : Int), ()), ()) := by
  unfold quoted_Bytes_C3
  dsimp only
  have e1 : (i + 1).toNat = i.toNat + 1 := by omega
  have hs := atLineEnd_spec b (i + 1) (by omega) (by omega) hb
  rw [wrap64 (by omega) (by omega), hs, e1]
  simp only [bnd_s, ifd_eq, room]
  cases lineEnd (b.drop (i.toNat + 1)) <;> simp [wrap64]

theorem L5_spec (b : List Int) (hB : Bytes b) (hb : b.length ≤ 2000000) : ∀ (k : Nat) (out : List Int) (col : Nat) (i : Int), 0 ≤ i → i ≤ b.length → b.length - i.toNat = k → col ≤ 76 → out.length + (encL col (b.drop i.toNat)).length ≤ 1000000000 →
    quoted_Bytes_L5 (pcL prog cfg) lpL ((b, out, (col : Int), i, ()), ()) = some ((out ++ encL col (b.drop i.toNat), ()), ()) := by
  intro k
  induction k using Nat.strongRecOn with
  | _ k ih =>
    intro out col i h0 h1 hk hcol hlen
    refine quoted_Bytes_L5_of ?_
    unfold quoted_Bytes_L5_R
    dsimp only
    by_cases hlt : i < b.length
    · refine (ifd_t (by simp only [decide_eq_true_eq]; exact hlt)).trans ?_
      refine bnd2 (atLineEnd_spec b i h0 h1 hb) rfl ?_
      have hd : b.drop i.toNat = b.getD i.toNat 0 :: b.drop (i.toNat + 1) := drop_getD _ _ (by omega)
      have hdl : (b.drop (i.toNat + 1)).length = b.length - (i.toNat + 1) := List.length_drop
      rw [hd] at hlen ⊢
      rw [encL] at hlen ⊢
      rw [lineEnd_cons]
      have ht := tok_len (b.getD i.toNat 0) (b.drop (i.toNat + 1))
      have hr := room_ge (b.drop (i.toNat + 1))
      by_cases hcr : crlf (b.getD i.toNat 0 :: b.drop (i.toNat + 1)) = true
      · rw [if_pos hcr] at hlen ⊢
        have hr1 : 1 ≤ (b.drop (i.toNat + 1)).length := by
          by_cases h : (b.drop (i.toNat + 1)).length = 0
          · rw [List.length_eq_zero_iff] at h
            rw [h] at hcr
            simp [crlf] at hcr
          · omega
        refine (ifd_t hcr).trans ?_
        simp only [List.length_cons, List.drop_drop] at hlen ⊢
        refine (ifd_t (by simp only [decide_eq_true_eq]; simp; omega)).trans ?_
        rw [wrap64 (by omega) (by omega)]
        have e2 : (i + 2).toNat = i.toNat + 1 + 1 := by omega
        have := ih (b.length - (i + 2).toNat) (by omega) (out ++ [13, 10]) 0 (i + 2) (by omega) (by omega) rfl (by omega) (by rw [e2]; simp; omega)
        rw [e2] at this
        refine this.trans ?_
        simp
      · rw [if_neg hcr] at hlen ⊢
        refine (ifd_f hcr).trans ?_
        refine bnd2 (token_spec b i h0 hlt hB hb) rfl ?_
        refine bnd1 (C3_spec b out _ col i h0 hlt hb) ?_
        dsimp only
        generalize tok (b.getD i.toNat 0) (b.drop (i.toNat + 1)) = t at ht hlen ⊢
        have e2 : (i + 1).toNat = i.toNat + 1 := by omega
        by_cases hbr : col + t.length > room (b.drop (i.toNat + 1))
        · rw [if_pos hbr] at hlen ⊢
          simp only [List.length_append, List.length_cons, List.length_nil] at hlen
          refine bnd1 (v := ((b, out ++ [61, 13, 10], 0, i, t, ()), ())) ?_ ?_
          · unfold quoted_Bytes_C4
            dsimp only
            refine (ifd_t (by simp only [decide_eq_true_eq]; rw [wrap64 (by omega) (by omega)]; omega)).trans ?_
            exact ifd_t (by simp only [decide_eq_true_eq]; simp; omega)
          · dsimp only
            refine (ifd_t (by simp only [decide_eq_true_eq]; simp; omega)).trans ?_
            rw [wrap64 (x := 0 + _) (by omega) (by omega), wrap64 (by omega) (by omega), Int.zero_add]
            have := ih (b.length - (i + 1).toNat) (by omega) (out ++ [61, 13, 10] ++ t) t.length (i + 1) (by omega) (by omega) rfl (by omega) (by rw [e2]; simp; omega)
            rw [e2] at this
            refine this.trans ?_
            simp
        · rw [if_neg hbr] at hlen ⊢
          simp only [List.length_append] at hlen
          refine bnd1 (v := ((b, out, (col : Int), i, t, ()), ())) ?_ ?_
          · unfold quoted_Bytes_C4
            dsimp only
            exact ifd_f (by simp only [decide_eq_true_eq]; rw [wrap64 (by omega) (by omega)]; omega)
          · dsimp only
            refine (ifd_t (by simp only [decide_eq_true_eq]; simp; omega)).trans ?_
            rw [wrap64 (by omega) (by omega), wrap64 (by omega) (by omega)]
            have := ih (b.length - (i + 1).toNat) (by omega) (out ++ t) (col + t.length) (i + 1) (by omega) (by omega) rfl (by omega) (by rw [e2]; simp; omega)
            rw [e2] at this
            refine Eq.trans ?_ (this.trans ?_)
            · simp
            · simp
    · refine (ifd_f (by simp only [decide_eq_true_eq]; exact hlt)).trans ?_
      rw [List.drop_eq_nil_of_le (by omega), encL]
      simp

theorem qBytes_spec (b : List Int) (hB : Bytes b) (hb : b.length ≤ 2000000) : quoted_Bytes_c (pcL prog cfg) b = some (encL 0 b) := by
  refine quoted_Bytes_of ?_
  unfold quoted_Bytes_B
  have hl := encL_len _ b 0 rfl
  refine bnd1 (L5_spec b hB hb _ [] 0 0 (by omega) (by omega) rfl (by omega) ?_) ?_
  · simp; omega
  · simp

theorem Encode_spec (b : List Int) (hB : Bytes b) (hb : b.length ≤ 2000000) : quoted_Encode_c (pcL prog cfg) b = some (if b.length > 12000 then ([], ((1, ((-1), ())), ())) else (encL 0 b, ((0, (0, ())), ()))) := by
  refine quoted_Encode_of ?_
  unfold quoted_Encode_B
  by_cases h : b.length > 12000
  · rw [if_pos h]
    exact ifd_t (by simp only [decide_eq_true_eq]; omega)
  · rw [if_neg h]
    refine (ifd_f (by simp only [decide_eq_true_eq]; omega)).trans ?_
    exact bnd2 (qBytes_spec b hB hb) rfl rfl

end Go.Proofs.YtldlfkgbfaneaaaDoorSim
