/- grapheme: the reference's pieces and columns; the laws. -/
import Derived.Test.YtagnebpehdonaaaDoorGraD
namespace Go.Proofs.YtagnebpehdonaaaDoorSim
open Go Go.Proofs
open Go.Proofs.Tryd (prog)
set_option linter.unusedVariables false
set_option linter.unusedSimpArgs false

theorem cont_stops (p n flags : Int) (hf : flags ≠ 0 → cls (fix p) = 6) : contV p n flags = !stops (cls (fix p), (decide (p < 0), flags)) n := by
  unfold contV stops joinsV
  by_cases hp : p < 0
  · rw [if_pos (.inl hp), decide_eq_true hp]; simp
  by_cases hn : n < 0
  · rw [if_pos (.inr hn), decide_eq_true hn]; simp
  have ep : fix p = p := if_neg hp
  have en : fix n = n := if_neg hn
  rw [ep] at hf
  rw [if_neg (by omega), decide_eq_false hp, decide_eq_false hn, ep, en]
  generalize cls p = a at hf
  generalize cls n = b
  simp only [Bool.false_or, Bool.not_not, Bool.false_eq_true, if_false]
  by_cases a1 : a = 1
  · subst a1
    by_cases b2 : b = 2
    · subst b2; rfl
    · rw [if_neg (by omega), if_pos (by omega), if_pos rfl]
      simpa using b2
  rw [if_neg (by omega), if_neg a1]
  by_cases h2 : a = 2 ∨ a = 3 ∨ b = 1 ∨ b = 2 ∨ b = 3
  · rw [if_pos (by omega), if_pos h2]
  rw [if_neg h2]
  by_cases h3 : (1 ≤ a ∧ a ≤ 3) ∨ (1 ≤ b ∧ b ≤ 3)
  · omega
  rw [if_neg h3]
  by_cases h4 : b = 4 ∨ b = 5
  · rw [if_pos h4, if_pos h4]
  rw [if_neg h4, if_neg h4]
  by_cases h5 : a = 5
  · rw [if_pos h5, if_pos h5]
  rw [if_neg h5, if_neg h5]
  by_cases h6 : b = 6
  · rw [if_pos h6, if_pos h6]
    by_cases f0 : flags = 0
    · subst f0; simp
    · rw [hf f0]; simp
  rw [if_neg h6, if_neg h6]
  by_cases h7 : a = 7
  · subst h7; simp
  rw [if_neg h7]
  by_cases h8 : a = 8
  · subst h8; simp
  rw [if_neg h8]
  have e7 : (a == 7) = false := by simpa using h7
  have e8 : (a == 8) = false := by simpa using h8
  rw [e7, e8]; simp

theorem set_last {α : Type} (d : α) (prev : List α) (cur x : α) : (prev ++ [cur]).set prev.length x = prev ++ [x] := by simp

theorem P_C3 (s rl : List Int) (at_ flags sz : Int) (i : Nat) (part : List Int) (out : List (List Int)) (hi : i < rl.length) (hb : rl.length ≤ 4000000) :
    ref1_Pieces_C3 (pcL prog cfg) lpL ((s, rl, (), at_, flags, (i : Int), sz, part, ()), ((), (), out, ())) = some ((s, rl, (), at_, flags, (i : Int), sz, part, (decide (1 ≤ i) && contV (rl.getD (i - 1) 0) (rl.getD i 0) flags), ()), ((), (), (), out, ())) := by
  unfold ref1_Pieces_C3
  dsimp only
  by_cases h : 1 ≤ i
  · refine (ifd_t (by simp only [decide_eq_true_eq]; omega)).trans ?_
    refine bnd2 (Continues_spec rl i flags h hi hb) rfl ?_
    refine (ifd_t (by simp only [decide_eq_true_eq]; omega)).trans ?_
    rw [decide_eq_true h, Bool.true_and]
  · refine (ifd_f (by simp only [decide_eq_true_eq]; omega)).trans ?_
    refine (ifd_f (by simp only [decide_eq_true_eq]; omega)).trans ?_
    rw [decide_eq_false h, Bool.false_and]

theorem P_C4_go (s rl : List Int) (at_ flags sz : Int) (i : Nat) (part : List Int) (prev : List (List Int)) (cur : List Int) (hi : i < rl.length) (hb : rl.length ≤ 4000000) (hp : prev.length ≤ 4000000) (hc : cur.length + part.length ≤ 4000000)
    (h : (decide (1 ≤ i) && contV (rl.getD (i - 1) 0) (rl.getD i 0) flags) = true) :
    ref1_Pieces_C4 (pcL prog cfg) lpL ((s, rl, (), at_, flags, (i : Int), sz, part, ()), ((), prev ++ [cur], ())) = some ((s, rl, (), at_, flags, (i : Int), sz, ()), ((), prev ++ [cur ++ part], ())) := by
  unfold ref1_Pieces_C4
  refine bnd1 (P_C3 s rl at_ flags sz i part _ hi hb) ?_
  dsimp only
  rw [h]
  have hl : (((prev ++ [cur]).length : Nat) : Int) = (prev.length : Int) + 1 := by simp
  have hw : IntKind.wrap .i64 (((prev ++ [cur]).length : Nat) - 1 : Int) = (prev.length : Int) := by rw [hl, wrap64 (by omega) (by omega)]; omega
  have hg : (prev ++ [cur]).getD prev.length [] = cur := by simp
  rw [hw, Int.toNat_natCast, hg]
  refine (ifd_t rfl).trans ?_
  refine (ifd_t (by simp only [decide_eq_true_eq]; omega)).trans ?_
  refine (ifd_t (by simp)).trans ?_
  refine (ifd_t (by simp only [decide_eq_true_eq]; omega)).trans ?_
  refine (ifd_t (by simp only [decide_eq_true_eq]; omega)).trans ?_
  refine (ifd_t (by simp)).trans ?_
  rw [set_last []]

theorem P_C4_new (s rl : List Int) (at_ flags sz : Int) (i : Nat) (part : List Int) (out : List (List Int)) (hi : i < rl.length) (hb : rl.length ≤ 4000000) (ho : out.length ≤ 4000000)
    (h : (decide (1 ≤ i) && contV (rl.getD (i - 1) 0) (rl.getD i 0) flags) = false) :
    ref1_Pieces_C4 (pcL prog cfg) lpL ((s, rl, (), at_, flags, (i : Int), sz, part, ()), ((), out, ())) = some ((s, rl, (), at_, 0, (i : Int), sz, ()), ((), out ++ [part], ())) := by
  unfold ref1_Pieces_C4
  refine bnd1 (P_C3 s rl at_ flags sz i part _ hi hb) ?_
  dsimp only
  rw [h]
  refine (ifd_f (by simp)).trans ?_
  exact ifd_t (by simp only [decide_eq_true_eq, List.length_cons, List.length_nil]; omega)

theorem cls_neg {n : Int} (h : n < 0) : cls (fix n) = 0 := by rw [show fix n = 65533 from if_pos h]; decide

/-- One round. -/
theorem P_round (s : List Int) (hB : Bytes s) (hs : s.length ≤ 2000000) (ψ : ref1_Pieces_L5_D → Option ref1_Pieces_L5_X) (i a : Nat) (flags : Int) (out out' : List (List Int)) (f' : Int) (c : Int) (r : List Int) (hd : s.drop a = c :: r) (hrl : (runesL s).drop i = runesL (s.drop a)) (hf0 : 0 ≤ f') (hf1 : f' ≤ 4000000)
    (h4 : ref1_Pieces_C4 (pcL prog cfg) lpL ((s, runesL s, (), (a : Int), flags, (i : Int), ((rune1 (c :: r)).2 : Int), (c :: r).take (rune1 (c :: r)).2, ()), ((), out, ())) = some ((s, runesL s, (), (a : Int), f', (i : Int), ((rune1 (c :: r)).2 : Int), ()), ((), out', ()))) :
    ref1_Pieces_L5_R (pcL prog cfg) lpL ψ ((s, runesL s, (), (a : Int), flags, (i : Int), ()), (out, ())) =
      ψ ((s, runesL s, (), ((a + (rune1 (c :: r)).2 : Nat) : Int), (if cls (fix (rune1 (c :: r)).1) = 6 then f' + 1 else 0), ((i + 1 : Nat) : Int), ()), (out', ())) := by
  have hlen : a < s.length := Classical.byContradiction fun q => by rw [List.drop_eq_nil_of_le (by omega)] at hd; cases hd
  have hrlen := runesL_len s.length s rfl
  have hdl : (c :: r).length = s.length - a := by rw [← hd, List.length_drop]
  obtain ⟨q1, q2, q3⟩ := rune1_size c r
  simp only [List.length_cons] at hdl
  rw [hd, runesL_cons] at hrl
  have hilen : i < (runesL s).length := Classical.byContradiction fun q => by rw [List.drop_eq_nil_of_le (by omega)] at hrl; cases hrl
  have hget : (runesL s).getD i 0 = (rune1 (c :: r)).1 := by rw [getD_drop, hrl]; rfl
  unfold ref1_Pieces_L5_R
  dsimp only
  refine (ifd_t (by simp only [decide_eq_true_eq]; omega)).trans ?_
  rw [Rune_spec s hB (by omega) a hlen, hd]
  have hw : IntKind.wrap .i64 ((a : Int) + ((rune1 (c :: r)).2 : Int)) = ((a + (rune1 (c :: r)).2 : Nat) : Int) := by rw [wrap64 (by omega) (by omega)]; omega
  refine Eq.trans (b := ifd _ _ _) rfl ?_
  dsimp only
  rw [hw]
  refine (ifd_t (by simp only [decide_eq_true_eq]; omega)).trans ?_
  rw [seg_eq, hd, show a + (rune1 (c :: r)).2 - a = (rune1 (c :: r)).2 by omega, h4, bnd_s]
  have hw2 : IntKind.wrap .i64 ((i : Int) + 1) = ((i + 1 : Nat) : Int) := by rw [wrap64 (by omega) (by omega)]; omega
  have hw3 : IntKind.wrap .i64 (f' + 1) = f' + 1 := wrap64 (by omega) (by omega)
  rw [hw, hw2, hw3, Int.toNat_natCast, hget]
  refine (ifd_t (by simp only [decide_eq_true_eq]; omega)).trans ?_
  by_cases hn : (rune1 (c :: r)).1 ≥ 0
  · refine (ifd_t (decide_eq_true hn)).trans ?_
    refine (ifd_t (by simp only [decide_eq_true_eq]; omega)).trans ?_
    rw [rClass_spec]
    simp only [bnd_s]
    refine (ifd_t (decide_eq_true hn)).trans ?_
    have ef : fix (rune1 (c :: r)).1 = (rune1 (c :: r)).1 := if_neg (by omega)
    rw [ef]
    by_cases h6 : cls (rune1 (c :: r)).1 = 6
    · rw [if_pos h6]
      exact ifd_t (by simpa using h6)
    · rw [if_neg h6]
      exact ifd_f (by simpa using h6)
  · refine (ifd_f (by simpa using hn)).trans ?_
    refine (ifd_f (by simpa using hn)).trans ?_
    rw [cls_neg (by omega), if_neg (by decide)]

theorem Pieces_loop (s : List Int) (hB : Bytes s) (hs : s.length ≤ 2000000) : ∀ (k i a : Nat) (flags : Int) (prev : List (List Int)) (cur : List Int), s.length - a = k → 1 ≤ i → i ≤ a → a ≤ s.length → (runesL s).drop i = runesL (s.drop a) → 0 ≤ flags → flags ≤ i →
    (flags ≠ 0 → cls (fix ((runesL s).getD (i - 1) 0)) = 6) → prev.length ≤ i → cur.length ≤ a →
    ref1_Pieces_L5 (pcL prog cfg) lpL ((s, runesL s, (), (a : Int), flags, (i : Int), ()), (prev ++ [cur], ())) =
      some (((), ()), ((), prev ++ (cur ++ (s.drop a).take (ext (cls (fix ((runesL s).getD (i - 1) 0)), (decide ((runesL s).getD (i - 1) 0 < 0), flags)) (s.drop a))) :: pieces ((s.drop a).drop (ext (cls (fix ((runesL s).getD (i - 1) 0)), (decide ((runesL s).getD (i - 1) 0 < 0), flags)) (s.drop a))), ())) := by
  intro k
  induction k using Nat.strongRecOn with
  | _ k ih =>
    intro i a flags prev cur hk hi hia hal hd hf0 hfi hf6 hpl hcl
    refine ref1_Pieces_L5_of ?_
    have hrlen := runesL_len s.length s rfl
    cases hda : s.drop a with
    | nil =>
      rw [hda, show runesL [] = [] by rw [runesL]] at hd
      have : (runesL s).length ≤ i := Classical.byContradiction fun q => by
        have := congrArg List.length hd
        simp at this; omega
      unfold ref1_Pieces_L5_R
      dsimp only
      refine (ifd_f (by simp only [decide_eq_true_eq]; omega)).trans ?_
      rw [ext_nil, List.take_nil, List.drop_nil, pieces_nil, List.append_nil]
    | cons c r =>
      have hlen : a < s.length := Classical.byContradiction fun q => by rw [List.drop_eq_nil_of_le (by omega)] at hda; cases hda
      have hdl : (c :: r).length = s.length - a := by rw [← hda, List.length_drop]
      simp only [List.length_cons] at hdl
      obtain ⟨q1, q2, q3⟩ := rune1_size c r
      have hd' := hd
      rw [hda, runesL_cons] at hd'
      have hilen : i < (runesL s).length := Classical.byContradiction fun q => by rw [List.drop_eq_nil_of_le (by omega)] at hd'; cases hd'
      have hget : (runesL s).getD i 0 = (rune1 (c :: r)).1 := by rw [getD_drop, hd']; rfl
      have hnext : (runesL s).drop (i + 1) = runesL (s.drop (a + (rune1 (c :: r)).2)) := by
        have : (runesL s).drop (i + 1) = ((runesL s).drop i).drop 1 := by rw [List.drop_drop]
        rw [this, hd', ← List.drop_drop, hda]
        rfl
      have hcs := cont_stops ((runesL s).getD (i - 1) 0) ((runesL s).getD i 0) flags hf6
      have hsplit : ∀ e, (c :: r).take (rune1 (c :: r)).2 ++ ((c :: r).drop (rune1 (c :: r)).2).take e = (c :: r).take ((rune1 (c :: r)).2 + e) := fun e => by rw [List.take_add]
      have hda2 : s.drop (a + (rune1 (c :: r)).2) = (c :: r).drop (rune1 (c :: r)).2 := by rw [← List.drop_drop, hda]
      have htl : ((c :: r).take (rune1 (c :: r)).2).length = (rune1 (c :: r)).2 := by rw [List.length_take]; simp only [List.length_cons]; omega
      rw [ext_cons]
      cases hst : stops (cls (fix ((runesL s).getD (i - 1) 0)), (decide ((runesL s).getD (i - 1) 0 < 0), flags)) (rune1 (c :: r)).1 with
      | true =>
        rw [hget, hst] at hcs
        have h4 := P_C4_new s (runesL s) a flags (rune1 (c :: r)).2 i ((c :: r).take (rune1 (c :: r)).2) (prev ++ [cur]) hilen (by omega) (by simp; omega) (by rw [hget, hcs]; simp)
        rw [P_round s hB hs _ i a flags _ _ 0 c r hda hd (by omega) (by omega) h4]
        have := ih (s.length - (a + (rune1 (c :: r)).2)) (by omega) (i + 1) (a + (rune1 (c :: r)).2) (if cls (fix (rune1 (c :: r)).1) = 6 then 0 + 1 else 0) (prev ++ [cur]) ((c :: r).take (rune1 (c :: r)).2) rfl (by omega) (by omega) (by omega) hnext (by split <;> omega) (by split <;> omega)
          (by rw [Nat.add_sub_cancel, hget]; intro h; by_cases q : cls (fix (rune1 (c :: r)).1) = 6
              · exact q
              · rw [if_neg q] at h; exact absurd rfl h) (by simp; omega) (by rw [htl]; omega)
        rw [this, Nat.add_sub_cancel, hget, hda2]
        have hu : (cls (fix (rune1 (c :: r)).1), (decide ((rune1 (c :: r)).1 < 0), if cls (fix (rune1 (c :: r)).1) = 6 then (0 : Int) + 1 else 0)) = upd gs0 (rune1 (c :: r)).1 := rfl
        rw [hu, if_pos rfl, List.take_zero, List.drop_zero, pieces_cons, pieceLen_cons, hsplit, List.append_nil, List.drop_drop]
        simp
      | false =>
        rw [hget, hst] at hcs
        have h4 := P_C4_go s (runesL s) a flags (rune1 (c :: r)).2 i ((c :: r).take (rune1 (c :: r)).2) prev cur hilen (by omega) (by omega) (by rw [htl]; omega) (by rw [hget, hcs, decide_eq_true hi]; rfl)
        rw [P_round s hB hs _ i a flags _ _ flags c r hda hd (by omega) (by omega) h4]
        have := ih (s.length - (a + (rune1 (c :: r)).2)) (by omega) (i + 1) (a + (rune1 (c :: r)).2) (if cls (fix (rune1 (c :: r)).1) = 6 then flags + 1 else 0) prev (cur ++ (c :: r).take (rune1 (c :: r)).2) rfl (by omega) (by omega) (by omega) hnext (by split <;> omega) (by split <;> omega)
          (by rw [Nat.add_sub_cancel, hget]; intro h; by_cases q : cls (fix (rune1 (c :: r)).1) = 6
              · exact q
              · rw [if_neg q] at h; exact absurd rfl h) (by omega) (by rw [List.length_append, htl]; omega)
        rw [this, Nat.add_sub_cancel, hget, hda2]
        have hu : (cls (fix (rune1 (c :: r)).1), (decide ((rune1 (c :: r)).1 < 0), if cls (fix (rune1 (c :: r)).1) = 6 then flags + 1 else 0)) = upd (cls (fix ((runesL s).getD (i - 1) 0)), (decide ((runesL s).getD (i - 1) 0 < 0), flags)) (rune1 (c :: r)).1 := rfl
        rw [hu, if_neg (by simp), List.append_assoc, hsplit, List.drop_drop]

theorem rPieces_spec (s : List Int) (hB : Bytes s) (hs : s.length ≤ 2000000) : ref1_Pieces_c (pcL prog cfg) s = some (pieces s) := by
  refine ref1_Pieces_of ?_
  unfold ref1_Pieces_B
  refine bnd2 (Runes_spec s hB hs) rfl ?_
  have h : ref1_Pieces_L5 (pcL prog cfg) lpL ((s, runesL s, (), 0, 0, 0, ()), (([] : List (List Int)), ())) = some (((), ()), ((), pieces s, ())) := by
    refine ref1_Pieces_L5_of ?_
    cases s with
    | nil =>
      unfold ref1_Pieces_L5_R
      dsimp only
      rw [show runesL [] = [] by rw [runesL], pieces_nil]
      exact ifd_f (by simp)
    | cons c r =>
      have hrlen := runesL_len (c :: r).length (c :: r) rfl
      obtain ⟨q1, q2, q3⟩ := rune1_size c r
      have hilen : 0 < (runesL (c :: r)).length := by rw [runesL_cons]; simp
      have hget : (runesL (c :: r)).getD 0 0 = (rune1 (c :: r)).1 := by rw [runesL_cons]; rfl
      have h4 := P_C4_new (c :: r) (runesL (c :: r)) ((0 : Nat) : Int) 0 (rune1 (c :: r)).2 0 ((c :: r).take (rune1 (c :: r)).2) [] hilen (by omega) (by simp) (by simp)
      have e := P_round (c :: r) hB hs (ref1_Pieces_L5 (pcL prog cfg) lpL) 0 0 0 _ _ 0 c r rfl rfl (by omega) (by omega) h4
      refine Eq.trans e ?_
      have htl : ((c :: r).take (rune1 (c :: r)).2).length = (rune1 (c :: r)).2 := by rw [List.length_take]; simp only [List.length_cons]; omega
      have := Pieces_loop (c :: r) hB hs _ 1 (0 + (rune1 (c :: r)).2) (if cls (fix (rune1 (c :: r)).1) = 6 then 0 + 1 else 0) [] ((c :: r).take (rune1 (c :: r)).2) rfl (by omega) (by omega) (by simp only [List.length_cons]; omega) (by rw [Nat.zero_add, runesL_cons]; rfl) (by split <;> omega) (by split <;> omega)
        (by rw [Nat.sub_self, hget]; intro h; by_cases q : cls (fix (rune1 (c :: r)).1) = 6
            · exact q
            · rw [if_neg q] at h; exact absurd rfl h) (by simp) (by rw [htl]; omega)
      refine Eq.trans this ?_
      have hu : (cls (fix (rune1 (c :: r)).1), (decide ((rune1 (c :: r)).1 < 0), if cls (fix (rune1 (c :: r)).1) = 6 then (0 : Int) + 1 else 0)) = upd gs0 (rune1 (c :: r)).1 := rfl
      rw [Nat.sub_self, hget, hu, Nat.zero_add, pieces_cons, pieceLen_cons, List.drop_drop, List.take_add]
      rfl
  exact bnd1 h rfl

end Go.Proofs.YtagnebpehdonaaaDoorSim
