/- fold: ContainsAny at CR, LF, 0; Cut at a colon. -/
import Derived.Test.YthhllkiefncbnaaDoorFolS
namespace Go.Proofs.YthhllkiefncbnaaDoorSim
open Go Go.Proofs
open Go.Proofs.Tryd (prog)
set_option linter.unusedVariables false
set_option linter.unusedSimpArgs false

theorem mem_take_getD : ∀ (n : Nat) (l : List Int) (x : Int), x ∈ l.take n → ∃ j, j < n ∧ x = l.getD j 0
  | 0, l, x, h => by simp at h
  | n + 1, [], x, h => by simp at h
  | n + 1, c :: r, x, h => by
    rw [List.take_succ_cons, List.mem_cons] at h
    rcases h with rfl | h
    · exact ⟨0, by omega, rfl⟩
    · obtain ⟨j, h1, h2⟩ := mem_take_getD n r x h
      exact ⟨j + 1, by omega, by simpa using h2⟩

theorem rune1_high (c : Int) (r : List Int) (h : 128 ≤ c) : ∀ x ∈ (c :: r).take (rune1 (c :: r)).2, 128 ≤ x := by
  intro x hx
  obtain ⟨j, hj, rfl⟩ := mem_take_getD _ _ _ hx
  clear hx
  unfold rune1 at hj
  dsimp only at hj
  have e0 : (c :: r).getD 0 0 = c := rfl
  have e1 : (c :: r).getD 1 0 = r.getD 0 0 := rfl
  have e2 : (c :: r).getD 2 0 = r.getD 1 0 := rfl
  have e3 : (c :: r).getD 3 0 = r.getD 2 0 := rfl
  repeat' split at hj
  all_goals try simp only [cont, Bool.and_eq_true, decide_eq_true_eq] at *
  all_goals
    match j, hj with
    | 0, _ => rw [e0]; omega
    | 1, hj => first | omega | (rw [e1]; omega)
    | 2, hj => first | omega | (rw [e2]; omega)
    | 3, hj => first | omega | (rw [e3]; omega)
    | j + 4, hj => omega

theorem badB_iff {c : Int} : badB c = true ↔ c = 13 ∨ c = 10 ∨ c = 0 := by simp [badB]
theorem badB_high {c : Int} (h : 128 ≤ c) : badB c = false := by
  cases hb : badB c with
  | false => rfl
  | true => rw [badB_iff] at hb; omega

theorem ValidRune_some (n : Int) : ∃ b, unicode_utf8_ValidRune_c (pcL prog cfg) n = some b := by
  have key : ∀ x y z w : Bool, ∃ b, (ifd (x = true) (ifd (x = true) (ifd (y = true) (some true) (ifd (z = true) (ifd (z = true) (ifd (w = true) (some true) (some false)) (some false)) (ifd (z = true) none (some false))))
      (ifd (z = true) (ifd (z = true) (ifd (w = true) (some true) (some false)) (some false)) (ifd (z = true) none (some false))))
      (ifd (x = true) none (ifd (z = true) (ifd (z = true) (ifd (w = true) (some true) (some false)) (some false)) (ifd (z = true) none (some false)))) : Option Bool) = some b := by
    intro x y z w
    cases x <;> cases y <;> cases z <;> cases w <;> exact ⟨_, rfl⟩
  obtain ⟨b, hb⟩ := key (decide ((0 : Int) ≤ n)) (decide (n < 55296)) (decide ((57343 : Int) < n)) (decide (n ≤ 1114111))
  exact ⟨b, unicode_utf8_ValidRune_of hb⟩

theorem sIndexByte_spec (l : List Int) (c : Int) : strings_IndexByte_c (pcL prog cfg) l c = some (indexByteL l c) := by
  have h : internal_stringslite_IndexByte_c (pcL prog cfg) l c = some (indexByteL l c) := internal_stringslite_IndexByte_of rfl
  refine strings_IndexByte_of ?_
  unfold strings_IndexByte_B
  exact bnd2 h rfl rfl

theorem indexByteL_cons (a : Int) (l : List Int) (c : Int) : indexByteL (a :: l) c = if a = c then 0 else if indexByteL l c < 0 then -1 else indexByteL l c + 1 := by
  unfold indexByteL
  rw [List.findIdx?_cons]
  by_cases h : a = c
  · have e : (a == c) = true := by simpa using h
    rw [if_pos h, e]; rfl
  · have : (a == c) = false := by simpa using h
    rw [if_neg h, this]
    cases hl : l.findIdx? (fun x => x == c) with
    | none => rfl
    | some i =>
      simp only [cond_false, Option.map_some, Bool.false_eq_true, if_false]
      rw [if_neg (by omega)]
      omega

theorem indexByteL_nil (c : Int) : indexByteL [] c = -1 := rfl

theorem index_neg {y : Int} : ∀ {l : List Int}, (∀ x ∈ l, x ≠ y) → indexByteL l y < 0
  | [], _ => by rw [indexByteL_nil]; omega
  | a :: l, h => by
    have := index_neg (l := l) fun x hx => h x (by simp [hx])
    rw [indexByteL_cons, if_neg (h a (by simp)), if_pos this]
    omega

theorem crlf_index (c : Int) : (0 ≤ indexByteL [13, 10, 0] c) ↔ badB c = true := by
  rw [badB_iff, indexByteL_cons, indexByteL_cons, indexByteL_cons, indexByteL_nil]
  by_cases h1 : (13 : Int) = c
  · rw [if_pos h1]; omega
  · rw [if_neg h1]
    by_cases h2 : (10 : Int) = c
    · rw [if_pos h2]; simp; omega
    · rw [if_neg h2]
      by_cases h3 : (0 : Int) = c
      · rw [if_pos h3]; simp; omega
      · rw [if_neg h3]; simp; omega

theorem utf8_last (n : Int) (h : Ok n) (h128 : 128 ≤ n) : 2 ≤ (utf8 n).length ∧ (utf8 n).length ≤ 4 ∧ 128 ≤ (utf8 n).getD ((utf8 n).length - 1) 0 := by
  rw [utf8_put h]
  unfold put
  rw [if_neg (by omega)]
  split
  · refine ⟨by simp, by simp, ?_⟩
    show 128 ≤ _
    simp
    omega
  · split
    · refine ⟨by simp, by simp, ?_⟩
      simp
      omega
    · refine ⟨by simp, by simp, ?_⟩
      simp
      omega

theorem IR_step {l : List Int} {i m sz : Nat} (hd : decRune l i = (m, sz)) (hl : i < l.length) (hm : m ≠ 65533) {x : strings_IndexRune_L2_X} (hn : strings_IndexRune_L2 (pcL prog cfg) lpL (((), ()), ((l, i + sz), ())) = some x) :
    strings_IndexRune_L2 (pcL prog cfg) lpL (((), ()), ((l, i), ())) = some x := by
  refine strings_IndexRune_L2_of ?_
  unfold strings_IndexRune_L2_R
  dsimp only
  rw [hd]
  refine (ifd_t hl).trans ?_
  refine (ifd_f (by simp; omega)).trans ?_
  exact hn

theorem IndexRune_spec (n : Int) (h : Ok n) : ∃ v, strings_IndexRune_c (pcL prog cfg) [13, 10, 0] n = some v ∧ (0 ≤ v ↔ badB n = true) := by
  have h0 : 0 ≤ n := h.1
  have c1 : strings_IndexRune_C1 (pcL prog cfg) lpL (([13, 10, 0], n, ()), ()) = some (([13, 10, 0], n, decide (n < 128), ()), ()) := by
    unfold strings_IndexRune_C1
    dsimp only
    refine (ifd_t (decide_eq_true h0)).trans ?_
    exact ifd_t (decide_eq_true h0)
  by_cases h128 : n < 128
  · refine ⟨indexByteL [13, 10, 0] n, strings_IndexRune_of ?_, crlf_index n⟩
    unfold strings_IndexRune_B
    refine bnd1 c1 ?_
    refine (ifd_t (decide_eq_true h128)).trans ?_
    dsimp only
    rw [wrapU8i h0 (by omega)]
    exact bnd2 (sIndexByte_spec _ _) rfl rfl
  have hb : ¬ badB n = true := by rw [badB_high (by omega)]; simp
  refine ⟨-1, strings_IndexRune_of ?_, by constructor <;> intro q <;> first | omega | exact absurd q hb⟩
  unfold strings_IndexRune_B
  refine bnd1 c1 ?_
  refine (ifd_f (by simpa using h128)).trans ?_
  dsimp only
  by_cases he : n = 65533
  · refine (ifd_t (by simpa using he)).trans ?_
    have hl : strings_IndexRune_L2 (pcL prog cfg) lpL (((), ()), (([13, 10, 0], 0), ())) = some (Sum.inr ((), (([13, 10, 0], 3), ()))) := by
      have hB : Bytes [13, 10, 0] := by intro x hx; simp at hx; omega
      have d0 := decRune_spec [13, 10, 0] 0 hB (by decide)
      have d1 := decRune_spec [13, 10, 0] 1 hB (by decide)
      have d2 := decRune_spec [13, 10, 0] 2 hB (by decide)
      have e0 : decRune [13, 10, 0] 0 = (13, 1) := by rw [d0]; rfl
      have e1 : decRune [13, 10, 0] 1 = (10, 1) := by rw [d1]; rfl
      have e2 : decRune [13, 10, 0] 2 = (0, 1) := by rw [d2]; rfl
      refine IR_step e0 (by decide) (by decide) ?_
      refine IR_step e1 (by decide) (by decide) ?_
      refine IR_step e2 (by decide) (by decide) ?_
      refine strings_IndexRune_L2_of ?_
      unfold strings_IndexRune_L2_R
      dsimp only
      exact ifd_f (by decide)
    exact bnd1 hl rfl
  refine (ifd_f (by simpa using he)).trans ?_
  obtain ⟨b, hv⟩ := ValidRune_some n
  refine bnd2 hv rfl ?_
  cases b with
  | false => exact ifd_t rfl
  | true =>
    refine (ifd_f (by simp)).trans ?_
    rw [encRune_utf8]
    obtain ⟨l1, l2, l3⟩ := utf8_last n h (by omega)
    have hw : IntKind.wrap .i64 (((utf8 n).length : Nat) - 1 : Int) = (((utf8 n).length - 1 : Nat) : Int) := by rw [wrap64 (by omega) (by omega)]; omega
    rw [hw]
    generalize hk : (utf8 n).length - 1 = k at l3
    have hL : ∃ x, strings_IndexRune_L5 (pcL prog cfg) lpL (([13, 10, 0], utf8 n, (k : Int), (k : Int), ()), ()) = some x ∧ (x = Sum.inr ((), ()) ∨ x = Sum.inl (((-1), ()), ())) := by
      by_cases h3 : k < 3
      · refine ⟨Sum.inl (((-1), ()), ()), strings_IndexRune_L5_of ?_, .inr rfl⟩
        unfold strings_IndexRune_L5_R
        dsimp only
        refine (ifd_t (by simp; omega)).trans ?_
        have hc : strings_IndexRune_C3 (pcL prog cfg) lpL (([13, 10, 0], utf8 n, (k : Int), (k : Int), ()), ()) = some (Sum.inl (((-1), ()), ())) := by
          unfold strings_IndexRune_C3
          dsimp only
          rw [Int.toNat_natCast]
          have hw2 : IntKind.wrap .i64 ((k : Int) + 1) = ((k + 1 : Nat) : Int) := by rw [wrap64 (by omega) (by omega)]; omega
          rw [hw2]
          refine (ifd_t (by simp; omega)).trans ?_
          refine (ifd_t (by simp only [decide_eq_true_eq]; omega)).trans ?_
          have hx : [(13 : Int), 10, 0].getD k 0 ≤ 13 := by
            match k, h3 with
            | 0, _ => decide
            | 1, _ => decide
            | 2, _ => decide
          refine (ifd_t (by rw [bne_iff_ne]; omega)).trans ?_
          refine (ifd_t (by simp; omega)).trans ?_
          refine (ifd_t (by simp only [decide_eq_true_eq]; omega)).trans ?_
          refine bnd2 (sIndexByte_spec _ _) rfl ?_
          refine (ifd_t ?_).trans rfl
          rw [decide_eq_true_eq]
          have e : List.drop (Int.toNat ((k + 1 : Nat) : Int)) (List.take (Int.toNat (([(13 : Int), 10, 0].length : Nat) : Int)) [13, 10, 0]) = [(13 : Int), 10, 0].drop (k + 1) := by
            rw [Int.toNat_natCast, Int.toNat_natCast, List.take_length]
          rw [e]
          generalize (utf8 n).getD k 0 = y at l3
          refine index_neg fun x hx => ?_
          have := List.mem_of_mem_drop hx
          simp at this
          omega
        exact bnd1 hc rfl
      · refine ⟨Sum.inr ((), ()), strings_IndexRune_L5_of ?_, .inl rfl⟩
        unfold strings_IndexRune_L5_R
        dsimp only
        exact ifd_f (by simp; omega)
    obtain ⟨x, hx, hx'⟩ := hL
    refine bnd1 hx ?_
    rcases hx' with rfl | rfl
    · rfl
    · rfl

theorem rune_ok (c : Int) (r : List Int) (hB : Bytes (c :: r)) : Ok (fix (rune1 (c :: r)).1) := by
  unfold fix
  split
  · unfold Ok; omega
  · exact ⟨by omega, (rune1_le c r hB.head.1).2, (utf8_rune1 c r hB (by omega)).2⟩

theorem IndexAny_slow (s : List Int) (hB : Bytes s) : ∀ (k i : Nat), s.length - i = k → i ≤ s.length →
    ∃ x, strings_IndexAny_L5 (pcL prog cfg) lpL (([13, 10, 0], (), ()), ((s, i), ())) = some x ∧
      (((s.drop i).any badB = true ∧ ∃ (v : Nat) (y : _), x = Sum.inl (((v : Int), ()), y)) ∨ ((s.drop i).any badB = false ∧ ∃ y, x = Sum.inr y)) := by
  intro k
  induction k using Nat.strongRecOn with
  | _ k ih =>
    intro i hk hi
    cases hd : s.drop i with
    | nil =>
      have hl : s.length ≤ i := Classical.byContradiction fun q => by
        have := congrArg List.length hd
        simp at this; omega
      refine ⟨_, strings_IndexAny_L5_of (ifd_f (by show ¬ i < s.length; omega)), .inr ⟨rfl, _, rfl⟩⟩
    | cons c r =>
      have hlt : i < s.length := Classical.byContradiction fun q => by rw [List.drop_eq_nil_of_le (by omega)] at hd; cases hd
      have hBd : Bytes (c :: r) := hd ▸ hB.drop i
      have hdec := decRune_spec s i hB hlt
      rw [hd] at hdec
      obtain ⟨q1, q2, q3⟩ := rune1_size c r
      have hlen : (c :: r).length = s.length - i := by rw [← hd, List.length_drop]
      simp only [List.length_cons] at hlen
      have hok := rune_ok c r hBd
      have e1 : (((decRune s i).1 : Nat) : Int) = fix (rune1 (c :: r)).1 := by
        rw [hdec]
        have h0 := (hok).1
        simp only [fix] at h0 ⊢
        split <;> omega
      have e2 : (decRune s i).2 = (rune1 (c :: r)).2 := by rw [hdec]
      obtain ⟨v, hv, hvb⟩ := IndexRune_spec _ hok
      have hany : ((c :: r).take (rune1 (c :: r)).2).any badB = badB (fix (rune1 (c :: r)).1) := by
        by_cases hc : c < 128
        · have : rune1 (c :: r) = (c, 1) := by
            unfold rune1
            dsimp only
            rw [if_pos hc]
          rw [this]
          have : fix c = c := if_neg (by have := hBd.head; omega)
          rw [this]; simp
        · have hh := rune1_high c r (by omega)
          have h1 : ((c :: r).take (rune1 (c :: r)).2).any badB = false := by
            rw [List.any_eq_false]
            intro x hx
            rw [badB_high (hh x hx)]; simp
          rw [h1]
          have : 128 ≤ fix (rune1 (c :: r)).1 := by
            unfold fix
            split
            · omega
            · rename_i hn
              by_cases q : (rune1 (c :: r)).1 < 128
              · exfalso
                have hu := utf8_rune1 c r hBd (by omega)
                have h2 := hu.1
                rw [utf8_put ⟨by omega, (rune1_le c r hBd.head.1).2, hu.2⟩, put, if_pos q] at h2
                have h3 : (rune1 (c :: r)).1 = c := by
                  have := congrArg List.head? h2
                  cases hs : (rune1 (c :: r)).2 with
                  | zero => omega
                  | succ m => rw [hs] at this; simpa using this
                omega
              · omega
          rw [badB_high this]
      have hsplit : (c :: r).any badB = (badB (fix (rune1 (c :: r)).1) || ((s.drop (i + (rune1 (c :: r)).2)).any badB)) := by
        rw [← hany, ← List.drop_drop, hd, ← List.any_append, List.take_append_drop]
      rw [hsplit]
      cases hb : badB (fix (rune1 (c :: r)).1) with
      | true =>
        have hv0 : 0 ≤ v := hvb.2 hb
        refine ⟨Sum.inl (((i : Int), ()), ((s, (i + (decRune s i).2)), ())), strings_IndexAny_L5_of ?_, .inl ⟨rfl, i, _, rfl⟩⟩
        unfold strings_IndexAny_L5_R
        dsimp only
        refine (ifd_t hlt).trans ?_
        rw [e1]
        refine bnd2 hv rfl ?_
        exact ifd_t (decide_eq_true hv0)
      | false =>
        have hv0 : ¬ 0 ≤ v := fun q => by rw [hvb.1 q] at hb; cases hb
        obtain ⟨x, hx, hx'⟩ := ih (s.length - (i + (rune1 (c :: r)).2)) (by omega) (i + (rune1 (c :: r)).2) rfl (by omega)
        refine ⟨x, strings_IndexAny_L5_of ?_, hx'⟩
        unfold strings_IndexAny_L5_R
        dsimp only
        refine (ifd_t hlt).trans ?_
        rw [e1, e2]
        refine bnd2 hv rfl ?_
        refine (ifd_f (by simpa using hv0)).trans ?_
        exact hx

theorem Any_set : strings_IndexAny_L2 (pcL prog cfg) lpL (([13, 10, 0], (), 0, ()), (setOf [], ())) = some (Sum.inr (((), ()), (setOf [0, 10, 13], ()))) := by
  refine strings_IndexAny_L2_of ?_
  unfold strings_IndexAny_L2_R
  dsimp only
  refine (ifd_t (by decide)).trans ?_
  refine (ifd_t (by decide)).trans ?_
  refine (ifd_f (by decide)).trans ?_
  refine (ifd_t (by rw [setOf_len]; decide)).trans ?_
  refine (ifd_t (by rw [setOf_len]; decide)).trans ?_
  refine Eq.trans (show _ = strings_IndexAny_L2 (pcL prog cfg) lpL (([13, 10, 0], (), 1, ()), (setOf [13], ())) from rfl) ?_
  refine strings_IndexAny_L2_of ?_
  unfold strings_IndexAny_L2_R
  dsimp only
  refine (ifd_t (by decide)).trans ?_
  refine (ifd_t (by decide)).trans ?_
  refine (ifd_f (by decide)).trans ?_
  refine (ifd_t (by rw [setOf_len]; decide)).trans ?_
  refine (ifd_t (by rw [setOf_len]; decide)).trans ?_
  refine Eq.trans (show _ = strings_IndexAny_L2 (pcL prog cfg) lpL (([13, 10, 0], (), 2, ()), (setOf [10, 13], ())) from rfl) ?_
  refine strings_IndexAny_L2_of ?_
  unfold strings_IndexAny_L2_R
  dsimp only
  refine (ifd_t (by decide)).trans ?_
  refine (ifd_t (by decide)).trans ?_
  refine (ifd_f (by decide)).trans ?_
  refine (ifd_t (by rw [setOf_len]; decide)).trans ?_
  refine (ifd_t (by rw [setOf_len]; decide)).trans ?_
  refine Eq.trans (show _ = strings_IndexAny_L2 (pcL prog cfg) lpL (([13, 10, 0], (), 3, ()), (setOf [0, 10, 13], ())) from rfl) ?_
  refine strings_IndexAny_L2_of ?_
  unfold strings_IndexAny_L2_R
  dsimp only
  refine (ifd_f (by decide)).trans ?_
  rfl

theorem set_bad {c : Int} (hc : 0 ≤ c ∧ c ≤ 255) : (setOf [0, 10, 13]).getD c.toNat false = badB c := by
  rw [setOf_get c hc [0, 10, 13] (by simp)]
  simp only [List.contains_cons, List.contains_nil, badB, Bool.or_false]
  generalize (c == 0) = x
  generalize (c == 10) = y
  generalize (c == 13) = z
  cases x <;> cases y <;> cases z <;> rfl

theorem Any_fast (T U : List Bool) (hT : T.length = 256) (hb : ∀ c : Int, 0 ≤ c ∧ c ≤ 255 → T.getD c.toNat false = badB c) (s : List Int) (hB : Bytes s) (hs : s.length ≤ 4000000000) : ∀ (k i : Nat), s.length - i = k → i ≤ s.length →
    ∃ x, strings_IndexAny_L3 (pcL prog cfg) lpL ((s, (), (i : Int), ()), (U, T, ())) = some x ∧
      (((s.drop i).any badB = true ∧ ∃ (v : Nat) , x = Sum.inl (((v : Int), ()), (U, T, ()))) ∨ ((s.drop i).any badB = false ∧ x = Sum.inr ((), (U, T, ())))) := by
  intro k
  induction k with
  | zero =>
    intro i hk hi
    refine ⟨_, strings_IndexAny_L3_of (ifd_f (by simp only [decide_eq_true_eq]; omega)), .inr ⟨?_, rfl⟩⟩
    rw [List.drop_eq_nil_of_le (by omega)]; rfl
  | succ k ih =>
    intro i hk hi
    have hc := hB.getD i
    have hw : IntKind.wrap .i64 ((i : Int) + 1) = ((i + 1 : Nat) : Int) := by rw [wrap64 (by omega) (by omega)]; omega
    rw [drop_getD s i (by omega), List.any_cons]
    have hstep : strings_IndexAny_L3_R (pcL prog cfg) lpL (strings_IndexAny_L3 (pcL prog cfg) lpL) ((s, (), (i : Int), ()), (U, T, ())) = if badB (s.getD i 0) then some (Sum.inl (((i : Int), ()), (U, T, ()))) else strings_IndexAny_L3 (pcL prog cfg) lpL ((s, (), ((i + 1 : Nat) : Int), ()), (U, T, ())) := by
      unfold strings_IndexAny_L3_R
      dsimp only
      rw [Int.toNat_natCast, hb _ hc, hw]
      refine (ifd_t (by simp only [decide_eq_true_eq]; omega)).trans ?_
      refine (ifd_t (by simp only [decide_eq_true_eq]; omega)).trans ?_
      refine (ifd_t (by rw [hT, Bool.and_eq_true, decide_eq_true_eq]; exact ⟨by omega, rfl⟩)).trans ?_
      refine (ifd_t (by simp only [decide_eq_true_eq]; omega)).trans ?_
      rw [ifd_eq]
    cases hbd : badB (s.getD i 0) with
    | true =>
      rw [hbd, if_pos rfl] at hstep
      exact ⟨_, strings_IndexAny_L3_of hstep, .inl ⟨rfl, i, rfl⟩⟩
    | false =>
      rw [hbd, if_neg (by simp)] at hstep
      obtain ⟨x, hx, hx'⟩ := ih (i + 1) (by omega) (by omega)
      exact ⟨x, strings_IndexAny_L3_of (hstep.trans hx), hx'⟩

theorem ContainsAny_spec (s : List Int) (hB : Bytes s) (hs : s.length ≤ 4000000000) : strings_ContainsAny_c (pcL prog cfg) s [13, 10, 0] = some (s.any badB) := by
  have hsh : strings_shouldUseASCIISet_c (pcL prog cfg) (s.length : Nat) = some (decide (((s.length : Nat) : Int) > 8)) := strings_shouldUseASCIISet_of rfl
  have key : ∃ v, strings_IndexAny_c (pcL prog cfg) s [13, 10, 0] = some v ∧ decide (v ≥ 0) = s.any badB := by
    by_cases h8 : ((s.length : Nat) : Int) > 8
    · obtain ⟨x, hx, hx'⟩ := Any_fast (setOf [0, 10, 13]) (setOf [0, 10, 13]) (setOf_len _) (fun c hc => set_bad hc) s hB hs _ 0 rfl (by omega)
      rw [List.drop_zero] at hx'
      have hC : ∃ v y, strings_IndexAny_C4 (pcL prog cfg) lpL ((s, [13, 10, 0], ()), ()) = some (Sum.inl ((v, ()), y)) ∧ decide (v ≥ 0) = s.any badB := by
        have hrest : ∀ z v y, x = z → (Sum.elim (fun (y33 : ((Int × Unit) × ((List Bool) × ((List Bool) × Unit)))) => some (Sum.inl ((y33.1.1, ()), (y33.2.1, y33.2.2.1, ())))) (fun (y34 : (Unit × ((List Bool) × ((List Bool) × Unit)))) => some (Sum.inl (((-1), ()), (y34.2.1, y34.2.2.1, ())))) z : Option strings_IndexAny_C4_X) = some (Sum.inl ((v, ()), y)) →
            strings_IndexAny_C4 (pcL prog cfg) lpL ((s, [13, 10, 0], ()), ()) = some (Sum.inl ((v, ()), y)) := fun z v y hz hq => by
          unfold strings_IndexAny_C4
          refine bnd2 hsh rfl ?_
          refine (ifd_t (decide_eq_true h8)).trans ?_
          refine bnd1 (show strings_IndexAny_L2 (pcL prog cfg) lpL (([13, 10, 0], (), 0, ()), (List.replicate 256 false, ())) = _ from Any_set) ?_
          rw [Sum.elim_inr]
          dsimp only
          rw [row_all, row_all]
          refine (ifd_t (by rw [decide_eq_true_eq]; exact setOf_len _)).trans ?_
          refine (ifd_t (by rw [decide_eq_true_eq]; exact setOf_len _)).trans ?_
          refine (ifd_t (setOf_len _)).trans ?_
          refine bnd1 hx ?_
          rw [hz]; exact hq
        rcases hx' with ⟨h1, v, h2⟩ | ⟨h1, h2⟩
        · exact ⟨v, _, hrest _ _ _ h2 rfl, by rw [h1]; simp⟩
        · exact ⟨-1, _, hrest _ _ _ h2 rfl, by rw [h1]; rfl⟩
      obtain ⟨v, y, hC, hv⟩ := hC
      refine ⟨v, strings_IndexAny_of ?_, hv⟩
      unfold strings_IndexAny_B
      refine (ifd_f (by simp)).trans ?_
      refine (ifd_f (by simp)).trans ?_
      exact bnd1 hC rfl
    · obtain ⟨x, hx, hx'⟩ := IndexAny_slow s hB _ 0 rfl (by omega)
      rw [List.drop_zero] at hx'
      have hC : strings_IndexAny_C4 (pcL prog cfg) lpL ((s, [13, 10, 0], ()), ()) = some (Sum.inr ((s, [13, 10, 0], ()), ())) := by
        unfold strings_IndexAny_C4
        refine bnd2 hsh rfl ?_
        exact ifd_f (by simpa using h8)
      have hrest : ∀ v, (Sum.elim (fun (y41 : ((Int × Unit) × (((List Int) × Nat) × Unit))) => some y41.1.1) (fun (y42 : (Unit × (((List Int) × Nat) × Unit))) => some (-1)) x : Option Int) = some v → strings_IndexAny_c (pcL prog cfg) s [13, 10, 0] = some v := fun v hq => by
        refine strings_IndexAny_of ?_
        unfold strings_IndexAny_B
        refine (ifd_f (by simp)).trans ?_
        refine (ifd_f (by simp)).trans ?_
        refine bnd1 hC ?_
        exact bnd1 hx hq
      rcases hx' with ⟨h1, v, y, h2⟩ | ⟨h1, y, h2⟩
      · exact ⟨v, hrest _ (by rw [h2]; rfl), by rw [h1]; simp⟩
      · exact ⟨-1, hrest _ (by rw [h2]; rfl), by rw [h1]; rfl⟩
  obtain ⟨v, h1, h2⟩ := key
  refine strings_ContainsAny_of ?_
  unfold strings_ContainsAny_B
  refine bnd2 h1 rfl ?_
  rw [h2]

/-- what stands ahead of a colon and behind it -/
def colon (s : List Int) : Int := indexByteL s 58

theorem colon_le (s : List Int) : -1 ≤ colon s ∧ colon s < s.length + 1 ∧ (0 ≤ colon s → colon s < s.length) := by
  unfold colon
  induction s with
  | nil => rw [indexByteL_nil]; simp
  | cons a l ih =>
    rw [indexByteL_cons]
    simp only [List.length_cons]
    split
    · omega
    · split <;> omega

theorem Cut_spec (s : List Int) (hs : s.length ≤ 4000000000) : strings_Cut_c (pcL prog cfg) s [58] = some (if colon s < 0 then (s, ([], (false, ()))) else (s.take (colon s).toNat, (s.drop ((colon s).toNat + 1), (true, ())))) := by
  have hi : internal_stringslite_Index_c (pcL prog cfg) s [58] = some (colon s) := by
    refine internal_stringslite_Index_of ?_
    unfold internal_stringslite_Index_B
    have c1 : internal_stringslite_Index_C1 (pcL prog cfg) lpL ((s, [58], 1, ()), ()) = some ((s, [58], 1, ([58] == s), ()), ()) := by
      unfold internal_stringslite_Index_C1
      dsimp only
      refine (ifd_f (by decide)).trans ?_
      exact ifd_f (by decide)
    refine bnd1 c1 ?_
    dsimp only
    by_cases h : s = [58]
    · subst h
      exact (ifd_t (by simp)).trans rfl
    · refine (ifd_f (by simpa using fun e => h e.symm)).trans ?_
      refine (ifd_t (by simp)).trans ?_
      refine (ifd_t (by simp)).trans ?_
      have hb : internal_stringslite_IndexByte_c (pcL prog cfg) s 58 = some (indexByteL s 58) := internal_stringslite_IndexByte_of rfl
      exact bnd2 hb rfl rfl
  obtain ⟨l1, l2, l3⟩ := colon_le s
  refine strings_Cut_of ?_
  unfold strings_Cut_B
  have hc : internal_stringslite_Cut_c (pcL prog cfg) s [58] = some (if colon s < 0 then (s, ([], (false, ()))) else (s.take (colon s).toNat, (s.drop ((colon s).toNat + 1), (true, ())))) := by
    refine internal_stringslite_Cut_of ?_
    unfold internal_stringslite_Cut_B
    refine bnd2 hi rfl ?_
    by_cases h : colon s < 0
    · rw [if_pos h]
      exact ifd_f (by simp only [decide_eq_true_eq]; omega)
    · rw [if_neg h]
      have hw : IntKind.wrap .i64 (colon s + (([(58 : Int)].length : Nat) : Int)) = (((colon s).toNat + 1 : Nat) : Int) := by
        have : (([(58 : Int)].length : Nat) : Int) = 1 := rfl
        rw [this, wrap64 (by omega) (by omega)]; omega
      have := l3 (by omega)
      rw [hw]
      refine (ifd_t (by simp only [decide_eq_true_eq]; omega)).trans ?_
      refine (ifd_t (by simp only [decide_eq_true_eq]; omega)).trans ?_
      refine (ifd_t (by simp only [decide_eq_true_eq]; omega)).trans ?_
      rw [Int.toNat_natCast, Int.toNat_natCast, List.take_length]
      rfl
  refine bnd2 hc rfl ?_
  split <;> rfl

end Go.Proofs.YthhllkiefncbnaaDoorSim
