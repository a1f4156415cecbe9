/- charset: the reference. -/
import Derived.Test.YtklllljgdabheaaDoorChaE
namespace Go.Proofs.YtklllljgdabheaaDoorSim
open Go Go.Proofs
open Go.Proofs.Tryd (prog)
set_option linter.unusedVariables false
set_option linter.unusedSimpArgs false

theorem Decoded_L2_spec (st : Int) (hst : st = 0 ∨ st = 1) (b : List Int) (hB : Bytes b) (hb : b.length ≤ 2000000) : ∀ (k i : Nat) (out : List Int), b.length - i = k → out.length + 4 * k ≤ 100000000 →
    ref1_Decoded_L2 (pcL prog cfg) lpL ((st, b, out, (i : Int), ()), ()) = some ((out ++ decoded st (b.drop i), ()), ()) := by
  intro k
  induction k with
  | zero =>
    intro i out hk ho
    refine ref1_Decoded_L2_of ?_
    unfold ref1_Decoded_L2_R
    dsimp only
    refine (ifd_f (by simp only [decide_eq_true_eq]; omega)).trans ?_
    rw [List.drop_eq_nil_of_le (by omega)]
    rcases hst with rfl | rfl <;> simp [decoded]
  | succ k ih =>
    intro i out hk ho
    refine ref1_Decoded_L2_of ?_
    unfold ref1_Decoded_L2_R
    dsimp only
    have hc := hB.getD i
    rw [Int.toNat_natCast, wrap64 (x := (i : Int) + 1) (by omega) (by omega), wrap64 (x := b.getD i 0) (by omega) (by omega)]
    refine (ifd_t (by simp only [decide_eq_true_eq]; omega)).trans ?_
    refine (ifd_t (by simp only [decide_eq_true_eq]; omega)).trans ?_
    have go : ∀ x : Int, decoded st (b.drop i) = utf8 x ++ decoded st (b.drop (i + 1)) →
        ref1_Decoded_L2 (pcL prog cfg) lpL ((st, b, out ++ utf8 x, (i : Int) + 1, ()), ()) = some ((out ++ decoded st (b.drop i), ()), ()) := fun x hx => by
      have hl := utf8_len x
      have := ih (i + 1) (out ++ utf8 x) (by omega) (by rw [List.length_append]; omega)
      rw [Int.natCast_add] at this
      refine this.trans ?_
      rw [hx, List.append_assoc]
    have hlen : ∀ x : Int, (decide (out.length + (utf8 x).length ≤ 9223372036854775807)) = true := fun x => by
      have hl := utf8_len x
      simp only [decide_eq_true_eq]; omega
    rw [drop_getD b i (by omega)] at go ⊢
    rcases hst with rfl | rfl
    · refine (ifd_t rfl).trans ?_
      refine (ifd_t rfl).trans ?_
      by_cases h : b.getD i 0 > 127
      · refine (ifd_t (decide_eq_true h)).trans ?_
        refine bnd2 (Utf8_spec _) rfl ?_
        refine (ifd_t (hlen _)).trans ?_
        refine go 65533 ?_
        have e : asc (b.getD i 0) = 65533 := if_pos (by omega)
        simp only [decoded, if_true, List.map_cons, List.flatMap_cons, e]
      · refine (ifd_f (by simpa using h)).trans ?_
        refine bnd2 (Utf8_spec _) rfl ?_
        refine (ifd_t (hlen _)).trans ?_
        refine go _ ?_
        have e : asc (b.getD i 0) = b.getD i 0 := if_neg (by omega)
        simp only [decoded, if_true, List.map_cons, List.flatMap_cons, e]
    · refine (ifd_f (by simp)).trans ?_
      refine (ifd_f (by simp)).trans ?_
      refine bnd2 (Utf8_spec _) rfl ?_
      refine (ifd_t (hlen _)).trans ?_
      refine go _ ?_
      have : ¬ (1 : Int) = 0 := by omega
      simp only [decoded, this, if_true, if_false, List.flatMap_cons]

theorem Decoded_L3_spec (l : List Int) (hl : l.length ≤ 2000000) : ∀ (k i : Nat) (out : List Int), l.length - i = k → out.length + 4 * k ≤ 100000000 →
    ref1_Decoded_L3 (pcL prog cfg) lpL ((out, l, (i : Int), ()), ()) = some ((out ++ (l.drop i).flatMap utf8, ()), ()) := by
  intro k
  induction k with
  | zero =>
    intro i out hk ho
    refine ref1_Decoded_L3_of ?_
    unfold ref1_Decoded_L3_R
    dsimp only
    refine (ifd_f (by simp only [decide_eq_true_eq]; omega)).trans ?_
    rw [List.drop_eq_nil_of_le (by omega)]
    simp
  | succ k ih =>
    intro i out hk ho
    refine ref1_Decoded_L3_of ?_
    unfold ref1_Decoded_L3_R
    dsimp only
    rw [Int.toNat_natCast, wrap64 (x := (i : Int) + 1) (by omega) (by omega)]
    refine (ifd_t (by simp only [decide_eq_true_eq]; omega)).trans ?_
    refine (ifd_t (by simp only [decide_eq_true_eq]; omega)).trans ?_
    refine bnd2 (Utf8_spec _) rfl ?_
    have hu := utf8_len (l.getD i 0)
    refine (ifd_t (by simp only [decide_eq_true_eq]; omega)).trans ?_
    have := ih (i + 1) (out ++ utf8 (l.getD i 0)) (by omega) (by rw [List.length_append]; omega)
    rw [Int.natCast_add] at this
    refine this.trans ?_
    rw [drop_getD l i (by omega), List.flatMap_cons, List.append_assoc]

theorem unitsL_cons (a b : Int) (r : List Int) : unitsL (a :: b :: r) = if isPair (256 * a + b) r then (65536 + 1024 * (256 * a + b - 55296) + (vAt r - 56320)) :: unitsL (r.drop 2) else (256 * a + b) :: unitsL r := by
  unfold unitsL
  rw [unitsP_cons]
  have e : (a :: b :: r).length % 2 = r.length % 2 := by simp only [List.length_cons]; omega
  rw [e]
  split
  · rename_i h
    simp only [isPair, Bool.and_eq_true, decide_eq_true_eq] at h
    have e2 : (r.drop 2).length % 2 = r.length % 2 := by rw [List.length_drop]; omega
    rw [e2]
    rfl
  · rfl

theorem Decoded_L5_spec (b : List Int) (hB : Bytes b) (hb : b.length ≤ 2000000) : ∀ (k i : Nat) (out : List Int), i ≤ b.length → b.length - i = k → out.length + 4 * k ≤ 100000000 →
    ref1_Decoded_L5 (pcL prog cfg) lpL ((b, out, (i : Int), ()), ()) = some (if (b.drop i).length % 2 = 1 then Sum.inl ((out ++ (unitsL (b.drop i)).flatMap utf8, ()), ()) else Sum.inr ((out ++ (unitsL (b.drop i)).flatMap utf8, ()), ())) := by
  intro k
  induction k using Nat.strongRecOn with
  | _ k ih =>
    intro i out hib hk ho
    refine ref1_Decoded_L5_of ?_
    unfold ref1_Decoded_L5_R
    dsimp only
    have hlen : ∀ (o : List Int) (x : Int), o.length ≤ 100000000 → (decide (o.length + (utf8 x).length ≤ 9223372036854775807)) = true := fun o x h => by
      have hl := utf8_len x
      simp only [decide_eq_true_eq]; omega
    by_cases hi : i < b.length
    · rw [wrap64 (x := (i : Int) + 1) (by omega) (by omega)]
      refine (ifd_t (by simp only [decide_eq_true_eq]; omega)).trans ?_
      by_cases hi1 : i + 1 = b.length
      · refine (ifd_t (by rw [beq_iff_eq]; omega)).trans ?_
        refine bnd2 (Utf8_spec _) rfl ?_
        refine (ifd_t (hlen out _ (by omega))).trans ?_
        have hl1 : (b.drop i).length = 1 := by rw [List.length_drop]; omega
        have hu : unitsL (b.drop i) = [-1] := by
          unfold unitsL
          rw [unitsP_short _ (by omega), hl1]
          rfl
        rw [hl1, hu]
        simp
      · refine (ifd_f (by intro h; rw [beq_iff_eq] at h; omega)).trans ?_
        refine (ifd_t (by simp only [decide_eq_true_eq]; omega)).trans ?_
        refine (ifd_t (by simp only [decide_eq_true_eq]; omega)).trans ?_
        have b0 := hB.getD i
        have b1 := hB.getD (i + 1)
        have e1 : Int.toNat ((i : Int) + 1) = i + 1 := by omega
        rw [Int.toNat_natCast, e1, wrap64 (x := b.getD i 0) (by omega) (by omega), wrap64 (x := b.getD (i + 1) 0) (by omega) (by omega), wrap64 (x := 256 * b.getD i 0) (by omega) (by omega), wrap64 (x := 256 * b.getD i 0 + b.getD (i + 1) 0) (by omega) (by omega)]
        have hu : 0 ≤ 256 * b.getD i 0 + b.getD (i + 1) 0 ∧ 256 * b.getD i 0 + b.getD (i + 1) 0 ≤ 65535 := by omega
        have hd := drop2 b i (by omega)
        have hul := unitsL_cons (b.getD i 0) (b.getD (i + 1) 0) (b.drop (i + 2))
        rw [← hd] at hul
        have hpar : (b.drop i).length % 2 = (b.drop (i + 2)).length % 2 := by rw [List.length_drop, List.length_drop]; omega
        rw [hul, hpar]
        generalize 256 * b.getD i 0 + b.getD (i + 1) 0 = u at hu
        refine bnd1 (v := ((b, out, (i : Int), u, (decide (55296 ≤ u ∧ u ≤ 56319) && decide (i + 3 < b.length)), ()), ())) ?_ ?_
        · unfold ref1_Decoded_C4
          dsimp only
          refine bnd2 (In_spec _ _ _) rfl ?_
          rw [wrap64 (by omega) (by omega)]
          have e3 : decide ((i : Int) + 3 < (b.length : Int)) = decide (i + 3 < b.length) := by rw [decide_eq_decide]; omega
          rw [e3]
          cases hq : decide (55296 ≤ u ∧ u ≤ 56319) with
          | true =>
            refine (ifd_t rfl).trans ?_
            refine (ifd_t rfl).trans ?_
            rfl
          | false =>
            refine (ifd_f (by simp)).trans ?_
            refine (ifd_f (by simp)).trans ?_
            rfl
        · dsimp only
          have stay : isPair u (b.drop (i + 2)) = false → ref1_Decoded_L5 (pcL prog cfg) lpL ((b, out ++ utf8 u, IntKind.wrap .i64 ((i : Int) + 2), ()), ()) = some (if (b.drop (i + 2)).length % 2 = 1 then Sum.inl ((out ++ (if isPair u (b.drop (i + 2)) then (65536 + 1024 * (u - 55296) + (vAt (b.drop (i + 2)) - 56320)) :: unitsL ((b.drop (i + 2)).drop 2) else u :: unitsL (b.drop (i + 2))).flatMap utf8, ()), ()) else Sum.inr ((out ++ (if isPair u (b.drop (i + 2)) then (65536 + 1024 * (u - 55296) + (vAt (b.drop (i + 2)) - 56320)) :: unitsL ((b.drop (i + 2)).drop 2) else u :: unitsL (b.drop (i + 2))).flatMap utf8, ()), ())) := fun hp => by
            have hl := utf8_len u
            rw [wrap64 (by omega) (by omega), hp]
            have := ih (b.length - (i + 2)) (by omega) (i + 2) (out ++ utf8 u) (by omega) rfl (by rw [List.length_append]; omega)
            rw [Int.natCast_add] at this
            refine this.trans ?_
            simp only [Bool.false_eq_true, if_false, List.flatMap_cons, List.append_assoc]
          by_cases h1 : (decide (55296 ≤ u ∧ u ≤ 56319) && decide (i + 3 < b.length)) = true
          · refine (ifd_t h1).trans ?_
            rw [Bool.and_eq_true, decide_eq_true_eq, decide_eq_true_eq] at h1
            have e2 : Int.toNat ((i : Int) + 2) = i + 2 := by omega
            have e3 : Int.toNat ((i : Int) + 3) = i + 3 := by omega
            have b2 := hB.getD (i + 2)
            have b3 := hB.getD (i + 3)
            rw [wrap64 (x := (i : Int) + 2) (by omega) (by omega), wrap64 (x := (i : Int) + 3) (by omega) (by omega)]
            refine (ifd_t (by simp only [decide_eq_true_eq]; omega)).trans ?_
            refine (ifd_t (by simp only [decide_eq_true_eq]; omega)).trans ?_
            rw [e2, e3, wrap64 (x := b.getD (i + 2) 0) (by omega) (by omega), wrap64 (x := b.getD (i + 3) 0) (by omega) (by omega), wrap64 (x := 256 * b.getD (i + 2) 0) (by omega) (by omega), wrap64 (x := 256 * b.getD (i + 2) 0 + b.getD (i + 3) 0) (by omega) (by omega)]
            have hv : vAt (b.drop (i + 2)) = 256 * b.getD (i + 2) 0 + b.getD (i + 3) 0 := drop2_vAt b i
            rw [← hv]
            have hvb : 0 ≤ vAt (b.drop (i + 2)) ∧ vAt (b.drop (i + 2)) ≤ 65535 := by rw [hv]; omega
            have hpair : isPair u (b.drop (i + 2)) = decide (56320 ≤ vAt (b.drop (i + 2)) ∧ vAt (b.drop (i + 2)) ≤ 57343) := by
              unfold isPair
              rw [decide_eq_true h1.1, decide_eq_true (by rw [List.length_drop]; omega : 2 ≤ (b.drop (i + 2)).length), Bool.true_and, Bool.true_and]
            refine bnd2 (In_spec _ _ _) rfl ?_
            by_cases h2 : 56320 ≤ vAt (b.drop (i + 2)) ∧ vAt (b.drop (i + 2)) ≤ 57343
            · refine (ifd_t (decide_eq_true h2)).trans ?_
              rw [hpair, decide_eq_true h2, if_pos rfl]
              rw [wrap64 (x := u - 55296) (by omega) (by omega), wrap64 (x := 1024 * (u - 55296)) (by omega) (by omega), wrap64 (x := 65536 + 1024 * (u - 55296)) (by omega) (by omega), wrap64 (x := 65536 + 1024 * (u - 55296) + vAt (b.drop (i + 2))) (by omega) (by omega), wrap64 (x := 65536 + 1024 * (u - 55296) + vAt (b.drop (i + 2)) - 56320) (by omega) (by omega), wrap64 (x := (i : Int) + 2 + 2) (by omega) (by omega)]
              refine bnd2 (Utf8_spec _) rfl ?_
              refine (ifd_t (hlen out _ (by omega))).trans ?_
              have hl := utf8_len (65536 + 1024 * (u - 55296) + vAt (b.drop (i + 2)) - 56320)
              have := ih (b.length - (i + 4)) (by omega) (i + 4) (out ++ utf8 (65536 + 1024 * (u - 55296) + vAt (b.drop (i + 2)) - 56320)) (by omega) rfl (by rw [List.length_append]; omega)
              have e4 : (i : Int) + 2 + 2 = ((i + 4 : Nat) : Int) := by omega
              rw [e4]
              refine this.trans ?_
              have e5 : (b.drop (i + 4)).length % 2 = (b.drop (i + 2)).length % 2 := by rw [List.length_drop, List.length_drop]; omega
              have e6 : 65536 + 1024 * (u - 55296) + (vAt (b.drop (i + 2)) - 56320) = 65536 + 1024 * (u - 55296) + vAt (b.drop (i + 2)) - 56320 := by omega
              rw [e5, e6, List.flatMap_cons, List.drop_drop, List.append_assoc]
            · refine (ifd_f (by simpa using h2)).trans ?_
              refine bnd2 (Utf8_spec _) rfl ?_
              refine (ifd_t (hlen out _ (by omega))).trans ?_
              have := stay (by rw [hpair]; exact decide_eq_false h2)
              rw [wrap64 (x := (i : Int) + 2) (by omega) (by omega)] at this
              exact this
          · refine (ifd_f h1).trans ?_
            refine bnd2 (Utf8_spec _) rfl ?_
            refine (ifd_t (hlen out _ (by omega))).trans ?_
            refine stay ?_
            rw [Bool.and_eq_true, decide_eq_true_eq, decide_eq_true_eq] at h1
            cases hp : isPair u (b.drop (i + 2)) with
            | false => rfl
            | true =>
              simp only [isPair, Bool.and_eq_true, decide_eq_true_eq, List.length_drop] at hp
              exact absurd ⟨hp.1, by omega⟩ h1
    · refine (ifd_f (by simp only [decide_eq_true_eq]; omega)).trans ?_
      rw [List.drop_eq_nil_of_le (by omega)]
      have hu : unitsL [] = [] := by unfold unitsL; rw [unitsP_short _ (by simp)]; rfl
      rw [hu]
      simp

theorem Decoded_spec (st : Int) (hst : st = 0 ∨ st = 1 ∨ st = 2 ∨ st = 3) (b : List Int) (hB : Bytes b) (hb : b.length ≤ 2000000) : ref1_Decoded_c (pcL prog cfg) st b = some (decoded st b) := by
  refine ref1_Decoded_of ?_
  unfold ref1_Decoded_B
  refine bnd1 (v := ((st, b, [], st, (st == 0 || st == 1), ()), ())) ?_ ?_
  · unfold ref1_Decoded_C1
    dsimp only
    by_cases h : st = 0
    · subst h; exact ifd_t rfl
    · refine (ifd_f (by simpa using h)).trans ?_
      have : (st == 0) = false := beq_eq_false_iff_ne.2 h
      rw [this, Bool.false_or]
  · dsimp only
    rcases hst with rfl | rfl | rfl | rfl
    · refine (ifd_t rfl).trans ?_
      have h := Decoded_L2_spec 0 (Or.inl rfl) b hB hb _ 0 [] rfl (by simp; omega)
      rw [List.drop_zero, List.nil_append] at h
      exact bnd1 h rfl
    · refine (ifd_t rfl).trans ?_
      have h := Decoded_L2_spec 1 (Or.inr rfl) b hB hb _ 0 [] rfl (by simp; omega)
      rw [List.drop_zero, List.nil_append] at h
      exact bnd1 h rfl
    · refine (ifd_f (by simp)).trans ?_
      refine (ifd_t rfl).trans ?_
      refine bnd2 (Runes_spec b hB hb) rfl ?_
      have hl := runesL_len _ b rfl
      have h := Decoded_L3_spec (runesL b) (by omega) _ 0 [] rfl (by simp; omega)
      rw [List.drop_zero, List.nil_append] at h
      exact bnd1 h rfl
    · refine (ifd_f (by simp)).trans ?_
      refine (ifd_f (by simp)).trans ?_
      refine (ifd_t rfl).trans ?_
      have h := Decoded_L5_spec b hB hb _ 0 [] (by omega) rfl (by simp; omega)
      rw [List.drop_zero, List.nil_append] at h
      refine bnd1 h ?_
      split <;> rfl

/-! ### encoding -/

theorem Encoded_C2_spec (st : Int) (hst : st = 0 ∨ st = 1 ∨ st = 2 ∨ st = 3) (s out : List Int) (i n k : Int) :
    ref1_Encoded_C2 (pcL prog cfg) lpL ((st, s, out, i, n, k, ()), ()) = some ((st, s, out, i, n, k, badIn st n, ()), ()) := by
  unfold ref1_Encoded_C2 badIn
  dsimp only
  simp only [ifd_eq]
  rcases hst with rfl | rfl | rfl | rfl
  · by_cases h : n > 127
    · simp [h]
    · simp [h]
  · by_cases h : n > 255
    · simp [h]
    · simp [h]
  · simp
  · simp

theorem Encoded_L3_spec (st : Int) (hst : st = 0 ∨ st = 1 ∨ st = 2 ∨ st = 3) (s : List Int) (hB : Bytes s) (hs : s.length ≤ 2000000) : ∀ (k i : Nat) (out : List Int), s.length - i = k → out.length + 4 * k ≤ 100000000 → validL (s.drop i) = true →
    ref1_Encoded_L3 (pcL prog cfg) lpL ((st, s, out, (i : Int), ()), ()) = some (if 0 ≤ (encG st i (s.drop i)).2 then Sum.inl (((), (encG st i (s.drop i)).2, ()), ()) else Sum.inr ((out ++ (encG st i (s.drop i)).1, ()), ())) := by
  intro k
  induction k using Nat.strongRecOn with
  | _ k ih =>
    intro i out hk ho hv
    refine ref1_Encoded_L3_of ?_
    unfold ref1_Encoded_L3_R
    dsimp only
    by_cases hi : i < s.length
    · refine (ifd_t (by simp only [decide_eq_true_eq]; omega)).trans ?_
      refine bnd2 (Rune_spec s hB (by omega) i hi) rfl ?_
      refine bnd1 (Encoded_C2_spec st hst s out _ _ _) ?_
      dsimp only
      obtain ⟨hok, h1, h2, h3, _, _⟩ := valid_at s hB i hi hv
      have hu := utf8_rune1 (s.getD i 0) (s.drop (i + 1)) (by rw [← drop_getD s i hi]; exact hB.drop i)
      rw [← drop_getD s i hi] at hu
      have hu := (hu hok.1).1
      have hE := encG_at st s i hi
      have hih := fun o => ih (s.length - (i + (rune1 (s.drop i)).2)) (by omega) (i + (rune1 (s.drop i)).2) o rfl
      unfold Ok at hok
      have hpl := piece_len st (rune1 (s.drop i)).1
      rw [wrap64 (x := (i : Int) + (((rune1 (s.drop i)).2 : Nat) : Int)) (by omega) (by omega)]
      have go : badIn st (rune1 (s.drop i)).1 = false → ref1_Encoded_L3 (pcL prog cfg) lpL ((st, s, out ++ piece st (rune1 (s.drop i)).1, (i : Int) + (((rune1 (s.drop i)).2 : Nat) : Int), ()), ()) = some (if 0 ≤ (encG st i (s.drop i)).2 then Sum.inl (((), (encG st i (s.drop i)).2, ()), ()) else Sum.inr ((out ++ (encG st i (s.drop i)).1, ()), ())) := fun hbad => by
        have := hih (out ++ piece st (rune1 (s.drop i)).1) (by rw [List.length_append]; omega) h3
        rw [Int.natCast_add] at this
        rw [this, hE, hbad]
        by_cases hq : 0 ≤ (encG st (i + (rune1 (s.drop i)).2) (s.drop (i + (rune1 (s.drop i)).2))).2
        · simp only [hq, if_true, Bool.false_eq_true, if_false]
        · have : ¬ (0 : Int) ≤ -1 := by omega
          simp only [hq, this, if_true, Bool.false_eq_true, if_false, List.append_assoc]
      cases hbad : badIn st (rune1 (s.drop i)).1 with
      | true =>
        refine (ifd_t rfl).trans ?_
        rw [hE, hbad]
        have : (0 : Int) ≤ (i : Int) := by omega
        simp only [this, if_true]
      | false =>
        have go := go hbad
        refine (ifd_f (by simp)).trans ?_
        generalize hq : rune1 (s.drop i) = q at *
        rcases hst with rfl | rfl | rfl | rfl
        · have h127 : q.1 ≤ 127 := by
            simp [badIn] at hbad; exact hbad
          refine (ifd_t rfl).trans ?_
          rw [wrapU8i hok.1 (by omega)]
          refine (ifd_t (by simp only [decide_eq_true_eq, List.length_cons, List.length_nil]; omega)).trans ?_
          exact go
        · have h255 : q.1 ≤ 255 := by
            simp [badIn] at hbad; exact hbad
          refine (ifd_t rfl).trans ?_
          rw [wrapU8i hok.1 (by omega)]
          refine (ifd_t (by simp only [decide_eq_true_eq, List.length_cons, List.length_nil]; omega)).trans ?_
          exact go
        · refine (ifd_f (by simp)).trans ?_
          refine (ifd_t rfl).trans ?_
          have e1 : Int.toNat ((i : Int) + ((q.2 : Nat) : Int)) = i + q.2 := by omega
          have e2 : List.drop i (List.take (i + q.2) s) = utf8 q.1 := by
            rw [hu, List.drop_take, Nat.add_sub_cancel_left]
          rw [Int.toNat_natCast, e1, e2]
          have hul := utf8_len q.1
          refine (ifd_t (by simp only [decide_eq_true_eq]; omega)).trans ?_
          refine (ifd_t (by simp only [decide_eq_true_eq]; omega)).trans ?_
          exact go
        · refine (ifd_f (by simp)).trans ?_
          refine (ifd_f (by simp)).trans ?_
          have hpc : piece 3 q.1 = pair16 q.1 := rfl
          rw [hpc] at go
          unfold pair16 at go
          by_cases h6 : q.1 < 65536
          · refine (ifd_t (decide_eq_true h6)).trans ?_
            rw [if_pos h6] at go
            rw [tdiv_pos (x := q.1) hok.1, tmod_pos (x := q.1) hok.1, wrap64 (x := q.1 / 256) (by omega) (by omega), wrapU8i (x := q.1 / 256) (by omega) (by omega), wrapU8i (x := q.1 % 256) (by omega) (by omega)]
            refine (ifd_t (by simp only [decide_eq_true_eq, List.length_cons, List.length_nil]; omega)).trans ?_
            exact go
          · refine (ifd_f (by simpa using h6)).trans ?_
            rw [if_neg h6] at go
            rw [wrap64 (x := q.1 - 65536) (by omega) (by omega), tdiv_pos (x := q.1 - 65536) (by omega), tmod_pos (x := q.1 - 65536) (by omega), wrap64 (x := (q.1 - 65536) / 1024) (by omega) (by omega), wrap64 (x := 55296 + (q.1 - 65536) / 1024) (by omega) (by omega), wrap64 (x := 56320 + (q.1 - 65536) % 1024) (by omega) (by omega),
              tdiv_pos (x := 55296 + (q.1 - 65536) / 1024) (by omega), tmod_pos (x := 55296 + (q.1 - 65536) / 1024) (by omega), tdiv_pos (x := 56320 + (q.1 - 65536) % 1024) (by omega), tmod_pos (x := 56320 + (q.1 - 65536) % 1024) (by omega),
              wrap64 (x := (55296 + (q.1 - 65536) / 1024) / 256) (by omega) (by omega), wrap64 (x := (56320 + (q.1 - 65536) % 1024) / 256) (by omega) (by omega),
              wrapU8i (x := (55296 + (q.1 - 65536) / 1024) / 256) (by omega) (by omega), wrapU8i (x := (55296 + (q.1 - 65536) / 1024) % 256) (by omega) (by omega), wrapU8i (x := (56320 + (q.1 - 65536) % 1024) / 256) (by omega) (by omega), wrapU8i (x := (56320 + (q.1 - 65536) % 1024) % 256) (by omega) (by omega)]
            refine (ifd_t (by simp only [decide_eq_true_eq, List.length_cons, List.length_nil]; omega)).trans ?_
            exact go
    · refine (ifd_f (by simp only [decide_eq_true_eq]; omega)).trans ?_
      rw [List.drop_eq_nil_of_le (by omega), encG_nil]
      simp

theorem Encoded_spec (st : Int) (hst : st = 0 ∨ st = 1 ∨ st = 2 ∨ st = 3) (s : List Int) (hB : Bytes s) (hs : s.length ≤ 2000000) (hv : validL s = true) :
    ref1_Encoded_c (pcL prog cfg) st s = some (if 0 ≤ (encG st 0 s).2 then ([], ((encG st 0 s).2, ())) else ((encG st 0 s).1, (-1, ()))) := by
  refine ref1_Encoded_of ?_
  unfold ref1_Encoded_B
  have h := Encoded_L3_spec st hst s hB hs _ 0 [] rfl (by simp; omega) (by rw [List.drop_zero]; exact hv)
  rw [List.drop_zero, List.nil_append] at h
  refine bnd1 h ?_
  by_cases hq : 0 ≤ (encG st 0 s).2
  · simp only [hq, if_true, Sum.elim_inl]
  · simp only [hq, if_false, Sum.elim_inr]

end Go.Proofs.YtklllljgdabheaaDoorSim
