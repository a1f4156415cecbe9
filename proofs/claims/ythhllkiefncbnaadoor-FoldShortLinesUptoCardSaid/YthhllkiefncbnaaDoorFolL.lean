/- fold: the laws about folding. -/
import Derived.Test.YthhllkiefncbnaaDoorFolR
namespace Go.Proofs.YthhllkiefncbnaaDoorSim
open Go Go.Proofs
open Go.Proofs.Tryd (prog)
set_option linter.unusedVariables false
set_option linter.unusedSimpArgs false

theorem fStrings_loop (a b : List (List Int)) (hl : a.length = b.length) (hb : a.length ≤ 4000000000) : ∀ (k i : Nat), i + k = a.length →
    ref1_Strings_L1 (pcL prog cfg) lpL ((a, b, (i : Int), ()), ()) = some (if a.drop i = b.drop i then Sum.inr ((), ()) else Sum.inl ((false, ()), ())) := by
  intro k
  induction k with
  | zero =>
    intro i hk
    refine ref1_Strings_L1_of ?_
    unfold ref1_Strings_L1_R
    dsimp only
    refine (ifd_f (by simp only [decide_eq_true_eq]; omega)).trans ?_
    rw [List.drop_eq_nil_of_le (by omega), List.drop_eq_nil_of_le (by omega)]
    rfl
  | succ k ih =>
    intro i hk
    refine ref1_Strings_L1_of ?_
    unfold ref1_Strings_L1_R
    dsimp only
    rw [nx (by omega), Int.toNat_natCast, getD_drop2 a i (by omega), getD_drop2 b i (by omega), ih (i + 1) (by omega)]
    refine (ifd_t (by simp only [decide_eq_true_eq]; omega)).trans ?_
    refine (ifd_t (by simp only [decide_eq_true_eq]; omega)).trans ?_
    refine (ifd_t (by simp only [decide_eq_true_eq]; omega)).trans ?_
    by_cases h : a.getD i [] = b.getD i []
    · refine (ifd_f (by rw [h]; simp)).trans ?_
      by_cases h2 : a.drop (i + 1) = b.drop (i + 1)
      · rw [if_pos h2, if_pos (by rw [h, h2])]
      · rw [if_neg h2, if_neg (fun q => h2 (by injection q))]
    · refine (ifd_t (by simpa using h)).trans ?_
      rw [if_neg (fun q => h (by injection q))]

theorem fStrings_spec (a b : List (List Int)) (hb : a.length ≤ 4000000000) : ref1_Strings_c (pcL prog cfg) a b = some (a == b) := by
  refine ref1_Strings_of ?_
  unfold ref1_Strings_B
  by_cases hl : a.length = b.length
  · refine (ifd_f (by simp [hl])).trans ?_
    have := fStrings_loop a b hl hb a.length 0 (by omega)
    rw [List.drop_zero, List.drop_zero] at this
    refine bnd1 this ?_
    by_cases h : a = b
    · rw [if_pos h, h]; simp
    · rw [if_neg h]
      have : (a == b) = false := by simpa using h
      rw [this]; rfl
  · refine (ifd_t (by simp only [bne_iff_ne, ne_eq]; omega)).trans ?_
    have : (a == b) = false := by
      rw [beq_eq_false_iff_ne]; intro e; exact hl (by rw [e])
    rw [this]

theorem ex_fold : foldV [97] [98] = ([[97, 58, 32, 98]], ((0, (0, ())), ())) := by decide
theorem ex_unfold : unfoldV [[97, 58, 32, 98], [32, 99]] = ([97], ([98, 32, 99], ((0, (0, ())), ()))) := by decide

theorem fExample_spec : law1_foldExample_c (pcL prog cfg) = some true := by
  refine law1_foldExample_of ?_
  unfold law1_foldExample_B
  have hB1 : Bytes [98] := by intro x hx; simp at hx; omega
  have hB2 : Bytes [[97, 58, 32, 98], [32, (99 : Int)]].flatten := by intro x hx; simp at hx; omega
  refine bnd2 (Fold_spec [97] [98] hB1 (by simp)) rfl ?_
  refine bnd2 (Unfold_spec _ hB2 (by simp) (by simp)) rfl ?_
  rw [ex_fold, ex_unfold]
  dsimp only
  refine (ifd_t (by decide)).trans ?_
  refine (ifd_t (by decide)).trans ?_
  refine (ifd_t (by decide)).trans ?_
  refine bnd2 (fStrings_spec _ _ (by simp)) rfl ?_
  refine (ifd_t (by decide)).trans ?_
  refine (ifd_t (by decide)).trans ?_
  refine (ifd_t (by decide)).trans ?_
  refine (ifd_t (by decide)).trans ?_
  refine (ifd_t (by decide)).trans ?_
  rfl

/-- what comes of folding, and the fault -/
theorem fold_fault (name value : List Int) : (foldV name value).2.1 = faultF name value ∧ ((faultF name value).1 ≠ 0 → (foldV name value).1 = []) ∧ ((faultF name value).1 = 0 → codeF name value = 0 ∧ foldV name value = (linesL name value, ((0, (0, ())), ()))) := by
  unfold foldV faultF
  by_cases h : codeF name value = 0
  · rw [if_neg (by simp [h]), if_neg (by simp [h])]
    cases (linesL name value).findIdx? longB with
    | none => exact ⟨rfl, fun q => absurd rfl q, fun _ => ⟨h, rfl⟩⟩
    | some j => exact ⟨rfl, fun _ => rfl, fun q => absurd (show (1 : Int) = 0 from q) (by decide)⟩
  · rw [if_pos h, if_pos h]
    exact ⟨rfl, fun _ => rfl, fun q => absurd q h⟩

theorem flaw1 (name value : List Int) (hn : Bytes name) (hv : Bytes value) (h : name.length + value.length ≤ 2000000) : law1_FoldMatchesSpec_c (pcL prog cfg) name value = some true := by
  refine law1_FoldMatchesSpec_of ?_
  unfold law1_FoldMatchesSpec_B
  refine bnd2 fExample_spec rfl ?_
  refine (ifd_f (by decide)).trans ?_
  refine bnd2 (Fold_spec name value hv h) rfl ?_
  refine bnd2 (FoldFault_spec name value hn h) rfl ?_
  obtain ⟨h1, h2, h3⟩ := fold_fault name value
  dsimp only
  rw [h1]
  by_cases h0 : (faultF name value).1 = 0
  · obtain ⟨hc, hf⟩ := h3 h0
    refine (ifd_f (by simp [h0])).trans ?_
    refine (ifd_t (by simpa using h0)).trans ?_
    refine bnd2 (Folded_spec name value h) rfl ?_
    rw [hf]
    refine bnd2 (fStrings_spec _ _ (by have : (linesL name value).length ≤ name.length + 2 + value.length := linesF_len _ _ _
                                       show (linesL name value).length ≤ _; omega)) rfl ?_
    refine (ifd_t (by simpa using h0)).trans ?_
    simp
  · refine (ifd_t (by simpa using h0)).trans ?_
    refine (ifd_t (by simp)).trans ?_
    refine (ifd_t (by simp)).trans ?_
    rw [h2 h0]; rfl

/-! ### What lines look like -/
theorem code0 {name value : List Int} (h : codeF name value = 0) : nameOk name = true ∧ value.length ≤ 4000 ∧ value.any badB = false ∧ trimB value = value := by
  unfold codeF at h
  split at h
  · cases h
  · rename_i h1
    split at h
    · cases h
    · rename_i h2
      split at h
      · cases h
      · rename_i h3
        split at h
        · rename_i h4
          exact ⟨by simpa using h1, by omega, by simpa using h3, h4⟩
        · cases h

/-- each line but the first begins with a blank -/
theorem heads (s : List Int) : ∀ (n f : Nat), 1 ≤ f → ∀ (i : Nat), 0 < i → i < (linesF n s f).length → ∃ c r, (linesF n s f).getD i [] = c :: r ∧ blankB c = true := by
  intro n
  induction n generalizing s with
  | zero => intro f hf i h0 hi; simp [linesF] at hi
  | succ n ih =>
    intro f hf i h0 hi
    rw [linesF] at hi ⊢
    by_cases hs : s = []
    · rw [if_pos hs] at hi; simp at hi
    · rw [if_neg hs] at hi ⊢
      obtain ⟨j, rfl⟩ : ∃ j, i = j + 1 := ⟨i - 1, by omega⟩
      rw [List.getD_cons_succ]
      by_cases hj : 0 < j
      · exact ih _ 1 (by omega) j hj (by simp at hi; omega)
      · have : j = 0 := by omega
        subst this
        cases n with
        | zero => simp [linesF] at hi
        | succ m =>
          rw [linesF] at hi ⊢
          by_cases hd : s.drop (brk s f) = []
          · rw [if_pos hd] at hi; simp at hi
          · rw [if_neg hd, List.getD_cons_zero]
            have hp := brk_pos (s.drop (brk s f)) 1 (by omega) hd
            have hlt : brk s f < s.length := Classical.byContradiction fun q => hd (List.drop_eq_nil_of_le (by omega))
            have hb : isPt s (brk s f) = true := by
              unfold brk at hlt ⊢
              split at hlt
              · omega
              · rename_i h78
                rw [if_neg h78]
                cases hsn : scan s (s.length - f) f none with
                | none => rw [hsn] at hlt; simp at hlt
                | some p =>
                  rcases scan_pt s _ _ _ p hsn with q | ⟨_, _, q⟩
                  · cases q
                  · exact q
            rw [drop_getD s _ hlt]
            obtain ⟨m', hm'⟩ : ∃ m', brk (s.getD (brk s f) 0 :: s.drop (brk s f + 1)) 1 = m' + 1 := by
              rw [drop_getD s _ hlt] at hp
              exact ⟨_, (Nat.sub_add_cancel hp.1).symm⟩
            rw [hm', List.take_succ_cons]
            refine ⟨_, _, rfl, ?_⟩
            unfold isPt at hb
            rw [Bool.and_eq_true] at hb
            exact hb.1

theorem trimL_same (s : List Int) : (trimL s == s) = (s == [] || !blankB (s.getD 0 0)) := by
  cases s with
  | nil => rfl
  | cons c r =>
    have e : (c :: r).getD 0 0 = c := rfl
    rw [e]
    cases h : blankB c with
    | false => rw [trimL_non h]; simp
    | true =>
      rw [trimL, if_pos h]
      have := trimL_len r
      have : (trimL r == c :: r) = false := by
        rw [beq_eq_false_iff_ne]; intro q
        have := congrArg List.length q
        simp only [List.length_cons] at this; omega
      rw [this]; simp

theorem colon_app (name r : List Int) (h : ∀ c ∈ name, c ≠ 58) : colon (name ++ 58 :: r) = name.length := by
  unfold colon
  induction name with
  | nil => rw [List.nil_append, indexByteL_cons, if_pos rfl]; rfl
  | cons a l ih =>
    have := ih fun c hc => h c (by simp [hc])
    rw [List.cons_append, indexByteL_cons, if_neg (h a (by simp)), if_neg (by omega), this]
    simp

theorem nameOk_mem {name : List Int} (h : nameOk name = true) : (∀ c ∈ name, 33 ≤ c ∧ c ≤ 126 ∧ c ≠ 58) ∧ 1 ≤ name.length ∧ name.length ≤ 60 := by
  unfold nameOk at h
  rw [Bool.and_eq_true, List.all_eq_true, decide_eq_true_eq] at h
  refine ⟨fun c hc => ?_, h.2⟩
  have := h.1 c hc
  simp at this
  omega

theorem firstBad_none (l : List (List Int)) : ∀ (k i : Nat), (∀ j, i ≤ j → j < i + k → badL l j = false) → firstBad l k i = none
  | 0, _, _ => rfl
  | k + 1, i, h => by
    rw [firstBad, h i (by omega) (by omega), if_neg (by simp)]
    exact firstBad_none l k (i + 1) fun j h1 h2 => h j (by omega) (by omega)

theorem mem_flat {l : List (List Int)} {i : Nat} {x : Int} (h : x ∈ l.getD i []) : x ∈ l.flatten := by
  rw [List.getD_eq_getElem?_getD] at h
  cases hl : l[i]? with
  | none => rw [hl] at h; cases h
  | some y =>
    rw [hl] at h
    rw [List.mem_flatten]
    exact ⟨y, List.mem_of_getElem? hl, h⟩

theorem unfold_fold (name value : List Int) (h : codeF name value = 0) (h300 : (linesL name value).length ≤ 300) : unfoldV (linesL name value) = (name, (value, ((0, (0, ())), ()))) := by
  obtain ⟨hn, hl, hb, ht⟩ := code0 h
  obtain ⟨n1, n2, n3⟩ := nameOk_mem hn
  have hflat : (linesL name value).flatten = name ++ 58 :: (32 :: value) := by
    unfold linesL
    rw [linesF_flat _ _ _ (by omega) (by simp; omega)]
    rfl
  have hbad : ∀ j, j < (linesL name value).length → badL (linesL name value) j = false := fun j hjl => by
    unfold badL
    have h1 : ((linesL name value).getD j []).any badB = false := by
      rw [List.any_eq_false]
      intro x hx
      have := mem_flat hx
      rw [hflat] at this
      rw [badB_iff]
      rw [List.any_eq_false] at hb
      simp only [List.mem_append, List.mem_cons] at this
      rcases this with q | q | q | q
      · have := n1 x q; omega
      · omega
      · omega
      · have := hb x q
        rwa [badB_iff] at this
    rw [h1, Bool.false_or]
    by_cases hj : 0 < j
    · rw [decide_eq_true hj, Bool.true_and, trimL_same]
      obtain ⟨c, r, e, hbl⟩ := heads (name ++ ([58, 32] ++ value)) (name.length + 2 + value.length) (name.length + 3) (by omega) j hj hjl
      have e' : (linesL name value).getD j [] = c :: r := e
      rw [e']
      simp [hbl]
    · rw [decide_eq_false hj, Bool.false_and]
  have hfb := firstBad_none (linesL name value) (linesL name value).length 0 (fun j _ h2 => hbad j (by omega))
  have hj : joinV (name ++ 58 :: (32 :: value)) = (name, (value, (true, ()))) := by
    unfold joinV
    rw [colon_app name _ (fun c hc => (n1 c hc).2.2), if_neg (by omega), Int.toNat_natCast]
    have e1 : (name ++ 58 :: (32 :: value)).take name.length = name := by simp
    have e2 : (name ++ 58 :: (32 :: value)).drop (name.length + 1) = 32 :: value := by
      rw [← List.drop_drop, List.drop_left]; rfl
    have e3 : trimB (32 :: value) = value := by
      rw [trimB, trim_comm, trimL, if_pos (by decide), ← trim_comm, ← trimB, ht]
    rw [e1, e2, e3, hn]
  unfold unfoldV
  rw [if_neg (by omega), hfb]
  dsimp only
  rw [hflat, hj]
  rw [if_neg (by simp; omega)]
  dsimp only
  rw [if_neg (by simp), if_neg (by omega)]

theorem flaw2 (name value : List Int) (hn : Bytes name) (hv : Bytes value) (h : name.length + value.length ≤ 1900000) : law1_FoldRoundTrip_c (pcL prog cfg) name value = some true := by
  refine law1_FoldRoundTrip_of ?_
  unfold law1_FoldRoundTrip_B
  refine bnd2 fExample_spec rfl ?_
  refine (ifd_f (by decide)).trans ?_
  refine bnd2 (Fold_spec name value hv (by omega)) rfl ?_
  obtain ⟨h1, h2, h3⟩ := fold_fault name value
  dsimp only
  rw [h1]
  have c1 : ∀ (l : List (List Int)) (c x : Int), law1_FoldRoundTrip_C1 (pcL prog cfg) lpL ((name, value, l, (), ()), ((c, x, ()), ())) = some ((name, value, l, (), (c != 0 || decide (((l.length : Nat) : Int) > 300)), ()), ((c, x, ()), ())) := fun l c x => by
    unfold law1_FoldRoundTrip_C1
    dsimp only
    cases (c != 0) <;> rfl
  have c2 : ∀ (l : List (List Int)) (c x : Int), law1_FoldRoundTrip_C2 (pcL prog cfg) lpL ((l, (), ()), ((c, x, ()), ())) = some (((c == 0 || (((l.length : Nat) : Int) == 0)), ()), ((c, x, ()), ())) := fun l c x => by
    unfold law1_FoldRoundTrip_C2
    dsimp only
    cases (c == 0) <;> rfl
  refine bnd1 (c1 _ _ _) ?_
  dsimp only
  by_cases h0 : (faultF name value).1 = 0
  · obtain ⟨hc, hf⟩ := h3 h0
    by_cases h300 : (linesL name value).length ≤ 300
    · rw [hf]
      refine (ifd_f (by simp [h0]; omega)).trans ?_
      have hlen : (linesL name value).length ≤ name.length + 2 + value.length := linesF_len _ _ _
      have hflat : (linesL name value).flatten = name ++ ([58, 32] ++ value) := linesF_flat _ _ _ (by omega) (by simp; omega)
      have hBf : Bytes (linesL name value).flatten := by
        rw [hflat]
        refine hn.append (Bytes.append ?_ hv)
        intro x hx; simp at hx; omega
      refine bnd2 (Unfold_spec (linesL name value) hBf (by rw [hflat]; simp; omega) (by omega)) rfl ?_
      rw [unfold_fold name value hc h300]
      dsimp only
      refine (ifd_t (by decide)).trans ?_
      refine (ifd_t (by decide)).trans ?_
      refine (ifd_t (by simp)).trans ?_
      refine (ifd_t (by simp)).trans ?_
      simp
    · rw [hf]
      refine (ifd_t (by simp; omega)).trans ?_
      refine bnd1 (c2 _ _ _) ?_
      simp [h0]
  · refine (ifd_t (by simp [h0])).trans ?_
    refine bnd1 (c2 _ _ _) ?_
    rw [h2 h0]
    simp

/-! ### Short lines -/
theorem isPt_take (s : List Int) (p q : Nat) (h : q < p) : isPt (s.take p) q = isPt s q := by
  have e : ∀ j, j < p → (s.take p).getD j 0 = s.getD j 0 := fun j hj => by
    rw [List.getD_eq_getElem?_getD, List.getElem?_take, if_pos hj, List.getD_eq_getElem?_getD]
  unfold isPt
  rw [e q h, e (q - 1) (by omega)]

theorem line_short (s : List Int) (f : Nat) (h1 : 1 ≤ f) (h78 : 78 < (s.take (brk s f)).length) : ∀ q, f ≤ q → q < (s.take (brk s f)).length → isPt (s.take (brk s f)) q = false := by
  intro q hq1 hq2
  rw [List.length_take] at h78 hq2
  rw [isPt_take s _ q (by omega)]
  unfold brk at h78 hq2
  by_cases hs : s.length ≤ 78
  · rw [if_pos hs] at h78; omega
  rw [if_neg hs] at h78 hq2
  cases hsn : scan s (s.length - f) f none with
  | none =>
    rw [hsn] at hq2
    simp at hq2
    exact scan_none s _ _ hsn q hq1 (by omega)
  | some p =>
    rw [hsn] at h78 hq2
    simp at h78 hq2
    exact (scan_short s _ _ none (fun b e => by cases e) p hsn (by omega)).2 q hq1 (by omega)

/-- what is asked of each line: i-th line, broken at f or later -/
structure LineOk (ne : Bool) (l : List Int) (f : Nat) : Prop where
  some_ : l ≠ []
  short : 78 < l.length → ∀ q, f ≤ q → q < l.length → isPt l q = false
  last : ne = true → blankB (l.getD (l.length - 1) 0) = false

theorem lines_ok (ne : Bool) : ∀ (n : Nat) (s : List Int) (f : Nat), 1 ≤ f → (ne = true → s ≠ [] → blankB (s.getD (s.length - 1) 0) = false) → ∀ i, i < (linesF n s f).length → LineOk ne ((linesF n s f).getD i []) (if i = 0 then f else 1)
  | 0, s, f, _, _, i, hi => by simp [linesF] at hi
  | n + 1, s, f, h1, hl, i, hi => by
    rw [linesF] at hi ⊢
    by_cases hs : s = []
    · rw [if_pos hs] at hi; simp at hi
    · rw [if_neg hs] at hi ⊢
      have hp := brk_pos s f h1 hs
      cases i with
      | zero =>
        rw [List.getD_cons_zero, if_pos rfl]
        have htl : (s.take (brk s f)).length = brk s f := by rw [List.length_take]; omega
        refine ⟨fun e => ?_, line_short s f h1, fun hne => ?_⟩
        · rw [e] at htl; simp at htl; omega
        · rw [htl]
          have e : (s.take (brk s f)).getD (brk s f - 1) 0 = s.getD (brk s f - 1) 0 := by
            rw [List.getD_eq_getElem?_getD, List.getElem?_take, if_pos (by omega), List.getD_eq_getElem?_getD]
          rw [e]
          by_cases hall : brk s f = s.length
          · rw [hall]; exact hl hne hs
          · unfold brk at hall ⊢
            split at hall
            · exact absurd rfl hall
            · rename_i h78
              rw [if_neg h78]
              cases hsn : scan s (s.length - f) f none with
              | none => rw [hsn] at hall; exact absurd rfl hall
              | some p =>
                rcases scan_pt s _ _ _ p hsn with q | ⟨_, _, q⟩
                · cases q
                · unfold isPt at q
                  rw [Bool.and_eq_true] at q
                  simpa using q.2
      | succ i =>
        rw [List.getD_cons_succ, if_neg (by omega)]
        have := lines_ok ne n (s.drop (brk s f)) 1 (by omega) (fun hne hd => by
          have hlt : brk s f < s.length := Classical.byContradiction fun q => hd (List.drop_eq_nil_of_le (by omega))
          rw [List.length_drop]
          have e : (s.drop (brk s f)).getD (s.length - brk s f - 1) 0 = s.getD (s.length - 1) 0 := by
            rw [List.getD_eq_getElem?_getD, List.getElem?_drop, List.getD_eq_getElem?_getD]
            congr 2; omega
          rw [e]; exact hl hne hs) i (by simp at hi; omega)
        have hif : (if i = 0 then 1 else 1) = 1 := by split <;> rfl
        rw [hif] at this
        exact this

theorem Short_inner (name value : List Int) (l : List (List Int)) (c x : Int) (i : Nat) (hi : i < l.length) (hb : l.length ≤ 4000000) (f : Nat) (h1 : 1 ≤ f) (hsh : 78 < (l.getD i []).length → ∀ q, f ≤ q → q < (l.getD i []).length → isPt (l.getD i []) q = false) (hl : (l.getD i []).length ≤ 4000000) : ∀ (k j : Nat), (l.getD i []).length - j = k → f ≤ j →
    law1_FoldShortLines_L3 (pcL prog cfg) lpL ((name, value, l, (i : Int), (j : Int), ()), ((c, x, ()), ())) = some (Sum.inr ((name, value, l, (i : Int), ()), ((c, x, ()), ()))) := by
  intro k
  have c2 : ∀ j : Nat, law1_FoldShortLines_C2 (pcL prog cfg) lpL ((name, value, l, (i : Int), (j : Int), ()), ((c, x, ()), ())) = some ((name, value, l, (i : Int), (j : Int), (decide ((j : Int) < (((l.getD i []).length : Nat) : Int)) && decide ((((l.getD i []).length : Nat) : Int) > 78)), ()), ((c, x, ()), ())) := fun j => by
    unfold law1_FoldShortLines_C2
    dsimp only
    rw [Int.toNat_natCast]
    refine (ifd_t (by simp only [decide_eq_true_eq]; omega)).trans ?_
    cases decide ((j : Int) < (((l.getD i []).length : Nat) : Int)) with
    | false => rfl
    | true =>
      refine (ifd_t rfl).trans ?_
      refine (ifd_t (by simp only [decide_eq_true_eq]; omega)).trans ?_
      rfl
  induction k with
  | zero =>
    intro j hk hf
    refine law1_FoldShortLines_L3_of ?_
    unfold law1_FoldShortLines_L3_R
    refine bnd1 (c2 j) ?_
    rw [decide_eq_false (show ¬ ((j : Int) < (((l.getD i []).length : Nat) : Int)) by omega)]
    refine (ifd_f (by simp)).trans ?_
    rfl
  | succ k ih =>
    intro j hk hf
    refine law1_FoldShortLines_L3_of ?_
    unfold law1_FoldShortLines_L3_R
    refine bnd1 (c2 j) ?_
    dsimp only
    by_cases h78 : (l.getD i []).length > 78
    · have hpt := hsh h78 j hf (by omega)
      rw [decide_eq_true (show ((j : Int) < (((l.getD i []).length : Nat) : Int)) by omega), decide_eq_true (show ((((l.getD i []).length : Nat) : Int) > 78) by omega), nx (by omega), pv (by omega) (by omega), Int.toNat_natCast, Int.toNat_natCast, Int.toNat_natCast]
      refine (ifd_t rfl).trans ?_
      refine (ifd_t (by simp only [decide_eq_true_eq]; omega)).trans ?_
      refine (ifd_t (by simp only [decide_eq_true_eq]; omega)).trans ?_
      refine bnd2 (Blank_spec _) rfl ?_
      unfold isPt at hpt
      cases hb1 : blankB ((l.getD i []).getD j 0) with
      | false =>
        refine (ifd_f (by simp)).trans ?_
        refine (ifd_f (by simp)).trans ?_
        exact ih (j + 1) (by omega) (by omega)
      | true =>
        refine (ifd_t rfl).trans ?_
        refine (ifd_t (by simp only [decide_eq_true_eq]; omega)).trans ?_
        refine (ifd_t (by simp only [decide_eq_true_eq]; omega)).trans ?_
        refine bnd2 (Blank_spec _) rfl ?_
        refine (ifd_t rfl).trans ?_
        rw [hb1] at hpt
        have hb2 : blankB ((l.getD i []).getD (j - 1) 0) = true := by simpa using hpt
        rw [hb2]
        refine (ifd_f (by simp)).trans ?_
        exact ih (j + 1) (by omega) (by omega)
    · rw [decide_eq_false (show ¬ ((((l.getD i []).length : Nat) : Int) > 78) by omega), Bool.and_false]
      exact ifd_f (by simp)

theorem Short_loop (name value : List Int) (l : List (List Int)) (hb : l.length ≤ 4000000) (hln : ∀ i, (l.getD i []).length ≤ 4000000) (hnm : name.length ≤ 4000000)
    (hok : ∀ i, i < l.length → LineOk (value != []) (l.getD i []) (if i = 0 then name.length + 3 else 1)) (c x : Int) : ∀ (k i : Nat), l.length - i = k → i ≤ l.length →
    law1_FoldShortLines_L4 (pcL prog cfg) lpL ((name, value, l, (i : Int), ()), ((c, x, ()), ())) = some (Sum.inr ((l, ()), ((c, x, ()), ()))) := by
  intro k
  induction k with
  | zero =>
    intro i hk hi
    refine law1_FoldShortLines_L4_of ?_
    unfold law1_FoldShortLines_L4_R
    exact ifd_f (by simp only [decide_eq_true_eq]; omega)
  | succ k ih =>
    intro i hk hi
    have hlt : i < l.length := by omega
    obtain ⟨o1, o2, o3⟩ := hok i hlt
    refine law1_FoldShortLines_L4_of ?_
    unfold law1_FoldShortLines_L4_R
    dsimp only
    refine (ifd_t (by simp only [decide_eq_true_eq]; omega)).trans ?_
    have c1 : law1_FoldShortLines_C1 (pcL prog cfg) lpL ((name, value, l, (i : Int), 1, ()), ((c, x, ()), ())) = some ((name, value, l, (i : Int), ((if i = 0 then name.length + 3 else 1 : Nat) : Int), ()), ((c, x, ()), ())) := by
      unfold law1_FoldShortLines_C1
      dsimp only
      by_cases h0 : i = 0
      · subst h0
        refine (ifd_t (by decide)).trans ?_
        rw [wrap64 (by omega) (by omega), if_pos rfl]
        rfl
      · refine (ifd_f (by simp; omega)).trans ?_
        rw [if_neg h0]; rfl
    refine bnd1 c1 ?_
    dsimp only
    refine bnd1 (Short_inner name value l c x i hlt hb _ (by split <;> omega) o2 (hln i) _ _ rfl (Nat.le_refl _)) ?_
    rw [Sum.elim_inr]
    dsimp only
    have hne : (l.getD i [] == []) = false := by simpa using o1
    have hlp : 1 ≤ (l.getD i []).length := by
      cases hq : l.getD i [] with
      | nil => exact absurd hq o1
      | cons a b => simp
    rw [Int.toNat_natCast, nx (by omega), pv hlp (by have := hln i; omega), Int.toNat_natCast, hne]
    have ih := ih (i + 1) (by omega) (by omega)
    refine (ifd_t (by simp only [decide_eq_true_eq]; omega)).trans ?_
    refine (ifd_f (by simp)).trans ?_
    cases hv : (value == []) with
    | true =>
      refine (ifd_f (by simp)).trans ?_
      refine (ifd_f (by simp)).trans ?_
      refine (ifd_f (by simp)).trans ?_
      refine (ifd_f (by simp)).trans ?_
      exact ih
    | false =>
      have hvn : (value != []) = true := by simp [bne, hv]
      refine (ifd_t rfl).trans ?_
      refine (ifd_t (by simp only [decide_eq_true_eq]; omega)).trans ?_
      refine (ifd_t (by simp only [decide_eq_true_eq]; omega)).trans ?_
      refine (ifd_t (by simp only [decide_eq_true_eq]; omega)).trans ?_
      refine bnd2 (Blank_spec _) rfl ?_
      rw [o3 hvn]
      refine (ifd_f (by simp)).trans ?_
      refine (ifd_t rfl).trans ?_
      refine (ifd_f (by simp)).trans ?_
      refine (ifd_f (by simp)).trans ?_
      exact ih

theorem trimB_last {v : List Int} (h : trimB v = v) (hne : v ≠ []) : blankB (v.getD (v.length - 1) 0) = false := by
  obtain ⟨q, c, rfl⟩ : ∃ q c, v = q ++ [c] := ⟨v.dropLast, v.getLast hne, (List.dropLast_concat_getLast _).symm⟩
  have e : (q ++ [c]).getD ((q ++ [c]).length - 1) 0 = c := by simp
  rw [e]
  cases hb : blankB c with
  | false => rfl
  | true =>
    exfalso
    rw [trimB, trimR_snoc, if_pos hb] at h
    have h1 := trimL_len (trimR q)
    have h2 : (trimR q).length ≤ q.length := by
      unfold trimR
      rw [List.length_reverse]
      have := trimL_len q.reverse
      rwa [List.length_reverse] at this
    rw [h] at h1
    simp at h1; omega

theorem flaw3 (name value : List Int) (hn : Bytes name) (hv : Bytes value) (h : name.length + value.length ≤ 2000000) : law1_FoldShortLines_c (pcL prog cfg) name value = some true := by
  refine law1_FoldShortLines_of ?_
  unfold law1_FoldShortLines_B
  refine bnd2 fExample_spec rfl ?_
  refine (ifd_f (by decide)).trans ?_
  refine bnd2 (Fold_spec name value hv h) rfl ?_
  obtain ⟨h1, h2, h3⟩ := fold_fault name value
  dsimp only
  rw [h1]
  by_cases h0 : (faultF name value).1 = 0
  · obtain ⟨hc, hf⟩ := h3 h0
    obtain ⟨_, _, _, ht⟩ := code0 hc
    rw [hf]
    refine (ifd_f (by simp [h0])).trans ?_
    have hlen : (linesL name value).length ≤ name.length + 2 + value.length := linesF_len _ _ _
    have hflat : (linesL name value).flatten = name ++ ([58, 32] ++ value) := linesF_flat _ _ _ (by omega) (by simp; omega)
    have hfl : (linesL name value).flatten.length = name.length + 2 + value.length := by rw [hflat]; simp; omega
    have hok : ∀ i, i < (linesL name value).length → LineOk (value != []) ((linesL name value).getD i []) (if i = 0 then name.length + 3 else 1) :=
      lines_ok (value != []) _ (name ++ ([58, 32] ++ value)) (name.length + 3) (by omega) (fun hne _ => by
        have hvn : value ≠ [] := by simpa using hne
        have := trimB_last ht hvn
        have hl0 : 1 ≤ value.length := by cases value with
          | nil => exact absurd rfl hvn
          | cons a b => simp
        have e : (name ++ ([58, 32] ++ value)).getD ((name ++ ([58, 32] ++ value)).length - 1) 0 = value.getD (value.length - 1) 0 := by
          rw [← List.append_assoc, List.getD_eq_getElem?_getD, List.getElem?_append_right (by simp; omega), List.getD_eq_getElem?_getD]
          congr 2
          simp; omega
        rw [e]; exact this)
    have hln : ∀ i, ((linesL name value).getD i []).length ≤ 4000000 := fun i => by
      rw [List.getD_eq_getElem?_getD]
      cases hq : (linesL name value)[i]? with
      | none => simp
      | some y =>
        have hm := List.mem_of_getElem? hq
        have : y.length ≤ (linesL name value).flatten.length := by
          have key : ∀ (L : List (List Int)), y ∈ L → y.length ≤ L.flatten.length := by
            intro L
            induction L with
            | nil => intro h; cases h
            | cons a L ih =>
              intro h
              rw [List.flatten_cons, List.length_append]
              rcases List.mem_cons.1 h with rfl | h
              · omega
              · have := ih h; omega
          exact key _ hm
        simp; omega
    have hL := Short_loop name value (linesL name value) (by omega) hln (by omega) hok 0 0 _ 0 rfl (by omega)
    have e0 : (faultF name value) = (0, (0, ())) := by rw [← h1, hf]
    rw [e0]
    refine bnd1 hL ?_
    rw [Sum.elim_inr]
    have hpos : 0 < (linesL name value).length := by
      cases hq : linesL name value with
      | nil => exfalso; rw [hq] at hfl; simp at hfl; omega
      | cons a b => simp
    simp only [Option.some.injEq, decide_eq_true_eq]
    omega
  · refine (ifd_t (by simpa using h0)).trans ?_
    rw [h2 h0]; rfl

end Go.Proofs.YthhllkiefncbnaaDoorSim
