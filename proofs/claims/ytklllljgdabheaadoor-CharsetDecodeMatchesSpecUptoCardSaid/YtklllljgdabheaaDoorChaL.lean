/- charset: the laws answer true. -/
import Derived.Test.YtklllljgdabheaaDoorChaR
namespace Go.Proofs.YtklllljgdabheaaDoorSim
open Go Go.Proofs
open Go.Proofs.Tryd (prog)
set_option linter.unusedVariables false
set_option linter.unusedSimpArgs false

theorem At_spec (a b : Int) : ref1_At_c (pcL prog cfg) a b = some (a, (b, ())) := ref1_At_of rfl
theorem Bytes_spec (a b : List Int) : ref1_Bytes_c (pcL prog cfg) a b = some (a == b) := ref1_Bytes_of rfl

theorem encG_cases (st : Int) : ∀ (k : Nat) (l : List Int) (pos : Nat), l.length = k →
    ((∀ n ∈ runesL l, badIn st n = false) → encG st pos l = ((runesL l).flatMap (piece st), -1)) ∧ (¬ (∀ n ∈ runesL l, badIn st n = false) → 0 ≤ (encG st pos l).2 ∧ (encG st pos l).1 = []) := by
  intro k
  induction k using Nat.strongRecOn with
  | _ k ih =>
    intro l pos hk
    cases l with
    | nil =>
      rw [encG_nil, runesL]
      exact ⟨fun _ => rfl, fun h => absurd (fun n hn => by cases hn) h⟩
    | cons c r =>
      rw [encG_cons, runesL_cons]
      have hs := (rune1_size c r).1
      simp only [List.length_cons] at hk
      obtain ⟨h1, h2⟩ := ih ((c :: r).drop (rune1 (c :: r)).2).length (by rw [List.length_drop, List.length_cons]; omega) ((c :: r).drop (rune1 (c :: r)).2) (pos + (rune1 (c :: r)).2) rfl
      cases hb : badIn st (rune1 (c :: r)).1 with
      | true =>
        refine ⟨fun h => ?_, fun _ => ?_⟩
        · have := h (rune1 (c :: r)).1 (by simp)
          rw [hb] at this; cases this
        · rw [if_pos rfl]
          exact ⟨by simp only; omega, rfl⟩
      | false =>
        rw [if_neg (by simp)]
        by_cases hall : ∀ n ∈ runesL ((c :: r).drop (rune1 (c :: r)).2), badIn st n = false
        · have e := h1 hall
          refine ⟨fun _ => ?_, fun h => absurd (fun n hn => ?_) h⟩
          · rw [e, if_neg (by simp only; omega)]
            rfl
          · rw [List.mem_cons] at hn
            rcases hn with rfl | hn
            · exact hb
            · exact hall n hn
        · have e := h2 hall
          refine ⟨fun h => absurd (fun n hn => h n (by simp [hn])) hall, fun _ => ?_⟩
          rw [if_pos e.1]
          exact ⟨e.1, rfl⟩

theorem pair16_units (n : Int) (h : Ok n) (s : List Int) : unitsL (pair16 n ++ s) = n :: unitsL s := by
  unfold Ok at h
  unfold pair16
  by_cases h1 : n < 65536
  · rw [if_pos h1]
    show unitsL (n / 256 :: n % 256 :: s) = _
    have e : 256 * (n / 256) + n % 256 = n := by omega
    have hp : isPair n s = false := by
      unfold isPair
      rw [decide_eq_false (by omega), Bool.false_and]
    rw [unitsL_cons, e, hp]
    rfl
  · rw [if_neg h1]
    show unitsL ((55296 + (n - 65536) / 1024) / 256 :: (55296 + (n - 65536) / 1024) % 256 :: (56320 + (n - 65536) % 1024) / 256 :: (56320 + (n - 65536) % 1024) % 256 :: s) = _
    rw [unitsL_cons]
    have e : 256 * ((55296 + (n - 65536) / 1024) / 256) + (55296 + (n - 65536) / 1024) % 256 = 55296 + (n - 65536) / 1024 := by omega
    have ev : vAt ((56320 + (n - 65536) % 1024) / 256 :: (56320 + (n - 65536) % 1024) % 256 :: s) = 56320 + (n - 65536) % 1024 := by
      show 256 * ((56320 + (n - 65536) % 1024) / 256) + (56320 + (n - 65536) % 1024) % 256 = _
      omega
    have hp : isPair (55296 + (n - 65536) / 1024) ((56320 + (n - 65536) % 1024) / 256 :: (56320 + (n - 65536) % 1024) % 256 :: s) = true := by
      unfold isPair
      rw [ev, decide_eq_true (by omega), decide_eq_true (by simp), decide_eq_true (by omega)]
      rfl
    rw [e, hp, ev, if_pos rfl]
    show (65536 + 1024 * (55296 + (n - 65536) / 1024 - 55296) + (56320 + (n - 65536) % 1024 - 56320)) :: unitsL s = _
    congr 1
    omega

theorem units_flat : ∀ (l : List Int) (s : List Int), (∀ n ∈ l, Ok n) → unitsL (l.flatMap pair16 ++ s) = l ++ unitsL s
  | [], s, _ => rfl
  | n :: l, s, h => by
    rw [List.flatMap_cons, List.append_assoc, pair16_units n (h n (by simp)), units_flat l s (fun m hm => h m (by simp [hm]))]
    rfl

theorem runes_flat : ∀ (l : List Int) (s : List Int), (∀ n ∈ l, Ok n) → runesL (l.flatMap utf8 ++ s) = l ++ runesL s
  | [], s, _ => rfl
  | n :: l, s, h => by
    rw [List.flatMap_cons, List.append_assoc, runesL_utf8 n (h n (by simp)), runes_flat l s (fun m hm => h m (by simp [hm]))]
    rfl

theorem flat_single : ∀ (l : List Int), l.flatMap (fun n => [n]) = l
  | [] => rfl
  | n :: l => by rw [List.flatMap_cons, flat_single l]; rfl

theorem map_asc : ∀ (l : List Int), (∀ n ∈ l, n ≤ 127) → l.map asc = l
  | [], _ => rfl
  | n :: l, h => by
    rw [List.map_cons, map_asc l (fun m hm => h m (by simp [hm]))]
    have : asc n = n := if_neg (by have := h n (by simp); omega)
    rw [this]

/-- what is encoded is decoded again, whatever follows -/
theorem decode_app (st : Int) (hst : st = 0 ∨ st = 1 ∨ st = 2 ∨ st = 3) (l : List Int) (hB : Bytes l) (hv : validL l = true) (hb : ∀ n ∈ runesL l, badIn st n = false) (b : List Int) :
    decoded st ((runesL l).flatMap (piece st) ++ b) = l ++ decoded st b := by
  obtain ⟨hf, hok⟩ := flat_runes _ l rfl hB hv
  rcases hst with rfl | rfl | rfl | rfl
  · have hp : (runesL l).flatMap (piece 0) = runesL l := flat_single _
    rw [hp]
    have h127 : ∀ n ∈ runesL l, n ≤ 127 := fun n hn => by
      have := hb n hn
      simp [badIn] at this
      exact this
    show ((runesL l ++ b).map asc).flatMap utf8 = l ++ (b.map asc).flatMap utf8
    rw [List.map_append, map_asc _ h127, List.flatMap_append, hf]
  · have hp : (runesL l).flatMap (piece 1) = runesL l := flat_single _
    rw [hp]
    show (runesL l ++ b).flatMap utf8 = l ++ b.flatMap utf8
    rw [List.flatMap_append, hf]
  · have hp : (runesL l).flatMap (piece 2) = l := hf
    rw [hp]
    show (runesL (l ++ b)).flatMap utf8 = l ++ (runesL b).flatMap utf8
    have := runes_flat (runesL l) b hok
    rw [hf] at this
    rw [this, List.flatMap_append, hf]
  · show (unitsL ((runesL l).flatMap pair16 ++ b)).flatMap utf8 = l ++ (unitsL b).flatMap utf8
    rw [units_flat _ _ hok, List.flatMap_append, hf]

theorem decoded_nil (st : Int) (hst : st = 0 ∨ st = 1 ∨ st = 2 ∨ st = 3) : decoded st [] = [] := by
  have hu : unitsL [] = [] := by unfold unitsL; rw [unitsP_short _ (by simp)]; rfl
  have hr : runesL [] = [] := by rw [runesL]
  rcases hst with rfl | rfl | rfl | rfl
  · rfl
  · rfl
  · show (runesL []).flatMap utf8 = []
    rw [hr]; rfl
  · show (unitsL []).flatMap utf8 = []
    rw [hu]; rfl

theorem valid_nil : validL [] = true := by unfold validL; rw [runesL]; rfl

theorem decoded_valid (st : Int) (b : List Int) : validL (decoded st b) = true := by
  have go : ∀ X : List Int, validL (X.flatMap utf8) = true := fun X => by
    have := validL_flat X []
    rw [List.append_nil] at this
    rw [this, valid_nil]
  unfold decoded
  split
  · exact go _
  · split
    · exact go _
    · split <;> exact go _

theorem flat_bytes : ∀ X : List Int, Bytes (X.flatMap utf8)
  | [] => fun x hx => by cases hx
  | n :: X => fun x hx => by
    rw [List.flatMap_cons, List.mem_append] at hx
    exact hx.elim (utf8_bytes n x) (flat_bytes X x)

theorem decoded_bytes (st : Int) (b : List Int) : Bytes (decoded st b) := by
  unfold decoded
  split
  · exact flat_bytes _
  · split
    · exact flat_bytes _
    · split <;> exact flat_bytes _

theorem pair16_bytes {n : Int} (h : Ok n) : Bytes (pair16 n) := by
  unfold Ok at h
  unfold pair16
  split
  · intro x hx; simp at hx; omega
  · intro x hx; simp at hx; omega

theorem piece_bytes (st : Int) (hst : st = 0 ∨ st = 1 ∨ st = 2 ∨ st = 3) {n : Int} (h : Ok n) (hb : badIn st n = false) : Bytes (piece st n) := by
  rcases hst with rfl | rfl | rfl | rfl
  · simp [badIn] at hb
    intro x hx
    have : x = n := by simpa [piece] using hx
    subst this
    exact ⟨h.1, by omega⟩
  · simp [badIn] at hb
    intro x hx
    have : x = n := by simpa [piece] using hx
    subst this
    exact ⟨h.1, by omega⟩
  · exact utf8_bytes n
  · exact pair16_bytes h

theorem pieces_bytes (st : Int) (hst : st = 0 ∨ st = 1 ∨ st = 2 ∨ st = 3) : ∀ l : List Int, (∀ n ∈ l, Ok n) → (∀ n ∈ l, badIn st n = false) → Bytes (l.flatMap (piece st))
  | [], _, _ => fun x hx => by cases hx
  | n :: l, h1, h2 => fun x hx => by
    rw [List.flatMap_cons, List.mem_append] at hx
    exact hx.elim (piece_bytes st hst (h1 n (by simp)) (h2 n (by simp)) x) (pieces_bytes st hst l (fun m hm => h1 m (by simp [hm])) (fun m hm => h2 m (by simp [hm])) x)

theorem pieces_len (st : Int) : ∀ l : List Int, (l.flatMap (piece st)).length ≤ 4 * l.length
  | [] => by simp
  | n :: l => by
    have := pieces_len st l
    have := piece_len st n
    rw [List.flatMap_cons, List.length_append, List.length_cons]
    omega

theorem flat_len : ∀ l : List Int, (l.flatMap utf8).length ≤ 4 * l.length
  | [] => by simp
  | n :: l => by
    have := flat_len l
    have := (utf8_len n).2
    rw [List.flatMap_cons, List.length_append, List.length_cons]
    omega

theorem decoded_len (st : Int) (b : List Int) : (decoded st b).length ≤ 4 * b.length + 4 := by
  have h1 := runesL_len _ b rfl
  have h2 := unitsP_len _ b rfl
  have h3 : (unitsL b).length ≤ b.length + 1 := by
    unfold unitsL
    rw [List.length_append]
    split <;> simp <;> omega
  unfold decoded
  split
  · have := flat_len (b.map asc)
    rw [List.length_map] at this
    omega
  · split
    · have := flat_len b; omega
    · split
      · have := flat_len (runesL b); omega
      · have := flat_len (unitsL b); omega

theorem setOf_cases (name : List Int) : setOf name = -1 ∨ (setOf name = 0 ∨ setOf name = 1 ∨ setOf name = 2 ∨ setOf name = 3) := by
  unfold setOf
  repeat' split
  all_goals omega

theorem ex_latin : setOf [108, 97, 116, 105, 110, 49] = 1 := by decide
theorem ex_utf16 : setOf [117, 116, 102, 49, 54, 98, 101] = 3 := by decide
theorem ex_ascii : setOf [97, 115, 99, 105, 105] = 0 := by decide
theorem ex_utf8 : setOf [117, 116, 102, 56] = 2 := by decide
theorem ex_u : utf8 228 = [195, 164] := by decide
theorem ex_runes : runesL [195, 164] = [228] := by
  have := runesL_utf8 228 (by unfold Ok; omega) []
  rw [ex_u, List.append_nil] at this
  rw [this, runesL]
theorem ex_a : runesL [97] = [97] := by
  have := runesL_utf8 97 (by unfold Ok; omega) []
  have hu : utf8 97 = [97] := by decide
  rw [hu, List.append_nil] at this
  rw [this, runesL]

theorem example_spec : law1_charsetExample_c (pcL prog cfg) = some true := by
  refine law1_charsetExample_of ?_
  unfold law1_charsetExample_B
  have h1 := Decode_spec [108, 97, 116, 105, 110, 49] [228] (fun x hx => by simp at hx; omega) (by simp) (fun x hx => by simp at hx; omega) (by simp)
  have h2 := Encode_spec [117, 116, 102, 49, 54, 98, 101] [97] (fun x hx => by simp at hx; omega) (by simp) (fun x hx => by simp at hx; omega) (by simp)
  have h3 := Best_spec [195, 164] (fun x hx => by simp at hx; omega)
  have hd : decoded 1 [228] = [195, 164] := by
    show ([228] : List Int).flatMap utf8 = _
    rw [List.flatMap_cons, ex_u]
    rfl
  have hv : validL [97] = true := by unfold validL; rw [ex_a]; rfl
  have he : encG 3 0 [97] = ([0, 97], -1) := by
    rw [(encG_cases 3 _ [97] 0 rfl).1 (by rw [ex_a]; intro n hn; simp [badIn]), ex_a]
    decide
  rw [ex_latin, hd] at h1
  rw [ex_utf16, hv, he] at h2
  rw [ex_runes] at h3
  refine bnd2 h1 rfl ?_
  refine bnd2 h2 rfl ?_
  refine (ifd_t rfl).trans ?_
  refine (ifd_t rfl).trans ?_
  refine (ifd_t rfl).trans ?_
  refine (ifd_t rfl).trans ?_
  refine (ifd_t rfl).trans ?_
  refine bnd2 (Bytes_spec _ _) rfl ?_
  refine (ifd_t rfl).trans ?_
  refine (ifd_t rfl).trans ?_
  refine bnd2 h3 rfl ?_
  rfl

theorem law1 (a b : List Int) (hA : Bytes a) (ha : a.length ≤ 1048576) (hB : Bytes b) (hb : b.length ≤ 1048576) : law1_CharsetDecodeMatchesSpec_c (pcL prog cfg) a b = some true := by
  refine law1_CharsetDecodeMatchesSpec_of ?_
  unfold law1_CharsetDecodeMatchesSpec_B
  have h1 := Decode_spec a b hA (by omega) hB (by omega)
  refine bnd2 example_spec rfl ?_
  refine (ifd_f (by simp)).trans ?_
  refine bnd2 h1 rfl ?_
  by_cases h12 : b.length > 12000
  · rw [if_pos h12]
    refine (ifd_t (by simp only [decide_eq_true_eq]; omega)).trans ?_
    refine bnd1 (v := ((true, ()), ((1, -1, ()), ()))) ?_ rfl
    unfold law1_CharsetDecodeMatchesSpec_C1
    refine bnd2 (At_spec _ _) rfl ?_
    rfl
  · rw [if_neg h12]
    refine (ifd_f (by simp only [decide_eq_true_eq]; omega)).trans ?_
    refine bnd2 (SetOf_spec a hA (by omega)) rfl ?_
    by_cases hs : setOf a < 0
    · rw [if_pos hs]
      refine (ifd_t (decide_eq_true hs)).trans ?_
      refine bnd1 (v := ((true, ()), ((18, -2, ()), ()))) ?_ rfl
      unfold law1_CharsetDecodeMatchesSpec_C2
      refine bnd2 (At_spec _ _) rfl ?_
      rfl
    · rw [if_neg hs]
      refine (ifd_f (by simpa using hs)).trans ?_
      refine (ifd_t rfl).trans ?_
      refine bnd2 (SetOf_spec a hA (by omega)) rfl ?_
      have hst : setOf a = 0 ∨ setOf a = 1 ∨ setOf a = 2 ∨ setOf a = 3 := (setOf_cases a).resolve_left (by omega)
      refine bnd2 (Decoded_spec _ hst b hB (by omega)) rfl ?_
      refine (ifd_t rfl).trans ?_
      simp

theorem law2 (a b : List Int) (hA : Bytes a) (ha : a.length ≤ 1048576) (hB : Bytes b) (hb : b.length ≤ 1048576) : law1_CharsetEncodeMatchesSpec_c (pcL prog cfg) a b = some true := by
  refine law1_CharsetEncodeMatchesSpec_of ?_
  unfold law1_CharsetEncodeMatchesSpec_B
  have h1 := Encode_spec a b hA (by omega) hB (by omega)
  refine bnd2 example_spec rfl ?_
  refine (ifd_f (by simp)).trans ?_
  refine bnd2 h1 rfl ?_
  by_cases h12 : b.length > 12000
  · rw [if_pos h12]
    refine (ifd_t (by simp only [decide_eq_true_eq]; omega)).trans ?_
    refine bnd1 (v := ((true, ()), ((1, -1, ()), ()))) ?_ rfl
    unfold law1_CharsetEncodeMatchesSpec_C1
    refine bnd2 (At_spec _ _) rfl ?_
    rfl
  · rw [if_neg h12]
    refine (ifd_f (by simp only [decide_eq_true_eq]; omega)).trans ?_
    refine bnd2 (SetOf_spec a hA (by omega)) rfl ?_
    by_cases hs : setOf a < 0
    · rw [if_pos hs]
      refine (ifd_t (decide_eq_true hs)).trans ?_
      refine bnd1 (v := ((true, ()), ((18, -2, ()), ()))) ?_ rfl
      unfold law1_CharsetEncodeMatchesSpec_C2
      refine bnd2 (At_spec _ _) rfl ?_
      rfl
    · rw [if_neg hs]
      refine (ifd_f (by simpa using hs)).trans ?_
      have hst : setOf a = 0 ∨ setOf a = 1 ∨ setOf a = 2 ∨ setOf a = 3 := (setOf_cases a).resolve_left (by omega)
      refine bnd2 (rValid_spec b hB (by omega)) rfl ?_
      cases hv : validL b with
      | false =>
        rw [if_pos rfl]
        refine (ifd_t rfl).trans ?_
        refine bnd1 (v := ((true, ()), ((5, -3, ()), ()))) ?_ rfl
        unfold law1_CharsetEncodeMatchesSpec_C3
        refine bnd2 (At_spec _ _) rfl ?_
        rfl
      | true =>
        rw [if_neg (by simp)]
        refine (ifd_f (by simp)).trans ?_
        refine bnd2 (SetOf_spec a hA (by omega)) rfl ?_
        refine bnd2 (Encoded_spec _ hst b hB (by omega) hv) rfl ?_
        by_cases hq : 0 ≤ (encG (setOf a) 0 b).2
        · rw [if_pos hq, if_pos hq]
          refine (ifd_t (decide_eq_true hq)).trans ?_
          refine bnd2 (At_spec _ _) rfl ?_
          refine (ifd_t (by simp)).trans ?_
          refine (ifd_t (by simp)).trans ?_
          rfl
        · rw [if_neg hq, if_neg hq]
          refine (ifd_f (by simp)).trans ?_
          refine (ifd_t rfl).trans ?_
          refine bnd2 (Bytes_spec _ _) rfl ?_
          refine (ifd_t rfl).trans ?_
          simp

/-- what a successful encoding is -/
theorem enc_ok (a b : List Int) (hB : Bytes b) (h : ¬ b.length > 12000) (hs : ¬ setOf a < 0) (hv : validL b = true) (hq : ¬ 0 ≤ (encG (setOf a) 0 b).2) :
    (encG (setOf a) 0 b).1 = (runesL b).flatMap (piece (setOf a)) ∧ (∀ n ∈ runesL b, badIn (setOf a) n = false) ∧ Bytes (encG (setOf a) 0 b).1 ∧ (encG (setOf a) 0 b).1.length ≤ 48000 := by
  have hst : setOf a = 0 ∨ setOf a = 1 ∨ setOf a = 2 ∨ setOf a = 3 := (setOf_cases a).resolve_left (by omega)
  obtain ⟨e1, e2⟩ := encG_cases (setOf a) _ b 0 rfl
  have hall : ∀ n ∈ runesL b, badIn (setOf a) n = false := Classical.byContradiction fun h => hq (e2 h).1
  rw [e1 hall]
  have hl := pieces_len (setOf a) (runesL b)
  have hr := runesL_len _ b rfl
  exact ⟨rfl, hall, pieces_bytes _ hst _ (flat_runes _ b rfl hB hv).2 hall, by simp only; omega⟩

theorem law3 (a b : List Int) (hA : Bytes a) (ha : a.length ≤ 1048576) (hB : Bytes b) (hb : b.length ≤ 1048576) : law1_CharsetRoundTrip_c (pcL prog cfg) a b = some true := by
  refine law1_CharsetRoundTrip_of ?_
  unfold law1_CharsetRoundTrip_B
  have h1 := Encode_spec a b hA (by omega) hB (by omega)
  refine bnd2 example_spec rfl ?_
  refine (ifd_f (by simp)).trans ?_
  refine bnd2 h1 rfl ?_
  by_cases h12 : b.length > 12000
  · rw [if_pos h12]
    exact (ifd_t rfl).trans rfl
  · rw [if_neg h12]
    by_cases hs : setOf a < 0
    · rw [if_pos hs]
      exact (ifd_t rfl).trans rfl
    · rw [if_neg hs]
      cases hv : validL b with
      | false =>
        rw [if_pos rfl]
        exact (ifd_t rfl).trans rfl
      | true =>
        rw [if_neg (by simp)]
        by_cases hq : 0 ≤ (encG (setOf a) 0 b).2
        · rw [if_pos hq]
          exact (ifd_t rfl).trans rfl
        · rw [if_neg hq]
          refine (ifd_f (by simp)).trans ?_
          have hst : setOf a = 0 ∨ setOf a = 1 ∨ setOf a = 2 ∨ setOf a = 3 := (setOf_cases a).resolve_left (by omega)
          obtain ⟨e1, e2, e3, e4⟩ := enc_ok a b hB h12 hs hv hq
          have hd := decode_app (setOf a) hst b hB hv e2 []
          rw [List.append_nil, decoded_nil _ hst, List.append_nil, ← e1] at hd
          have h2 := Decode_spec a (encG (setOf a) 0 b).1 hA (by omega) e3 (by omega)
          by_cases hl : (encG (setOf a) 0 b).1.length > 12000
          · exact ifd_t (by simp only [decide_eq_true_eq]; omega)
          · refine (ifd_f (by simp only [decide_eq_true_eq]; omega)).trans ?_
            rw [if_neg hl, if_neg hs, hd] at h2
            refine bnd2 h2 rfl ?_
            refine (ifd_t rfl).trans ?_
            refine (ifd_t rfl).trans ?_
            simp

theorem law5 (a b c : List Int) (hA : Bytes a) (ha : a.length ≤ 1048576) (hB : Bytes b) (hb : b.length ≤ 1048576) (hC : Bytes c) (hc : c.length ≤ 1048576) : law1_CharsetDecodesValid_c (pcL prog cfg) a b c = some true := by
  refine law1_CharsetDecodesValid_of ?_
  unfold law1_CharsetDecodesValid_B
  have h1 := Encode_spec a b hA (by omega) hB (by omega)
  refine bnd2 example_spec rfl ?_
  refine (ifd_f (by simp)).trans ?_
  refine bnd2 h1 rfl ?_
  have bad : ∀ (x : List Int) (f i : Int), f ≠ 0 → law1_CharsetDecodesValid_C1 (pcL prog cfg) lpL ((a, b, c, x, (), ()), ((f, i, ()), ())) = some ((a, b, c, x, true, ()), ((f, i, ()), ())) := fun x f i hf => by
    unfold law1_CharsetDecodesValid_C1
    dsimp only
    refine (ifd_t (by simpa using hf)).trans ?_
    exact ifd_t (by simpa using hf)
  by_cases h12 : b.length > 12000
  · rw [if_pos h12]
    refine bnd1 (bad _ _ _ (by simp)) ?_
    exact ifd_t rfl
  rw [if_neg h12]
  by_cases hs : setOf a < 0
  · rw [if_pos hs]
    refine bnd1 (bad _ _ _ (by simp)) ?_
    exact ifd_t rfl
  rw [if_neg hs]
  cases hv : validL b with
  | false =>
    rw [if_pos rfl]
    refine bnd1 (bad _ _ _ (by simp)) ?_
    exact ifd_t rfl
  | true =>
    rw [if_neg (by simp)]
    by_cases hq : 0 ≤ (encG (setOf a) 0 b).2
    · rw [if_pos hq]
      refine bnd1 (bad _ _ _ (by simp)) ?_
      exact ifd_t rfl
    · rw [if_neg hq]
      have hst : setOf a = 0 ∨ setOf a = 1 ∨ setOf a = 2 ∨ setOf a = 3 := (setOf_cases a).resolve_left (by omega)
      obtain ⟨e1, e2, e3, e4⟩ := enc_ok a b hB h12 hs hv hq
      have hd := decode_app (setOf a) hst b hB hv e2 c
      rw [← e1] at hd
      generalize (encG (setOf a) 0 b).1 = x at e3 e4 hd
      refine bnd1 (v := ((a, b, c, x, decide (x.length + c.length > 12000), ()), ((0, 0, ()), ()))) ?_ ?_
      · unfold law1_CharsetDecodesValid_C1
        dsimp only
        refine (ifd_f (by simp)).trans ?_
        refine (ifd_f (by simp)).trans ?_
        rw [wrap64 (by omega) (by omega)]
        have : decide (((x.length : Nat) : Int) + ((c.length : Nat) : Int) > 12000) = decide (x.length + c.length > 12000) := by rw [decide_eq_decide]; omega
        rw [this]
      · dsimp only
        by_cases hl : x.length + c.length > 12000
        · exact ifd_t (decide_eq_true hl)
        · refine (ifd_f (by simpa using hl)).trans ?_
          refine (ifd_t (by simp only [decide_eq_true_eq, List.length_nil]; omega)).trans ?_
          refine (ifd_t (by simp only [decide_eq_true_eq, List.nil_append]; omega)).trans ?_
          have hxc : Bytes (x ++ c) := fun y hy => by
            rw [List.mem_append] at hy
            exact hy.elim (e3 y) (hC y)
          have h2 := Decode_spec a (x ++ c) hA (by omega) hxc (by rw [List.length_append]; omega)
          have h3 := Decode_spec a c hA (by omega) hC (by omega)
          rw [if_neg (by rw [List.length_append]; omega), if_neg hs] at h2
          rw [if_neg (by omega), if_neg hs] at h3
          rw [List.nil_append]
          refine bnd2 h2 rfl ?_
          refine bnd2 h3 rfl ?_
          refine (ifd_t rfl).trans ?_
          refine (ifd_t rfl).trans ?_
          refine (ifd_t rfl).trans ?_
          have hdl := decoded_len (setOf a) (x ++ c)
          have hdl2 := decoded_len (setOf a) c
          rw [List.length_append] at hdl
          refine bnd2 (rValid_spec (decoded (setOf a) (x ++ c)) (decoded_bytes _ _) (by omega)) rfl ?_
          refine (ifd_t rfl).trans ?_
          refine (ifd_t (decoded_valid _ _)).trans ?_
          refine (ifd_t (by simp only [decide_eq_true_eq]; omega)).trans ?_
          refine (ifd_t (decoded_valid _ _)).trans ?_
          simp only [hd, beq_self_eq_true]

/-! ### the least set -/

theorem most_lt : ∀ (l : List Int) (m t : Int), most m l < t ↔ m < t ∧ ∀ n ∈ l, fix n < t
  | [], m, t => by simp [most]
  | n :: l, m, t => by
    have h := most_lt l (max m (fix n)) t
    have e : most m (n :: l) = most (max m (fix n)) l := rfl
    rw [e, h]
    simp only [List.mem_cons, forall_eq_or_imp]
    constructor
    · rintro ⟨h1, h2⟩
      exact ⟨by omega, by omega, h2⟩
    · rintro ⟨h1, h2, h3⟩
      exact ⟨by omega, h3⟩

/-- the code of an encoding of a valid text -/
theorem enc_code (name a : List Int) (hN : Bytes name) (hn : name.length ≤ 2000000) (hB : Bytes a) (h12 : ¬ a.length > 12000) (hs : ¬ setOf name < 0) (hv : validL a = true) :
    ∃ x i, charset_Encode_c (pcL prog cfg) name a = some (x, (((if 0 ≤ (encG (setOf name) 0 a).2 then 17 else 0), (i, ())), ())) := by
  have h := Encode_spec name a hN hn hB (by omega)
  rw [if_neg h12, if_neg hs, if_neg (by rw [hv]; simp)] at h
  by_cases hq : 0 ≤ (encG (setOf name) 0 a).2
  · rw [if_pos hq] at h
    exact ⟨_, _, by rw [h, if_pos hq]⟩
  · rw [if_neg hq] at h
    exact ⟨_, _, by rw [h, if_neg hq]⟩

theorem law4 (a : List Int) (hB : Bytes a) (ha : a.length ≤ 1048576) : law1_CharsetBestIsLeast_c (pcL prog cfg) a = some true := by
  refine law1_CharsetBestIsLeast_of ?_
  unfold law1_CharsetBestIsLeast_B
  have hb1 := Best_spec a hB
  have hb2 := rBest_spec a hB (by omega)
  refine bnd1 (v := ((a, false, ()), ())) ?_ ?_
  · unfold law1_CharsetBestIsLeast_C1
    refine bnd2 example_spec rfl ?_
    refine (ifd_f (by simp)).trans ?_
    refine bnd2 hb1 rfl ?_
    refine bnd2 hb2 rfl ?_
    refine (ifd_f (by simp)).trans ?_
    simp
  dsimp only
  refine (ifd_f (by simp)).trans ?_
  by_cases h12 : a.length > 12000
  · refine bnd1 (v := ((a, true, ()), ())) ?_ (ifd_t rfl)
    unfold law1_CharsetBestIsLeast_C2
    refine (ifd_t (by simp only [decide_eq_true_eq]; omega)).trans ?_
    exact ifd_t (by simp only [decide_eq_true_eq]; omega)
  · refine bnd1 (v := ((a, !(validL a), ()), ())) ?_ ?_
    · unfold law1_CharsetBestIsLeast_C2
      refine (ifd_f (by simp only [decide_eq_true_eq]; omega)).trans ?_
      refine bnd2 (rValid_spec a hB (by omega)) rfl ?_
      exact ifd_f (by simp only [decide_eq_true_eq]; omega)
    dsimp only
    cases hv : validL a with
    | false => exact ifd_t rfl
    | true =>
      refine (ifd_f (by simp)).trans ?_
      have hok := (flat_runes _ a rfl hB hv).2
      have hfix : ∀ n ∈ runesL a, fix n = n := fun n hn => if_neg (by have := (hok n hn).1; omega)
      have b0 : Bytes [97, 115, 99, 105, 105] := fun x hx => by simp at hx; omega
      have b1 : Bytes [108, 97, 116, 105, 110, 49] := fun x hx => by simp at hx; omega
      have b2 : Bytes [117, 116, 102, 56] := fun x hx => by simp at hx; omega
      obtain ⟨x0, i0, e0⟩ := enc_code [97, 115, 99, 105, 105] a b0 (by simp) hB h12 (by rw [ex_ascii]; omega) hv
      obtain ⟨x1, i1, e1⟩ := enc_code [108, 97, 116, 105, 110, 49] a b1 (by simp) hB h12 (by rw [ex_latin]; omega) hv
      obtain ⟨x2, i2, e2⟩ := enc_code [117, 116, 102, 56] a b2 (by simp) hB h12 (by rw [ex_utf8]; omega) hv
      rw [ex_ascii] at e0
      rw [ex_latin] at e1
      rw [ex_utf8] at e2
      have c2 : ¬ 0 ≤ (encG 2 0 a).2 := by
        rw [(encG_cases 2 _ a 0 rfl).1 (fun n hn => by simp [badIn])]
        simp
      rw [if_neg c2] at e2
      have m1 := most_lt (runesL a) 0 128
      have m2 := most_lt (runesL a) 0 256
      have c0 : (0 ≤ (encG 0 0 a).2) ↔ ¬ most 0 (runesL a) < 128 := by
        obtain ⟨g1, g2⟩ := encG_cases 0 _ a 0 rfl
        rw [m1]
        constructor
        · intro h hc
          rw [g1 (fun n hn => by have := hc.2 n hn; rw [hfix n hn] at this; simp [badIn]; omega)] at h
          simp at h
        · intro h
          refine (g2 (fun hc => h ⟨by omega, fun n hn => ?_⟩)).1
          have := hc n hn
          simp [badIn] at this
          rw [hfix n hn]; omega
      have c1 : (0 ≤ (encG 1 0 a).2) ↔ ¬ most 0 (runesL a) < 256 := by
        obtain ⟨g1, g2⟩ := encG_cases 1 _ a 0 rfl
        rw [m2]
        constructor
        · intro h hc
          rw [g1 (fun n hn => by have := hc.2 n hn; rw [hfix n hn] at this; simp [badIn]; omega)] at h
          simp at h
        · intro h
          refine (g2 (fun hc => h ⟨by omega, fun n hn => ?_⟩)).1
          have := hc n hn
          simp [badIn] at this
          rw [hfix n hn]; omega
      refine bnd2 hb1 rfl ?_
      generalize most 0 (runesL a) = m at hb1 c0 c1
      unfold bestName at hb1 ⊢
      by_cases q1 : m < 128
      · rw [if_pos q1] at hb1 ⊢
        rw [if_neg (fun h => c0.1 h q1)] at e0
        refine bnd2 e0 rfl ?_
        refine bnd2 e0 rfl ?_
        refine bnd2 e1 rfl ?_
        refine bnd2 hb1 rfl ?_
        refine (ifd_t rfl).trans ?_
        refine bnd1 (v := ((true, ()), ((0, i0, ()), (0, i0, ()), ((if 0 ≤ (encG 1 0 a).2 then 17 else 0), i1, ()), ()))) ?_ rfl
        unfold law1_CharsetBestIsLeast_C3
        refine (ifd_t rfl).trans ?_
        exact ifd_t rfl
      · rw [if_neg q1] at hb1 ⊢
        rw [if_pos (c0.2 q1)] at e0
        by_cases q2 : m < 256
        · rw [if_pos q2] at hb1 ⊢
          rw [if_neg (fun h => c1.1 h q2)] at e1
          refine bnd2 e1 rfl ?_
          refine bnd2 e0 rfl ?_
          refine bnd2 e1 rfl ?_
          refine bnd2 hb1 rfl ?_
          refine (ifd_f (by decide)).trans ?_
          refine (ifd_t rfl).trans ?_
          refine bnd1 (v := ((true, ()), ((0, i1, ()), (17, i0, ()), (0, i1, ()), ()))) ?_ rfl
          unfold law1_CharsetBestIsLeast_C4
          refine (ifd_t rfl).trans ?_
          refine (ifd_t rfl).trans ?_
          refine (ifd_t rfl).trans ?_
          exact ifd_t rfl
        · rw [if_neg q2] at hb1 ⊢
          rw [if_pos (c1.2 q2)] at e1
          refine bnd2 e2 rfl ?_
          refine bnd2 e0 rfl ?_
          refine bnd2 e1 rfl ?_
          refine bnd2 hb1 rfl ?_
          refine (ifd_f (by decide)).trans ?_
          refine (ifd_f (by decide)).trans ?_
          refine (ifd_t rfl).trans ?_
          refine (ifd_t rfl).trans ?_
          refine (ifd_t rfl).trans ?_
          refine (ifd_t rfl).trans ?_
          rfl

end Go.Proofs.YtklllljgdabheaaDoorSim
