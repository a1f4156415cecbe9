/- base64: decoding in plain form, of the program and of the reference. -/
import Derived.Test.YthnfcjbglfkhlaaB64r
namespace Go.Proofs.YthnfcjbglfkhlaaSim
open Go Go.Proofs
open Go.Proofs.Try (prog)
set_option linter.unusedVariables false
set_option linter.unusedSimpArgs false

def val (c : Int) : Int := indexByteL al c

theorem val_range (c : Int) : -1 ≤ val c ∧ val c ≤ 63 := by
  unfold val indexByteL
  split
  · rename_i i h
    have := (List.findIdx?_eq_some_iff_getElem.1 h).1
    have h2 : al.length = 64 := rfl
    omega
  · omega

theorem value_spec (c : Int) : base64_value_c (pcL prog cfg) c = some (val c) := by
  refine base64_value_of ?_
  unfold base64_value_B
  rw [← al_def]
  exact bnd2 (bytes_IndexByte_of rfl) rfl rfl

/-- p: the number that the n bits left over form -/
def dec : Int → Nat → List Int → List Int
  | _, _, [] => []
  | p, n, c :: r => if c = 61 then [] else
    if val c < 0 then dec p n r else
    if n < 2 then dec (p * 64 + val c) (n + 6) r
    else ((p * 64 + val c) / 2 ^ (n - 2)) :: dec ((p * 64 + val c) % 2 ^ (n - 2)) (n - 2) r

theorem and4095 {x : Int} (hx : 0 ≤ x) (hx' : x ≤ 9223372036854775807) : ibits .and .i64 x 4095 = x % 4096 := and_mask 12 hx hx' (by decide)
theorem or6 {x y : Int} (hx : 0 ≤ x) (hx' : x ≤ 1000000) (hy : 0 ≤ y ∧ y ≤ 63) : ibits .or .i64 (x * 64) y = x * 64 + y :=
  or_shift 6 hx hy.1 (by omega) (by omega)

theorem Loose_L1_spec (s : List Int) (hb : s.length ≤ 100000000) : ∀ (k i : Nat) (out : List Int) (bits p : Int) (n : Nat), s.length - i ≤ k → i ≤ s.length → out.length + (s.length - i) ≤ 1000000000 →
    0 ≤ bits → bits ≤ 4095 → (n = 0 ∨ n = 2 ∨ n = 4 ∨ n = 6) → bits % 2 ^ n = p →
    ∃ x, base64_Loose_L1 (pcL prog cfg) lpL ((out, bits, (n : Int), s, (s.length : Int), (i : Int), ()), ()) = some x ∧ Sum.elim (fun y => y.1.1) (fun y => y.1.1) x = out ++ dec p n (s.drop i) := by
  intro k
  induction k with
  | zero =>
    intro i out bits p n hk hi ho h0 h1 hn hp
    refine ⟨Sum.inr ((out, ()), ()), ?_, ?_⟩
    · refine base64_Loose_L1_of ?_
      unfold base64_Loose_L1_R
      dsimp only
      exact ifd_f (by simp only [decide_eq_true_eq]; omega)
    · rw [List.drop_of_length_le (by omega)]
      simp [dec]
  | succ k ih =>
    intro i out bits p n hk hi ho h0 h1 hn hp
    by_cases hlt : i < s.length
    · have hv := val_range (s.getD i 0)
      rw [drop_getD s i hlt]
      simp only [dec]
      by_cases h61 : s.getD i 0 = 61
      · refine ⟨Sum.inl ((out, ()), ()), ?_, by rw [if_pos h61]; simp⟩
        refine base64_Loose_L1_of ?_
        unfold base64_Loose_L1_R
        dsimp only
        refine (ifd_t (by simp only [decide_eq_true_eq]; omega)).trans ?_
        refine (ifd_t (by simp only [decide_eq_true_eq]; omega)).trans ?_
        refine bnd2 (value_spec _) rfl ?_
        exact ifd_t (by rw [Int.toNat_natCast, h61]; rfl)
      · rw [if_neg h61]
        have go : ∀ x, (ifd (decide (val (s.getD i 0) < 0) = true) (base64_Loose_L1 (pcL prog cfg) lpL ((out, bits, (n : Int), s, (s.length : Int), (i : Int) + 1, ()), ()))
            (ifd (decide ((n : Int) + 6 ≥ 8) = true) (base64_Loose_L1 (pcL prog cfg) lpL ((out ++ [((bits * 64 + val (s.getD i 0)) % 4096) / 2 ^ (n - 2) % 256], (bits * 64 + val (s.getD i 0)) % 4096, (n : Int) + 6 - 8, s, (s.length : Int), (i : Int) + 1, ()), ()))
              (base64_Loose_L1 (pcL prog cfg) lpL ((out, (bits * 64 + val (s.getD i 0)) % 4096, (n : Int) + 6, s, (s.length : Int), (i : Int) + 1, ()), ())))) = some x →
            base64_Loose_L1 (pcL prog cfg) lpL ((out, bits, (n : Int), s, (s.length : Int), (i : Int), ()), ()) = some x := by
          intro x hx
          refine base64_Loose_L1_of ?_
          unfold base64_Loose_L1_R
          dsimp only
          refine (ifd_t (by simp only [decide_eq_true_eq]; omega)).trans ?_
          refine (ifd_t (by simp only [decide_eq_true_eq]; omega)).trans ?_
          refine bnd2 (value_spec _) rfl ?_
          refine (ifd_f (by rw [Int.toNat_natCast]; simp only [beq_iff_eq]; exact h61)).trans ?_
          rw [Int.toNat_natCast, wrap64 (x := (i : Int) + 1) (by omega) (by omega), wrap64 (x := (n : Int) + 6) (by omega) (by omega)]
          by_cases hneg : val (s.getD i 0) < 0
          · rw [ifd_t (by simpa using hneg)] at hx ⊢
            exact hx
          · rw [ifd_f (by simpa using hneg)] at hx ⊢
            rw [show (2 : Int) ^ (min (Int.toNat 6) 64) = 64 from rfl, wrap64 (x := bits * 64) (by omega) (by omega), or6 h0 (by omega) (by omega), and4095 (by omega) (by omega)]
            by_cases h8 : (n : Int) + 6 ≥ 8
            · rw [ifd_t (by simpa using h8)] at hx ⊢
              rw [wrap64 (by omega) (by omega), pow_min (j := n - 2) (by omega) (by omega)]
              refine (ifd_t (by simp only [decide_eq_true_eq]; omega)).trans ?_
              refine (ifd_t (by simp only [decide_eq_true_eq, List.length_cons, List.length_nil]; omega)).trans ?_
              have hp2 : (0 : Int) < 2 ^ (n - 2) := Int.pow_pos (by decide)
              rw [fdiv_pos (Int.le_of_lt hp2), wrapU8]
              exact hx
            · rw [ifd_f (by simpa using h8)] at hx ⊢
              exact hx
        by_cases hneg : val (s.getD i 0) < 0
        · rw [if_pos hneg]
          obtain ⟨x, hx, hy⟩ := ih (i + 1) out bits p n (by omega) (by omega) (by omega) h0 h1 hn hp
          refine ⟨x, go x ?_, hy⟩
          rw [ifd_t (by simpa using hneg)]
          simpa using hx
        · rw [if_neg hneg]
          by_cases h8 : n < 2
          · rw [if_pos h8]
            have hn0 : n = 0 := by omega
            subst hn0
            obtain ⟨x, hx, hy⟩ := ih (i + 1) out ((bits * 64 + val (s.getD i 0)) % 4096) (p * 64 + val (s.getD i 0)) 6 (by omega) (by omega) (by omega) (by omega) (by omega) (by omega) (by (try simp only [Nat.reduceSub, Int.reducePow, Int.pow_zero, Nat.sub_self] at hp ⊢); omega)
            refine ⟨x, go x ?_, hy⟩
            rw [ifd_f (by simpa using hneg), ifd_f (by simp)]
            simpa using hx
          · rw [if_neg h8]
            have hb8 : ((bits * 64 + val (s.getD i 0)) % 4096) / 2 ^ (n - 2) % 256 = (p * 64 + val (s.getD i 0)) / 2 ^ (n - 2) := by
              rcases hn with rfl | rfl | rfl | rfl
              · omega
              · (try simp only [Nat.reduceSub, Int.reducePow, Int.pow_zero, Nat.sub_self] at hp ⊢); omega
              · (try simp only [Nat.reduceSub, Int.reducePow, Int.pow_zero, Nat.sub_self] at hp ⊢); omega
              · (try simp only [Nat.reduceSub, Int.reducePow, Int.pow_zero, Nat.sub_self] at hp ⊢); omega
            obtain ⟨x, hx, hy⟩ := ih (i + 1) (out ++ [(p * 64 + val (s.getD i 0)) / 2 ^ (n - 2)]) ((bits * 64 + val (s.getD i 0)) % 4096) ((p * 64 + val (s.getD i 0)) % 2 ^ (n - 2)) (n - 2) (by omega) (by omega) (by simp; omega) (by omega) (by omega) (by omega)
              (by
                rcases hn with rfl | rfl | rfl | rfl
                · omega
                · simp
                · (try simp only [Nat.reduceSub, Int.reducePow, Int.pow_zero, Nat.sub_self] at hp ⊢); omega
                · (try simp only [Nat.reduceSub, Int.reducePow, Int.pow_zero, Nat.sub_self] at hp ⊢); omega)
            refine ⟨x, go x ?_, by rw [hy]; simp⟩
            rw [ifd_f (by simpa using hneg), ifd_t (by simp; omega), hb8]
            have : ((n - 2 : Nat) : Int) = (n : Int) + 6 - 8 := by omega
            rw [this] at hx
            simpa using hx
    · refine ⟨Sum.inr ((out, ()), ()), ?_, ?_⟩
      · refine base64_Loose_L1_of ?_
        unfold base64_Loose_L1_R
        dsimp only
        exact ifd_f (by simp only [decide_eq_true_eq]; omega)
      · rw [List.drop_of_length_le (by omega)]
        simp [dec]

theorem Loose_spec (s : List Int) (hb : s.length ≤ 100000000) : base64_Loose_c (pcL prog cfg) s = some (dec 0 0 s) := by
  refine base64_Loose_of ?_
  unfold base64_Loose_B
  obtain ⟨x, hx, hy⟩ := Loose_L1_spec s hb s.length 0 [] 0 0 0 (by omega) (by omega) (by simp; omega) (by omega) (by omega) (by omega) (by simp)
  refine bnd1 hx ?_
  cases x with
  | inl y => simpa using hy
  | inr y => simpa using hy

theorem Lenient_big (s : List Int) (h : 24000 < s.length) : base64_Lenient_c (pcL prog cfg) s = some ([], ((1, (-1, ())), ())) := by
  refine base64_Lenient_of ?_
  unfold base64_Lenient_B
  exact ifd_t (by simp only [decide_eq_true_eq]; omega)

theorem Lenient_spec (s : List Int) (h : s.length ≤ 24000) : base64_Lenient_c (pcL prog cfg) s = some (dec 0 0 s, ((0, (0, ())), ())) := by
  refine base64_Lenient_of ?_
  unfold base64_Lenient_B
  refine (ifd_f (by simp only [decide_eq_true_eq]; omega)).trans ?_
  exact bnd2 (Loose_spec s (by omega)) rfl rfl

theorem dec_len : ∀ (s : List Int) (p : Int) (n : Nat), (dec p n s).length ≤ s.length
  | [], p, n => by simp [dec]
  | c :: r, p, n => by
    simp only [dec, List.length_cons]
    split
    · simp
    · split
      · have := dec_len r p n; omega
      · split
        · have := dec_len r (p * 64 + val c) (n + 6); omega
        · have := dec_len r ((p * 64 + val c) % 2 ^ (n - 2)) (n - 2)
          simp only [List.length_cons]; omega

theorem dec_bytes : ∀ (s : List Int) (p : Int) (n : Nat), 0 ≤ p → p < 2 ^ n → (n = 0 ∨ n = 2 ∨ n = 4 ∨ n = 6) → Bytes (dec p n s)
  | [], p, n, _, _, _ => by simp [dec, Bytes]
  | c :: r, p, n, h0, h1, hn => by
    have hv := val_range c
    simp only [dec]
    split
    · exact Bytes.nil
    · split
      · exact dec_bytes r p n h0 h1 hn
      · split
        · have : n = 0 := by omega
          subst this
          exact dec_bytes r _ _ (by omega) (by simp at h1 ⊢; omega) (by omega)
        · rcases hn with rfl | rfl | rfl | rfl
          · omega
          · exact Bytes.cons (by simp at h1 ⊢; omega) (dec_bytes r _ _ (by simp) (by simp) (by omega))
          · exact Bytes.cons (by simp at h1 ⊢; omega) (dec_bytes r _ _ (by simp; omega) (by simp; omega) (by omega))
          · exact Bytes.cons (by simp at h1 ⊢; omega) (dec_bytes r _ _ (by simp; omega) (by simp; omega) (by omega))

theorem Decode_spec (s : List Int) (h : s.length ≤ 24000) : base64_Decode_c (pcL prog cfg) s =
    some (if (dec 0 0 s).length ≤ 12000 ∧ enc76 (enc (dec 0 0 s)) = s then (dec 0 0 s, ((0, (0, ())), ())) else ([], ((11, (-2, ())), ()))) := by
  refine base64_Decode_of ?_
  unfold base64_Decode_B
  refine (ifd_f (by simp only [decide_eq_true_eq]; omega)).trans ?_
  refine bnd2 (Loose_spec s (by omega)) rfl ?_
  by_cases hl : (dec 0 0 s).length ≤ 12000
  · refine bnd2 (Encode_spec _ (dec_bytes s 0 0 (by simp) (by simp) (by simp)) hl) rfl ?_
    refine (ifd_f (by simp)).trans ?_
    refine bnd2 (bytes_Equal_of rfl) rfl ?_
    refine (ifd_f (by simp)).trans ?_
    by_cases he : enc76 (enc (dec 0 0 s)) = s
    · rw [if_pos ⟨hl, he⟩]
      exact ifd_f (by simp [he])
    · rw [if_neg (fun h => he h.2)]
      exact ifd_t (by simp [he])
  · refine bnd2 (Encode_big _ (by omega)) rfl ?_
    rw [if_neg (fun h => hl h.1)]
    refine (ifd_t (by simp)).trans ?_
    exact ifd_t (by simp)

end Go.Proofs.YthnfcjbglfkhlaaSim
