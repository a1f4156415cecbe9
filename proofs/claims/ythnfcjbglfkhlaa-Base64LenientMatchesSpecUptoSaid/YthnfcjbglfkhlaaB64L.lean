/- base64: the laws answer true. -/
import Derived.Test.YthnfcjbglfkhlaaB64e
namespace Go.Proofs.YthnfcjbglfkhlaaSim
open Go Go.Proofs
open Go.Proofs.Try (prog)
set_option linter.unusedVariables false
set_option linter.unusedSimpArgs false

theorem At_spec (a b : Int) : ref1_At_c (pcL prog cfg) a b = some (a, (b, ())) := ref1_At_of rfl
theorem Bytes_spec (a b : List Int) : ref1_Bytes_c (pcL prog cfg) a b = some (a == b) := ref1_Bytes_of rfl
theorem In_spec (n a b : Int) : ref1_In_c (pcL prog cfg) n a b = some (decide (a ≤ n ∧ n ≤ b)) := by
  refine ref1_In_of ?_
  unfold ref1_In_B
  by_cases h : n ≥ a
  · rw [ifd_t (by simpa using h), ifd_t (by simpa using h)]
    simp; omega
  · rw [ifd_f (by simpa using h), ifd_f (by simpa using h)]
    simp; omega

theorem ex_enc : enc76 (enc [65]) = [81, 81, 61, 61, 13, 10] := by decide
theorem ex_dec : dec 0 0 [81, 81, 61, 61, 13, 10] = [65] := by decide
theorem ex_len : dec 0 0 [81, 45, 81] = [65] := by decide

theorem example_spec : law1_base64Example_c (pcL prog cfg) = some true := by
  refine law1_base64Example_of ?_
  unfold law1_base64Example_B
  have h1 := Encode_spec [65] (fun x hx => by simp at hx; omega) (by simp)
  have h2 := Decode_spec [81, 81, 61, 61, 13, 10] (by simp)
  have h3 := Lenient_spec [81, 45, 81] (by simp)
  rw [ex_enc] at h1
  rw [ex_dec, if_pos (by exact ⟨by simp, ex_enc⟩)] at h2
  rw [ex_len] at h3
  simp [ifd_eq, bnd, h1, h2, h3, Bytes_spec]

theorem law1 (a : List Int) (h : Bytes a) (hl : a.length ≤ 1048576) : law1_Base64EncodeMatchesSpec_c (pcL prog cfg) a = some true := by
  refine law1_Base64EncodeMatchesSpec_of ?_
  unfold law1_Base64EncodeMatchesSpec_B
  by_cases h12 : a.length ≤ 12000
  · have h1 := Encode_spec a h h12
    have h2 := Lines64_spec a h (by omega)
    have h3 : ¬ (12000 : Int) < a.length := by omega
    simp [ifd_eq, bnd, h1, h2, example_spec, Bytes_spec, h3]
  · have h1 := Encode_big a (by omega)
    have h3 : (12000 : Int) < a.length := by omega
    simp [ifd_eq, bnd, h1, example_spec, At_spec, h3]

theorem law2 (a : List Int) (h : Bytes a) (hl : a.length ≤ 1048576) : law1_Base64LenientMatchesSpec_c (pcL prog cfg) a = some true := by
  refine law1_Base64LenientMatchesSpec_of ?_
  unfold law1_Base64LenientMatchesSpec_B
  by_cases h12 : a.length ≤ 24000
  · have h1 := Lenient_spec a h12
    have h2 := Loose64_spec a (by omega)
    have h3 : ¬ (24000 : Int) < a.length := by omega
    simp [ifd_eq, bnd, h1, h2, example_spec, Bytes_spec, h3]
  · have h1 := Lenient_big a (by omega)
    have h3 : (24000 : Int) < a.length := by omega
    simp [ifd_eq, bnd, h1, example_spec, At_spec, h3]

theorem law3 (a : List Int) (h : Bytes a) (hl : a.length ≤ 1048576) : law1_Base64RoundTrip_c (pcL prog cfg) a = some true := by
  refine law1_Base64RoundTrip_of ?_
  unfold law1_Base64RoundTrip_B
  by_cases h12 : a.length ≤ 12000
  · have h1 := Encode_spec a h h12
    have hle := encode_len a h12
    have h2 := Decode_spec (enc76 (enc a)) (by omega)
    have h3 := Lenient_spec (enc76 (enc a)) (by omega)
    rw [round a h, if_pos ⟨h12, rfl⟩] at h2
    rw [round a h] at h3
    simp [ifd_eq, bnd, h1, h2, h3, example_spec, Bytes_spec]
  · have h1 := Encode_big a (by omega)
    simp [ifd_eq, bnd, h1, example_spec, At_spec]

theorem law4 (a : List Int) (h : Bytes a) (hl : a.length ≤ 1048576) : law1_Base64Unique_c (pcL prog cfg) a = some true := by
  refine law1_Base64Unique_of ?_
  unfold law1_Base64Unique_B
  by_cases h12 : a.length ≤ 24000
  · have h2 := Decode_spec a h12
    have h3 : ¬ (24000 : Int) < a.length := by omega
    by_cases hc : (dec 0 0 a).length ≤ 12000 ∧ enc76 (enc (dec 0 0 a)) = a
    · rw [if_pos hc] at h2
      have h4 := Lines64_spec (dec 0 0 a) (dec_bytes a 0 0 (by simp) (by simp) (by simp)) (by omega)
      rw [hc.2] at h4
      simp [ifd_eq, bnd, h2, h4, example_spec, Bytes_spec, h3]
    · rw [if_neg hc] at h2
      simp [ifd_eq, bnd, h2, example_spec, At_spec, h3]
  · have h3 : (24000 : Int) < a.length := by omega
    simp [ifd_eq, bnd, example_spec, h3]

theorem law5 (a : List Int) (at_ : Int) (h : Bytes a) (hl : a.length ≤ 1048576) : law1_Base64IgnoresLines_c (pcL prog cfg) a at_ = some true := by
  refine law1_Base64IgnoresLines_of ?_
  unfold law1_Base64IgnoresLines_B
  by_cases h12 : a.length ≤ 12000
  · have h1 := Encode_spec a h h12
    have hle := encode_len a h12
    generalize hx : enc76 (enc a) = x at *
    have hdx : dec 0 0 x = a := by rw [← hx]; exact round a h
    refine bnd2 example_spec rfl ?_
    refine (ifd_f (by simp)).trans ?_
    refine bnd2 h1 rfl ?_
    refine (ifd_f (by simp)).trans ?_
    refine bnd2 (In_spec _ _ _) rfl ?_
    refine (ifd_f (by simp)).trans ?_
    dsimp only
    by_cases hin : 0 ≤ at_ ∧ at_ ≤ (x.length : Int)
    · refine (ifd_f (by simpa using hin)).trans ?_
      rw [Int.toNat_natCast, List.take_length, show Int.toNat 0 = 0 from rfl, List.drop_zero, List.nil_append]
      have l1 : (x.take at_.toNat).length ≤ x.length := by simp; omega
      have l2 : (x.drop at_.toNat).length ≤ x.length := by simp
      have h2 := Lenient_spec (x.take at_.toNat ++ [32, 13, 10] ++ x.drop at_.toNat) (by simp; omega)
      have hd : dec 0 0 (x.take at_.toNat ++ [32, 13, 10] ++ x.drop at_.toNat) = a := by
        rw [List.append_assoc]
        simp only [List.cons_append, List.nil_append]
        rw [dec_skip 32 (by decide) val32, dec_skip 13 (by decide) val13, dec_skip 10 (by decide) val10, List.take_append_drop, hdx]
      rw [hd] at h2
      refine (ifd_t (by simp only [decide_eq_true_eq]; omega)).trans ?_
      refine (ifd_t (by simp only [decide_eq_true_eq, List.length_nil]; omega)).trans ?_
      refine (ifd_t (by simp only [decide_eq_true_eq, List.length_cons, List.length_nil]; omega)).trans ?_
      refine (ifd_t (by simp only [decide_eq_true_eq]; omega)).trans ?_
      refine (ifd_t (by simp only [decide_eq_true_eq, List.length_append, List.length_cons, List.length_nil]; omega)).trans ?_
      refine bnd2 h2 rfl ?_
      refine (ifd_t (by simp)).trans ?_
      refine bnd2 (Bytes_spec _ _) rfl ?_
      simp [ifd_eq]
    · refine (ifd_t (by simp only [hin, decide_false, Bool.not_false])).trans ?_
      simp [ifd_eq]
  · have h1 := Encode_big a (by omega)
    simp [ifd_eq, bnd, h1, example_spec, At_spec]

end Go.Proofs.YthnfcjbglfkhlaaSim
