/- The program's functions, as they compute. Printed by wip/gen. -/
import Derived.Test.YthnfcjbglfkhlaaGen0
namespace Go.Proofs.YthnfcjbglfkhlaaSim
open Go Go.Proofs
open Go.Proofs.Try (prog)
set_option linter.unusedVariables false
set_option linter.unusedSimpArgs false
set_option maxRecDepth 100000

variable {pcN : Nat → PC prog} {pc : PC prog} {lN : Nat → LP} {lp : LP}

noncomputable def law1_Base64EncodeMatchesSpec_B (pc : PC prog) (lp : LP) (a0 : List Int) : Option Bool :=
  bnd (bnd (law1_base64Example_c pc ) fun (x0 : Bool) =>
  some x0) fun (x1 : Bool) =>
  ifd ((!x1) = true) (
    some false) (
    bnd (bnd (base64_Encode_c pc a0) fun (x2 : ((List Int) × ((Int × (Int × Unit)) × Unit))) =>
    some (x2.1, ((x2.2.1.1, (x2.2.1.2.1, ())), ()))) fun (x3 : ((List Int) × ((Int × (Int × Unit)) × Unit))) =>
    ifd ((decide ((((List.length a0) : Nat) : Int) > 12000)) = true) (
      bnd (bnd (ref1_At_c pc 1 (-1)) fun (x4 : (Int × (Int × Unit))) =>
      some (x4.1, (x4.2.1, ()))) fun (x5 : (Int × (Int × Unit))) =>
      ifd (((x3.2.1.1 == x5.1) && ((x3.2.1.2.1 == x5.2.1) && true)) = true) (
        ifd (((x3.2.1.1 == x5.1) && ((x3.2.1.2.1 == x5.2.1) && true)) = true) (
          some ((((List.length x3.1) : Nat) : Int) == 0)) (
          some false)) (
        ifd (((x3.2.1.1 == x5.1) && ((x3.2.1.2.1 == x5.2.1) && true)) = true) (
          none) (
          some false))) (
      ifd ((x3.2.1.1 == 0) = true) (
        bnd (bnd (ref1_Lines64_c pc a0) fun (x6 : (List Int)) =>
        some x6) fun (x7 : (List Int)) =>
        bnd (bnd (ref1_Bytes_c pc x3.1 x7) fun (x8 : Bool) =>
        some x8) fun (x9 : Bool) =>
        ifd ((x3.2.1.1 == 0) = true) (
          some x9) (
          some false)) (
        ifd ((x3.2.1.1 == 0) = true) (
          none) (
          some false))))
theorem law1_Base64EncodeMatchesSpec_eq (a0 : List Int) (pc : PC prog) (lp : LP) : got law1_Base64EncodeMatchesSpec_t (pcall prog (runO prog cfg (hand prog cfg lp pc 6 tbl 5) pc 6) 3 [(.c (.slice .ro (.int .u8) a0))]) = law1_Base64EncodeMatchesSpec_B pc lp a0 := by kernel_rfl
theorem law1_Base64EncodeMatchesSpec_ap (E : AppE prog pcN pc lN lp) (a0 : List Int) : Approx (fun N => law1_Base64EncodeMatchesSpec_B (pcN N) (lN N) a0) (law1_Base64EncodeMatchesSpec_B pc lp a0) := by
  delta law1_Base64EncodeMatchesSpec_B
  exact (Approx.bnd (Approx.bnd (law1_base64Example_ca E) fun x0 => (Approx.const _)) fun x1 => (Approx.ifd (Approx.const _) (Approx.bnd (Approx.bnd (base64_Encode_ca E) fun x2 => (Approx.const _)) fun x3 => (Approx.ifd (Approx.bnd (Approx.bnd (ref1_At_ca E) fun x4 => (Approx.const _)) fun x5 => (Approx.ifd (Approx.ifd (Approx.const _) (Approx.const _)) (Approx.ifd Approx.none (Approx.const _)))) (Approx.ifd (Approx.bnd (Approx.bnd (ref1_Lines64_ca E) fun x6 => (Approx.const _)) fun x7 => (Approx.bnd (Approx.bnd (ref1_Bytes_ca E) fun x8 => (Approx.const _)) fun x9 => (Approx.ifd (Approx.const _) (Approx.const _)))) (Approx.ifd Approx.none (Approx.const _)))))))
theorem law1_Base64EncodeMatchesSpec_of {a0 : List Int} {y : Bool} (h : law1_Base64EncodeMatchesSpec_B (pcL prog cfg) lpL a0 = some y) : law1_Base64EncodeMatchesSpec_c (pcL prog cfg) a0 = some y := fn_of rfl (law1_Base64EncodeMatchesSpec_eq a0) (law1_Base64EncodeMatchesSpec_ap (appN prog cfg) a0) h

noncomputable def law1_Base64LenientMatchesSpec_B (pc : PC prog) (lp : LP) (a0 : List Int) : Option Bool :=
  bnd (bnd (law1_base64Example_c pc ) fun (x0 : Bool) =>
  some x0) fun (x1 : Bool) =>
  ifd ((!x1) = true) (
    some false) (
    bnd (bnd (base64_Lenient_c pc a0) fun (x2 : ((List Int) × ((Int × (Int × Unit)) × Unit))) =>
    some (x2.1, ((x2.2.1.1, (x2.2.1.2.1, ())), ()))) fun (x3 : ((List Int) × ((Int × (Int × Unit)) × Unit))) =>
    ifd ((decide ((((List.length a0) : Nat) : Int) > 24000)) = true) (
      bnd (bnd (ref1_At_c pc 1 (-1)) fun (x4 : (Int × (Int × Unit))) =>
      some (x4.1, (x4.2.1, ()))) fun (x5 : (Int × (Int × Unit))) =>
      ifd (((x3.2.1.1 == x5.1) && ((x3.2.1.2.1 == x5.2.1) && true)) = true) (
        ifd (((x3.2.1.1 == x5.1) && ((x3.2.1.2.1 == x5.2.1) && true)) = true) (
          some ((((List.length x3.1) : Nat) : Int) == 0)) (
          some false)) (
        ifd (((x3.2.1.1 == x5.1) && ((x3.2.1.2.1 == x5.2.1) && true)) = true) (
          none) (
          some false))) (
      ifd ((x3.2.1.1 == 0) = true) (
        bnd (bnd (ref1_Loose64_c pc a0) fun (x6 : (List Int)) =>
        some x6) fun (x7 : (List Int)) =>
        bnd (bnd (ref1_Bytes_c pc x3.1 x7) fun (x8 : Bool) =>
        some x8) fun (x9 : Bool) =>
        ifd ((x3.2.1.1 == 0) = true) (
          some x9) (
          some false)) (
        ifd ((x3.2.1.1 == 0) = true) (
          none) (
          some false))))
theorem law1_Base64LenientMatchesSpec_eq (a0 : List Int) (pc : PC prog) (lp : LP) : got law1_Base64LenientMatchesSpec_t (pcall prog (runO prog cfg (hand prog cfg lp pc 6 tbl 5) pc 6) 4 [(.c (.slice .ro (.int .u8) a0))]) = law1_Base64LenientMatchesSpec_B pc lp a0 := by kernel_rfl
theorem law1_Base64LenientMatchesSpec_ap (E : AppE prog pcN pc lN lp) (a0 : List Int) : Approx (fun N => law1_Base64LenientMatchesSpec_B (pcN N) (lN N) a0) (law1_Base64LenientMatchesSpec_B pc lp a0) := by
  delta law1_Base64LenientMatchesSpec_B
  exact (Approx.bnd (Approx.bnd (law1_base64Example_ca E) fun x0 => (Approx.const _)) fun x1 => (Approx.ifd (Approx.const _) (Approx.bnd (Approx.bnd (base64_Lenient_ca E) fun x2 => (Approx.const _)) fun x3 => (Approx.ifd (Approx.bnd (Approx.bnd (ref1_At_ca E) fun x4 => (Approx.const _)) fun x5 => (Approx.ifd (Approx.ifd (Approx.const _) (Approx.const _)) (Approx.ifd Approx.none (Approx.const _)))) (Approx.ifd (Approx.bnd (Approx.bnd (ref1_Loose64_ca E) fun x6 => (Approx.const _)) fun x7 => (Approx.bnd (Approx.bnd (ref1_Bytes_ca E) fun x8 => (Approx.const _)) fun x9 => (Approx.ifd (Approx.const _) (Approx.const _)))) (Approx.ifd Approx.none (Approx.const _)))))))
theorem law1_Base64LenientMatchesSpec_of {a0 : List Int} {y : Bool} (h : law1_Base64LenientMatchesSpec_B (pcL prog cfg) lpL a0 = some y) : law1_Base64LenientMatchesSpec_c (pcL prog cfg) a0 = some y := fn_of rfl (law1_Base64LenientMatchesSpec_eq a0) (law1_Base64LenientMatchesSpec_ap (appN prog cfg) a0) h

noncomputable def law1_Base64RoundTrip_B (pc : PC prog) (lp : LP) (a0 : List Int) : Option Bool :=
  bnd (bnd (law1_base64Example_c pc ) fun (x0 : Bool) =>
  some x0) fun (x1 : Bool) =>
  ifd ((!x1) = true) (
    some false) (
    bnd (bnd (base64_Encode_c pc a0) fun (x2 : ((List Int) × ((Int × (Int × Unit)) × Unit))) =>
    some (x2.1, ((x2.2.1.1, (x2.2.1.2.1, ())), ()))) fun (x3 : ((List Int) × ((Int × (Int × Unit)) × Unit))) =>
    ifd ((x3.2.1.1 != 0) = true) (
      some ((((List.length x3.1) : Nat) : Int) == 0)) (
      bnd (bnd (base64_Decode_c pc x3.1) fun (x4 : ((List Int) × ((Int × (Int × Unit)) × Unit))) =>
      some (x4.1, ((x4.2.1.1, (x4.2.1.2.1, ())), ()))) fun (x5 : ((List Int) × ((Int × (Int × Unit)) × Unit))) =>
      bnd (bnd (base64_Lenient_c pc x3.1) fun (x6 : ((List Int) × ((Int × (Int × Unit)) × Unit))) =>
      some (x6.1, ((x6.2.1.1, (x6.2.1.2.1, ())), ()))) fun (x7 : ((List Int) × ((Int × (Int × Unit)) × Unit))) =>
      ifd ((x5.2.1.1 == 0) = true) (
        ifd ((x5.2.1.1 == 0) = true) (
          ifd ((x7.2.1.1 == 0) = true) (
            bnd (bnd (ref1_Bytes_c pc x5.1 a0) fun (x8 : Bool) =>
            some x8) fun (x9 : Bool) =>
            ifd ((x7.2.1.1 == 0) = true) (
              ifd (x9 = true) (
                bnd (bnd (ref1_Bytes_c pc x7.1 a0) fun (x10 : Bool) =>
                some x10) fun (x11 : Bool) =>
                ifd (x9 = true) (
                  some x11) (
                  some false)) (
                ifd (x9 = true) (
                  none) (
                  some false))) (
              some false)) (
            ifd ((x7.2.1.1 == 0) = true) (
              none) (
              some false))) (
          some false)) (
        ifd ((x5.2.1.1 == 0) = true) (
          none) (
          some false))))
theorem law1_Base64RoundTrip_eq (a0 : List Int) (pc : PC prog) (lp : LP) : got law1_Base64RoundTrip_t (pcall prog (runO prog cfg (hand prog cfg lp pc 6 tbl 5) pc 6) 5 [(.c (.slice .ro (.int .u8) a0))]) = law1_Base64RoundTrip_B pc lp a0 := by kernel_rfl
theorem law1_Base64RoundTrip_ap (E : AppE prog pcN pc lN lp) (a0 : List Int) : Approx (fun N => law1_Base64RoundTrip_B (pcN N) (lN N) a0) (law1_Base64RoundTrip_B pc lp a0) := by
  delta law1_Base64RoundTrip_B
  exact (Approx.bnd (Approx.bnd (law1_base64Example_ca E) fun x0 => (Approx.const _)) fun x1 => (Approx.ifd (Approx.const _) (Approx.bnd (Approx.bnd (base64_Encode_ca E) fun x2 => (Approx.const _)) fun x3 => (Approx.ifd (Approx.const _) (Approx.bnd (Approx.bnd (base64_Decode_ca E) fun x4 => (Approx.const _)) fun x5 => (Approx.bnd (Approx.bnd (base64_Lenient_ca E) fun x6 => (Approx.const _)) fun x7 => (Approx.ifd (Approx.ifd (Approx.ifd (Approx.bnd (Approx.bnd (ref1_Bytes_ca E) fun x8 => (Approx.const _)) fun x9 => (Approx.ifd (Approx.ifd (Approx.bnd (Approx.bnd (ref1_Bytes_ca E) fun x10 => (Approx.const _)) fun x11 => (Approx.ifd (Approx.const _) (Approx.const _))) (Approx.ifd Approx.none (Approx.const _))) (Approx.const _))) (Approx.ifd Approx.none (Approx.const _))) (Approx.const _)) (Approx.ifd Approx.none (Approx.const _)))))))))
theorem law1_Base64RoundTrip_of {a0 : List Int} {y : Bool} (h : law1_Base64RoundTrip_B (pcL prog cfg) lpL a0 = some y) : law1_Base64RoundTrip_c (pcL prog cfg) a0 = some y := fn_of rfl (law1_Base64RoundTrip_eq a0) (law1_Base64RoundTrip_ap (appN prog cfg) a0) h

noncomputable def law1_Base64Unique_B (pc : PC prog) (lp : LP) (a0 : List Int) : Option Bool :=
  bnd (bnd (law1_base64Example_c pc ) fun (x0 : Bool) =>
  some x0) fun (x1 : Bool) =>
  ifd ((!x1) = true) (
    some false) (
    ifd ((decide ((((List.length a0) : Nat) : Int) > 24000)) = true) (
      some true) (
      bnd (bnd (base64_Decode_c pc a0) fun (x2 : ((List Int) × ((Int × (Int × Unit)) × Unit))) =>
      some (x2.1, ((x2.2.1.1, (x2.2.1.2.1, ())), ()))) fun (x3 : ((List Int) × ((Int × (Int × Unit)) × Unit))) =>
      ifd ((x3.2.1.1 != 0) = true) (
        bnd (bnd (ref1_At_c pc 11 (-2)) fun (x4 : (Int × (Int × Unit))) =>
        some (x4.1, (x4.2.1, ()))) fun (x5 : (Int × (Int × Unit))) =>
        ifd (((x3.2.1.1 == x5.1) && ((x3.2.1.2.1 == x5.2.1) && true)) = true) (
          ifd (((x3.2.1.1 == x5.1) && ((x3.2.1.2.1 == x5.2.1) && true)) = true) (
            some ((((List.length x3.1) : Nat) : Int) == 0)) (
            some false)) (
          ifd (((x3.2.1.1 == x5.1) && ((x3.2.1.2.1 == x5.2.1) && true)) = true) (
            none) (
            some false))) (
        bnd (bnd (ref1_Lines64_c pc x3.1) fun (x6 : (List Int)) =>
        some x6) fun (x7 : (List Int)) =>
        bnd (bnd (ref1_Bytes_c pc x7 a0) fun (x8 : Bool) =>
        some x8) fun (x9 : Bool) =>
        some x9)))
theorem law1_Base64Unique_eq (a0 : List Int) (pc : PC prog) (lp : LP) : got law1_Base64Unique_t (pcall prog (runO prog cfg (hand prog cfg lp pc 6 tbl 5) pc 6) 6 [(.c (.slice .ro (.int .u8) a0))]) = law1_Base64Unique_B pc lp a0 := by kernel_rfl
theorem law1_Base64Unique_ap (E : AppE prog pcN pc lN lp) (a0 : List Int) : Approx (fun N => law1_Base64Unique_B (pcN N) (lN N) a0) (law1_Base64Unique_B pc lp a0) := by
  delta law1_Base64Unique_B
  exact (Approx.bnd (Approx.bnd (law1_base64Example_ca E) fun x0 => (Approx.const _)) fun x1 => (Approx.ifd (Approx.const _) (Approx.ifd (Approx.const _) (Approx.bnd (Approx.bnd (base64_Decode_ca E) fun x2 => (Approx.const _)) fun x3 => (Approx.ifd (Approx.bnd (Approx.bnd (ref1_At_ca E) fun x4 => (Approx.const _)) fun x5 => (Approx.ifd (Approx.ifd (Approx.const _) (Approx.const _)) (Approx.ifd Approx.none (Approx.const _)))) (Approx.bnd (Approx.bnd (ref1_Lines64_ca E) fun x6 => (Approx.const _)) fun x7 => (Approx.bnd (Approx.bnd (ref1_Bytes_ca E) fun x8 => (Approx.const _)) fun x9 => (Approx.const _))))))))
theorem law1_Base64Unique_of {a0 : List Int} {y : Bool} (h : law1_Base64Unique_B (pcL prog cfg) lpL a0 = some y) : law1_Base64Unique_c (pcL prog cfg) a0 = some y := fn_of rfl (law1_Base64Unique_eq a0) (law1_Base64Unique_ap (appN prog cfg) a0) h

noncomputable def law1_Base64IgnoresLines_B (pc : PC prog) (lp : LP) (a0 : List Int) (a1 : Int) : Option Bool :=
  bnd (bnd (law1_base64Example_c pc ) fun (x0 : Bool) =>
  some x0) fun (x1 : Bool) =>
  ifd ((!x1) = true) (
    some false) (
    bnd (bnd (base64_Encode_c pc a0) fun (x2 : ((List Int) × ((Int × (Int × Unit)) × Unit))) =>
    some (x2.1, ((x2.2.1.1, (x2.2.1.2.1, ())), ()))) fun (x3 : ((List Int) × ((Int × (Int × Unit)) × Unit))) =>
    ifd ((x3.2.1.1 != 0) = true) (
      ifd ((x3.2.1.1 != 0) = true) (
        ifd ((x3.2.1.1 == 0) = true) (
          ifd ((x3.2.1.1 == 0) = true) (
            some true) (
            none)) (
          ifd ((x3.2.1.1 == 0) = true) (
            some true) (
            some ((((List.length x3.1) : Nat) : Int) == 0)))) (
        none)) (
      bnd (bnd (ref1_In_c pc a1 0 (((List.length x3.1) : Nat) : Int)) fun (x4 : Bool) =>
      some x4) fun (x5 : Bool) =>
      ifd ((x3.2.1.1 != 0) = true) (
        ifd ((x3.2.1.1 == 0) = true) (
          ifd ((x3.2.1.1 == 0) = true) (
            some true) (
            none)) (
          ifd ((x3.2.1.1 == 0) = true) (
            some true) (
            some ((((List.length x3.1) : Nat) : Int) == 0)))) (
        ifd ((!x5) = true) (
          ifd ((x3.2.1.1 == 0) = true) (
            ifd ((x3.2.1.1 == 0) = true) (
              some true) (
              none)) (
            ifd ((x3.2.1.1 == 0) = true) (
              some true) (
              some ((((List.length x3.1) : Nat) : Int) == 0)))) (
          ifd ((decide (((0 : Int) ≤ 0) ∧ (((0 : Int) ≤ a1) ∧ (a1 ≤ (((List.length x3.1) : Nat) : Int))))) = true) (
            ifd ((decide ((((List.length ([] : List Int)) + (List.length (List.drop (Int.toNat 0) (List.take (Int.toNat a1) x3.1)))) * 1) ≤ 140737488355328)) = true) (
              ifd ((decide ((((List.length (([] : List Int) ++ (List.drop (Int.toNat 0) (List.take (Int.toNat a1) x3.1)))) + (List.length ([32, 13, 10] : List Int))) * 1) ≤ 140737488355328)) = true) (
                ifd ((decide (((0 : Int) ≤ a1) ∧ ((a1 ≤ (((List.length x3.1) : Nat) : Int)) ∧ ((((List.length x3.1) : Nat) : Int) ≤ (((List.length x3.1) : Nat) : Int))))) = true) (
                  ifd ((decide ((((List.length ((([] : List Int) ++ (List.drop (Int.toNat 0) (List.take (Int.toNat a1) x3.1))) ++ ([32, 13, 10] : List Int))) + (List.length (List.drop (Int.toNat a1) (List.take (Int.toNat (((List.length x3.1) : Nat) : Int)) x3.1)))) * 1) ≤ 140737488355328)) = true) (
                    bnd (bnd (base64_Lenient_c pc (((([] : List Int) ++ (List.drop (Int.toNat 0) (List.take (Int.toNat a1) x3.1))) ++ ([32, 13, 10] : List Int)) ++ (List.drop (Int.toNat a1) (List.take (Int.toNat (((List.length x3.1) : Nat) : Int)) x3.1)))) fun (x6 : ((List Int) × ((Int × (Int × Unit)) × Unit))) =>
                    some (x6.1, ((x6.2.1.1, (x6.2.1.2.1, ())), ()))) fun (x7 : ((List Int) × ((Int × (Int × Unit)) × Unit))) =>
                    ifd ((x7.2.1.1 == 0) = true) (
                      bnd (bnd (ref1_Bytes_c pc x7.1 a0) fun (x8 : Bool) =>
                      some x8) fun (x9 : Bool) =>
                      ifd ((x7.2.1.1 == 0) = true) (
                        some x9) (
                        some false)) (
                      ifd ((x7.2.1.1 == 0) = true) (
                        none) (
                        some false))) (
                    none)) (
                  none)) (
                none)) (
              none)) (
            none)))))
theorem law1_Base64IgnoresLines_eq (a0 : List Int) (a1 : Int) (pc : PC prog) (lp : LP) : got law1_Base64IgnoresLines_t (pcall prog (runO prog cfg (hand prog cfg lp pc 6 tbl 5) pc 6) 7 [(.c (.slice .ro (.int .u8) a0)), (.c (.int .i64 a1))]) = law1_Base64IgnoresLines_B pc lp a0 a1 := by kernel_rfl
theorem law1_Base64IgnoresLines_ap (E : AppE prog pcN pc lN lp) (a0 : List Int) (a1 : Int) : Approx (fun N => law1_Base64IgnoresLines_B (pcN N) (lN N) a0 a1) (law1_Base64IgnoresLines_B pc lp a0 a1) := by
  delta law1_Base64IgnoresLines_B
  exact (Approx.bnd (Approx.bnd (law1_base64Example_ca E) fun x0 => (Approx.const _)) fun x1 => (Approx.ifd (Approx.const _) (Approx.bnd (Approx.bnd (base64_Encode_ca E) fun x2 => (Approx.const _)) fun x3 => (Approx.ifd (Approx.ifd (Approx.ifd (Approx.ifd (Approx.const _) Approx.none) (Approx.ifd (Approx.const _) (Approx.const _))) Approx.none) (Approx.bnd (Approx.bnd (ref1_In_ca E) fun x4 => (Approx.const _)) fun x5 => (Approx.ifd (Approx.ifd (Approx.ifd (Approx.const _) Approx.none) (Approx.ifd (Approx.const _) (Approx.const _))) (Approx.ifd (Approx.ifd (Approx.ifd (Approx.const _) Approx.none) (Approx.ifd (Approx.const _) (Approx.const _))) (Approx.ifd (Approx.ifd (Approx.ifd (Approx.ifd (Approx.ifd (Approx.bnd (Approx.bnd (base64_Lenient_ca E) fun x6 => (Approx.const _)) fun x7 => (Approx.ifd (Approx.bnd (Approx.bnd (ref1_Bytes_ca E) fun x8 => (Approx.const _)) fun x9 => (Approx.ifd (Approx.const _) (Approx.const _))) (Approx.ifd Approx.none (Approx.const _)))) Approx.none) Approx.none) Approx.none) Approx.none) Approx.none))))))))
theorem law1_Base64IgnoresLines_of {a0 : List Int} {a1 : Int} {y : Bool} (h : law1_Base64IgnoresLines_B (pcL prog cfg) lpL a0 a1 = some y) : law1_Base64IgnoresLines_c (pcL prog cfg) a0 a1 = some y := fn_of rfl (law1_Base64IgnoresLines_eq a0 a1) (law1_Base64IgnoresLines_ap (appN prog cfg) a0 a1) h

noncomputable def law1_base64Example_B (pc : PC prog) (lp : LP)  : Option Bool :=
  bnd (bnd (base64_Encode_c pc ([65] : List Int)) fun (x0 : ((List Int) × ((Int × (Int × Unit)) × Unit))) =>
  some (x0.1, ((x0.2.1.1, (x0.2.1.2.1, ())), ()))) fun (x1 : ((List Int) × ((Int × (Int × Unit)) × Unit))) =>
  bnd (bnd (base64_Decode_c pc ([81, 81, 61, 61, 13, 10] : List Int)) fun (x2 : ((List Int) × ((Int × (Int × Unit)) × Unit))) =>
  some (x2.1, ((x2.2.1.1, (x2.2.1.2.1, ())), ()))) fun (x3 : ((List Int) × ((Int × (Int × Unit)) × Unit))) =>
  bnd (bnd (base64_Lenient_c pc ([81, 45, 81] : List Int)) fun (x4 : ((List Int) × ((Int × (Int × Unit)) × Unit))) =>
  some (x4.1, ((x4.2.1.1, (x4.2.1.2.1, ())), ()))) fun (x5 : ((List Int) × ((Int × (Int × Unit)) × Unit))) =>
  ifd ((x1.2.1.1 == 0) = true) (
    ifd ((x1.2.1.1 == 0) = true) (
      ifd ((x3.2.1.1 == 0) = true) (
        ifd ((x3.2.1.1 == 0) = true) (
          ifd ((x5.2.1.1 == 0) = true) (
            ifd ((x5.2.1.1 == 0) = true) (
              ifd ((x1.1 == ([81, 81, 61, 61, 13, 10] : List Int)) = true) (
                bnd (bnd (ref1_Bytes_c pc x3.1 ([65] : List Int)) fun (x6 : Bool) =>
                some x6) fun (x7 : Bool) =>
                ifd ((x1.1 == ([81, 81, 61, 61, 13, 10] : List Int)) = true) (
                  ifd (x7 = true) (
                    bnd (bnd (ref1_Bytes_c pc x5.1 ([65] : List Int)) fun (x8 : Bool) =>
                    some x8) fun (x9 : Bool) =>
                    ifd (x7 = true) (
                      some x9) (
                      some false)) (
                    ifd (x7 = true) (
                      none) (
                      some false))) (
                  some false)) (
                ifd ((x1.1 == ([81, 81, 61, 61, 13, 10] : List Int)) = true) (
                  none) (
                  some false))) (
              some false)) (
            ifd ((x5.2.1.1 == 0) = true) (
              none) (
              some false))) (
          some false)) (
        ifd ((x3.2.1.1 == 0) = true) (
          none) (
          some false))) (
      some false)) (
    ifd ((x1.2.1.1 == 0) = true) (
      none) (
      some false))
theorem law1_base64Example_eq  (pc : PC prog) (lp : LP) : got law1_base64Example_t (pcall prog (runO prog cfg (hand prog cfg lp pc 6 tbl 5) pc 6) 8 []) = law1_base64Example_B pc lp  := by kernel_rfl
theorem law1_base64Example_ap (E : AppE prog pcN pc lN lp)  : Approx (fun N => law1_base64Example_B (pcN N) (lN N) ) (law1_base64Example_B pc lp ) := by
  delta law1_base64Example_B
  exact (Approx.bnd (Approx.bnd (base64_Encode_ca E) fun x0 => (Approx.const _)) fun x1 => (Approx.bnd (Approx.bnd (base64_Decode_ca E) fun x2 => (Approx.const _)) fun x3 => (Approx.bnd (Approx.bnd (base64_Lenient_ca E) fun x4 => (Approx.const _)) fun x5 => (Approx.ifd (Approx.ifd (Approx.ifd (Approx.ifd (Approx.ifd (Approx.ifd (Approx.ifd (Approx.bnd (Approx.bnd (ref1_Bytes_ca E) fun x6 => (Approx.const _)) fun x7 => (Approx.ifd (Approx.ifd (Approx.bnd (Approx.bnd (ref1_Bytes_ca E) fun x8 => (Approx.const _)) fun x9 => (Approx.ifd (Approx.const _) (Approx.const _))) (Approx.ifd Approx.none (Approx.const _))) (Approx.const _))) (Approx.ifd Approx.none (Approx.const _))) (Approx.const _)) (Approx.ifd Approx.none (Approx.const _))) (Approx.const _)) (Approx.ifd Approx.none (Approx.const _))) (Approx.const _)) (Approx.ifd Approx.none (Approx.const _))))))
theorem law1_base64Example_of  {y : Bool} (h : law1_base64Example_B (pcL prog cfg) lpL  = some y) : law1_base64Example_c (pcL prog cfg)  = some y := fn_of rfl (law1_base64Example_eq ) (law1_base64Example_ap (appN prog cfg) ) h

-- slices_Chunk_byte_byte_1, loop 6
abbrev base64_Encode_L1_D := ((Unit × (Unit × (Unit × (Int × Unit)))) × ((Int × (Int × Unit)) × (((List Int) × Unit) × (((List Int) × Unit) × ((Int × Unit) × ((Unit × Unit) × Unit))))))
abbrev base64_Encode_L1_X := (Unit × ((Int × (Int × Unit)) × (((List Int) × Unit) × (((List Int) × Unit) × ((Int × Unit) × ((Unit × Unit) × Unit))))))
noncomputable def base64_Encode_L1_R (pc : PC prog) (lp : LP) (ψ : base64_Encode_L1_D → Option base64_Encode_L1_X) (d : base64_Encode_L1_D) : Option base64_Encode_L1_X :=
  ifd ((decide (d.1.2.2.2.1 < (((List.length d.2.2.2.1.1) : Nat) : Int))) = true) (
    ifd ((decide (((0 : Int) ≤ d.1.2.2.2.1) ∧ ((d.1.2.2.2.1 ≤ (((List.length d.2.2.2.1.1) : Nat) : Int)) ∧ ((((List.length d.2.2.2.1.1) : Nat) : Int) ≤ (((List.length d.2.2.2.1.1) : Nat) : Int))))) = true) (
      ifd ((decide (((0 : Int) ≤ d.1.2.2.2.1) ∧ ((d.1.2.2.2.1 ≤ (Go.IntKind.wrap .i64 (d.1.2.2.2.1 + (min d.2.2.2.2.1.1 (((List.length (List.drop (Int.toNat d.1.2.2.2.1) (List.take (Int.toNat (((List.length d.2.2.2.1.1) : Nat) : Int)) d.2.2.2.1.1))) : Nat) : Int))))) ∧ (((Go.IntKind.wrap .i64 (d.1.2.2.2.1 + (min d.2.2.2.2.1.1 (((List.length (List.drop (Int.toNat d.1.2.2.2.1) (List.take (Int.toNat (((List.length d.2.2.2.1.1) : Nat) : Int)) d.2.2.2.1.1))) : Nat) : Int)))) ≤ (Go.IntKind.wrap .i64 (d.1.2.2.2.1 + (min d.2.2.2.2.1.1 (((List.length (List.drop (Int.toNat d.1.2.2.2.1) (List.take (Int.toNat (((List.length d.2.2.2.1.1) : Nat) : Int)) d.2.2.2.1.1))) : Nat) : Int))))) ∧ ((Go.IntKind.wrap .i64 (d.1.2.2.2.1 + (min d.2.2.2.2.1.1 (((List.length (List.drop (Int.toNat d.1.2.2.2.1) (List.take (Int.toNat (((List.length d.2.2.2.1.1) : Nat) : Int)) d.2.2.2.1.1))) : Nat) : Int)))) ≤ (((List.length d.2.2.2.1.1) : Nat) : Int)))))) = true) (
        ifd ((decide ((((List.length d.2.2.1.1) + (List.length (List.drop (Int.toNat d.1.2.2.2.1) (List.take (Int.toNat (Go.IntKind.wrap .i64 (d.1.2.2.2.1 + (min d.2.2.2.2.1.1 (((List.length (List.drop (Int.toNat d.1.2.2.2.1) (List.take (Int.toNat (((List.length d.2.2.2.1.1) : Nat) : Int)) d.2.2.2.1.1))) : Nat) : Int))))) d.2.2.2.1.1)))) * 1) ≤ 140737488355328)) = true) (
          ifd ((decide ((((List.length (d.2.2.1.1 ++ (List.drop (Int.toNat d.1.2.2.2.1) (List.take (Int.toNat (Go.IntKind.wrap .i64 (d.1.2.2.2.1 + (min d.2.2.2.2.1.1 (((List.length (List.drop (Int.toNat d.1.2.2.2.1) (List.take (Int.toNat (((List.length d.2.2.2.1.1) : Nat) : Int)) d.2.2.2.1.1))) : Nat) : Int))))) d.2.2.2.1.1)))) + (List.length ([13, 10] : List Int))) * 1) ≤ 140737488355328)) = true) (
            ψ (((), (), (), (Go.IntKind.wrap .i64 (d.1.2.2.2.1 + d.2.2.2.2.1.1)), ()), ((d.2.1.1, d.2.1.2.1, ()), (((d.2.2.1.1 ++ (List.drop (Int.toNat d.1.2.2.2.1) (List.take (Int.toNat (Go.IntKind.wrap .i64 (d.1.2.2.2.1 + (min d.2.2.2.2.1.1 (((List.length (List.drop (Int.toNat d.1.2.2.2.1) (List.take (Int.toNat (((List.length d.2.2.2.1.1) : Nat) : Int)) d.2.2.2.1.1))) : Nat) : Int))))) d.2.2.2.1.1))) ++ ([13, 10] : List Int)), ()), (d.2.2.2.1.1, ()), (d.2.2.2.2.1.1, ()), ((), ()), ()))) (
            none)) (
          none)) (
        none)) (
      none)) (
    some ((), ((d.2.1.1, d.2.1.2.1, ()), (d.2.2.1.1, ()), (d.2.2.2.1.1, ()), (d.2.2.2.2.1.1, ()), ((), ()), ())))
noncomputable def base64_Encode_L1 (pc : PC prog) (lp : LP) (d : base64_Encode_L1_D) : Option base64_Encode_L1_X := lp base64_Encode_L1_D base64_Encode_L1_X (base64_Encode_L1_R pc lp) d
theorem base64_Encode_L1_ap (E : AppE prog pcN pc lN lp) : ContR (fun N => base64_Encode_L1_R (pcN N) (lN N)) (base64_Encode_L1_R pc lp) := fun ψN ψ h d => by
  delta base64_Encode_L1_R
  exact (Approx.ifd (Approx.ifd (Approx.ifd (Approx.ifd (Approx.ifd (h _) Approx.none) Approx.none) Approx.none) Approx.none) (Approx.const _))
theorem base64_Encode_L1_a (E : AppE prog pcN pc lN lp) {d : base64_Encode_L1_D} : Approx (fun N => base64_Encode_L1 (pcN N) (lN N) d) (base64_Encode_L1 pc lp d) := E.loop (base64_Encode_L1_ap E) d
theorem base64_Encode_L1_of {d : base64_Encode_L1_D} {x : base64_Encode_L1_X} (h : base64_Encode_L1_R (pcL prog cfg) lpL (base64_Encode_L1 (pcL prog cfg) lpL) d = some x) : base64_Encode_L1 (pcL prog cfg) lpL d = some x := lpL_step (base64_Encode_L1_ap (appL prog cfg)) h

noncomputable def base64_Encode_B (pc : PC prog) (lp : LP) (a0 : List Int) : Option ((List Int) × ((Int × (Int × Unit)) × Unit)) :=
  ifd ((decide ((((List.length a0) : Nat) : Int) > 12000)) = true) (
    some (([] : List Int), ((1, ((-1), ())), ()))) (
    bnd (bnd (base64_Plain_c pc a0) fun (x0 : (List Int)) =>
    some x0) fun (x1 : (List Int)) =>
    bnd (base64_Encode_L1 pc lp (((), (), (), 0, ()), ((0, 0, ()), (([] : List Int), ()), (x1, ()), (76, ()), ((), ()), ()))) (fun (y2 : (Unit × ((Int × (Int × Unit)) × (((List Int) × Unit) × (((List Int) × Unit) × ((Int × Unit) × ((Unit × Unit) × Unit))))))) =>
    some (y2.2.2.1.1, ((0, (0, ())), ()))))
theorem base64_Encode_eq (a0 : List Int) (pc : PC prog) (lp : LP) : got base64_Encode_t (pcall prog (runO prog cfg (hand prog cfg lp pc 6 tbl 5) pc 6) 9 [(.c (.slice .ro (.int .u8) a0))]) = base64_Encode_B pc lp a0 := by kernel_rfl
theorem base64_Encode_ap (E : AppE prog pcN pc lN lp) (a0 : List Int) : Approx (fun N => base64_Encode_B (pcN N) (lN N) a0) (base64_Encode_B pc lp a0) := by
  delta base64_Encode_B
  exact (Approx.ifd (Approx.const _) (Approx.bnd (Approx.bnd (base64_Plain_ca E) fun x0 => (Approx.const _)) fun x1 => (Approx.bnd (base64_Encode_L1_a E) (fun y2 => (Approx.const _)))))
theorem base64_Encode_of {a0 : List Int} {y : ((List Int) × ((Int × (Int × Unit)) × Unit))} (h : base64_Encode_B (pcL prog cfg) lpL a0 = some y) : base64_Encode_c (pcL prog cfg) a0 = some y := fn_of rfl (base64_Encode_eq a0) (base64_Encode_ap (appN prog cfg) a0) h

noncomputable def ref1_At_B (pc : PC prog) (lp : LP) (a0 : Int) (a1 : Int) : Option (Int × (Int × Unit)) :=
  some (a0, (a1, ()))
theorem ref1_At_eq (a0 : Int) (a1 : Int) (pc : PC prog) (lp : LP) : got ref1_At_t (pcall prog (runO prog cfg (hand prog cfg lp pc 6 tbl 5) pc 6) 10 [(.c (.int .i64 a0)), (.c (.int .i64 a1))]) = ref1_At_B pc lp a0 a1 := by kernel_rfl
theorem ref1_At_ap (E : AppE prog pcN pc lN lp) (a0 : Int) (a1 : Int) : Approx (fun N => ref1_At_B (pcN N) (lN N) a0 a1) (ref1_At_B pc lp a0 a1) := by
  delta ref1_At_B
  exact (Approx.const _)
theorem ref1_At_of {a0 : Int} {a1 : Int} {y : (Int × (Int × Unit))} (h : ref1_At_B (pcL prog cfg) lpL a0 a1 = some y) : ref1_At_c (pcL prog cfg) a0 a1 = some y := fn_of rfl (ref1_At_eq a0 a1) (ref1_At_ap (appN prog cfg) a0 a1) h

-- ref1_Lines64, loop 60
abbrev ref1_Lines64_L1_D := (((List Int) × ((List Int) × Unit)) × Unit)
abbrev ref1_Lines64_L1_X := (((List Int) × ((List Int) × Unit)) × Unit)
noncomputable def ref1_Lines64_L1_R (pc : PC prog) (lp : LP) (ψ : ref1_Lines64_L1_D → Option ref1_Lines64_L1_X) (d : ref1_Lines64_L1_D) : Option ref1_Lines64_L1_X :=
  ifd ((decide ((((List.length d.1.1) : Nat) : Int) > 76)) = true) (
    ifd ((decide (((0 : Int) ≤ 0) ∧ (((0 : Int) ≤ 76) ∧ ((76 : Int) ≤ (((List.length d.1.1) : Nat) : Int))))) = true) (
      ifd ((decide ((((List.length d.1.2.1) + (List.length (List.drop (Int.toNat 0) (List.take (Int.toNat 76) d.1.1)))) * 1) ≤ 140737488355328)) = true) (
        ifd ((decide ((((List.length (d.1.2.1 ++ (List.drop (Int.toNat 0) (List.take (Int.toNat 76) d.1.1)))) + (List.length ([13, 10] : List Int))) * 1) ≤ 140737488355328)) = true) (
          ifd ((decide (((0 : Int) ≤ 76) ∧ (((76 : Int) ≤ (((List.length d.1.1) : Nat) : Int)) ∧ ((((List.length d.1.1) : Nat) : Int) ≤ (((List.length d.1.1) : Nat) : Int))))) = true) (
            ψ (((List.drop (Int.toNat 76) (List.take (Int.toNat (((List.length d.1.1) : Nat) : Int)) d.1.1)), ((d.1.2.1 ++ (List.drop (Int.toNat 0) (List.take (Int.toNat 76) d.1.1))) ++ ([13, 10] : List Int)), ()), ())) (
            none)) (
          none)) (
        none)) (
      none)) (
    some ((d.1.1, d.1.2.1, ()), ()))
noncomputable def ref1_Lines64_L1 (pc : PC prog) (lp : LP) (d : ref1_Lines64_L1_D) : Option ref1_Lines64_L1_X := lp ref1_Lines64_L1_D ref1_Lines64_L1_X (ref1_Lines64_L1_R pc lp) d
theorem ref1_Lines64_L1_ap (E : AppE prog pcN pc lN lp) : ContR (fun N => ref1_Lines64_L1_R (pcN N) (lN N)) (ref1_Lines64_L1_R pc lp) := fun ψN ψ h d => by
  delta ref1_Lines64_L1_R
  exact (Approx.ifd (Approx.ifd (Approx.ifd (Approx.ifd (Approx.ifd (h _) Approx.none) Approx.none) Approx.none) Approx.none) (Approx.const _))
theorem ref1_Lines64_L1_a (E : AppE prog pcN pc lN lp) {d : ref1_Lines64_L1_D} : Approx (fun N => ref1_Lines64_L1 (pcN N) (lN N) d) (ref1_Lines64_L1 pc lp d) := E.loop (ref1_Lines64_L1_ap E) d
theorem ref1_Lines64_L1_of {d : ref1_Lines64_L1_D} {x : ref1_Lines64_L1_X} (h : ref1_Lines64_L1_R (pcL prog cfg) lpL (ref1_Lines64_L1 (pcL prog cfg) lpL) d = some x) : ref1_Lines64_L1 (pcL prog cfg) lpL d = some x := lpL_step (ref1_Lines64_L1_ap (appL prog cfg)) h

noncomputable def ref1_Lines64_B (pc : PC prog) (lp : LP) (a0 : List Int) : Option (List Int) :=
  bnd (bnd (ref1_Chars64_c pc a0) fun (x0 : (List Int)) =>
  some x0) fun (x1 : (List Int)) =>
  bnd (ref1_Lines64_L1 pc lp ((x1, ([] : List Int), ()), ())) (fun (y2 : (((List Int) × ((List Int) × Unit)) × Unit)) =>
  ifd ((!(y2.1.1 == ([] : List Int))) = true) (
    ifd ((decide ((((List.length y2.1.2.1) + (List.length y2.1.1)) * 1) ≤ 140737488355328)) = true) (
      ifd ((decide ((((List.length (y2.1.2.1 ++ y2.1.1)) + (List.length ([13, 10] : List Int))) * 1) ≤ 140737488355328)) = true) (
        some ((y2.1.2.1 ++ y2.1.1) ++ ([13, 10] : List Int))) (
        none)) (
      none)) (
    some y2.1.2.1))
theorem ref1_Lines64_eq (a0 : List Int) (pc : PC prog) (lp : LP) : got ref1_Lines64_t (pcall prog (runO prog cfg (hand prog cfg lp pc 6 tbl 5) pc 6) 12 [(.c (.slice .ro (.int .u8) a0))]) = ref1_Lines64_B pc lp a0 := by kernel_rfl
theorem ref1_Lines64_ap (E : AppE prog pcN pc lN lp) (a0 : List Int) : Approx (fun N => ref1_Lines64_B (pcN N) (lN N) a0) (ref1_Lines64_B pc lp a0) := by
  delta ref1_Lines64_B
  exact (Approx.bnd (Approx.bnd (ref1_Chars64_ca E) fun x0 => (Approx.const _)) fun x1 => (Approx.bnd (ref1_Lines64_L1_a E) (fun y2 => (Approx.ifd (Approx.ifd (Approx.ifd (Approx.const _) Approx.none) Approx.none) (Approx.const _)))))
theorem ref1_Lines64_of {a0 : List Int} {y : (List Int)} (h : ref1_Lines64_B (pcL prog cfg) lpL a0 = some y) : ref1_Lines64_c (pcL prog cfg) a0 = some y := fn_of rfl (ref1_Lines64_eq a0) (ref1_Lines64_ap (appN prog cfg) a0) h

noncomputable def ref1_Bytes_B (pc : PC prog) (lp : LP) (a0 : List Int) (a1 : List Int) : Option Bool :=
  some (a0 == a1)
theorem ref1_Bytes_eq (a0 : List Int) (a1 : List Int) (pc : PC prog) (lp : LP) : got ref1_Bytes_t (pcall prog (runO prog cfg (hand prog cfg lp pc 6 tbl 5) pc 6) 11 [(.c (.slice .ro (.int .u8) a0)), (.c (.slice .ro (.int .u8) a1))]) = ref1_Bytes_B pc lp a0 a1 := by kernel_rfl
theorem ref1_Bytes_ap (E : AppE prog pcN pc lN lp) (a0 : List Int) (a1 : List Int) : Approx (fun N => ref1_Bytes_B (pcN N) (lN N) a0 a1) (ref1_Bytes_B pc lp a0 a1) := by
  delta ref1_Bytes_B
  exact (Approx.const _)
theorem ref1_Bytes_of {a0 : List Int} {a1 : List Int} {y : Bool} (h : ref1_Bytes_B (pcL prog cfg) lpL a0 a1 = some y) : ref1_Bytes_c (pcL prog cfg) a0 a1 = some y := fn_of rfl (ref1_Bytes_eq a0 a1) (ref1_Bytes_ap (appN prog cfg) a0 a1) h

noncomputable def base64_Lenient_B (pc : PC prog) (lp : LP) (a0 : List Int) : Option ((List Int) × ((Int × (Int × Unit)) × Unit)) :=
  ifd ((decide ((((List.length a0) : Nat) : Int) > 24000)) = true) (
    some (([] : List Int), ((1, ((-1), ())), ()))) (
    bnd (bnd (base64_Loose_c pc a0) fun (x0 : (List Int)) =>
    some x0) fun (x1 : (List Int)) =>
    some (x1, ((0, (0, ())), ())))
theorem base64_Lenient_eq (a0 : List Int) (pc : PC prog) (lp : LP) : got base64_Lenient_t (pcall prog (runO prog cfg (hand prog cfg lp pc 6 tbl 5) pc 6) 13 [(.c (.slice .ro (.int .u8) a0))]) = base64_Lenient_B pc lp a0 := by kernel_rfl
theorem base64_Lenient_ap (E : AppE prog pcN pc lN lp) (a0 : List Int) : Approx (fun N => base64_Lenient_B (pcN N) (lN N) a0) (base64_Lenient_B pc lp a0) := by
  delta base64_Lenient_B
  exact (Approx.ifd (Approx.const _) (Approx.bnd (Approx.bnd (base64_Loose_ca E) fun x0 => (Approx.const _)) fun x1 => (Approx.const _)))
theorem base64_Lenient_of {a0 : List Int} {y : ((List Int) × ((Int × (Int × Unit)) × Unit))} (h : base64_Lenient_B (pcL prog cfg) lpL a0 = some y) : base64_Lenient_c (pcL prog cfg) a0 = some y := fn_of rfl (base64_Lenient_eq a0) (base64_Lenient_ap (appN prog cfg) a0) h

-- ref1_Loose64, loop 7462
abbrev ref1_Loose64_L1_D := (((List Int) × ((List Int) × (Int × (Int × (Int × ((List Int) × (Int × ((Int × Unit) × (Int × (Bool × Unit)))))))))) × Unit)
abbrev ref1_Loose64_L1_X := (((List Int) × ((List Int) × (Int × ((List Int) × (Int × ((Int × Unit) × (Int × (Bool × Unit)))))))) × Unit)
noncomputable def ref1_Loose64_L1_R (pc : PC prog) (lp : LP) (ψ : ref1_Loose64_L1_D → Option ref1_Loose64_L1_X) (d : ref1_Loose64_L1_D) : Option ref1_Loose64_L1_X :=
  ifd ((decide (d.1.2.2.2.2.1 ≥ 0)) = true) (
    ifd ((decide (d.1.2.2.2.2.1 ≥ 0)) = true) (
      ifd ((decide (d.1.2.2.2.1 ≥ 0)) = true) (
        ifd ((decide ((0 : Int) ≤ (Go.IntKind.wrap .u64 d.1.2.2.2.2.1))) = true) (
          ifd ((decide ((((List.length d.1.2.1) + (List.length ([(Int.tmod (Int.fdiv d.1.2.2.2.1 ((2 : Int) ^ (min (Int.toNat (Go.IntKind.wrap .u64 d.1.2.2.2.2.1)) 64))) 2)] : List Int))) * 8) ≤ 140737488355328)) = true) (
            ψ ((d.1.1, (d.1.2.1 ++ ([(Int.tmod (Int.fdiv d.1.2.2.2.1 ((2 : Int) ^ (min (Int.toNat (Go.IntKind.wrap .u64 d.1.2.2.2.2.1)) 64))) 2)] : List Int)), d.1.2.2.1, d.1.2.2.2.1, (Go.IntKind.wrap .i64 (d.1.2.2.2.2.1 - 1)), d.1.2.2.2.2.2.1, d.1.2.2.2.2.2.2.1, (d.1.2.2.2.2.2.2.2.1.1, ()), d.1.2.2.2.2.2.2.2.2.1, d.1.2.2.2.2.2.2.2.2.2.1, ()), ())) (
            none)) (
          none)) (
        some ((d.1.1, d.1.2.1, d.1.2.2.1, d.1.2.2.2.2.2.1, d.1.2.2.2.2.2.2.1, (d.1.2.2.2.2.2.2.2.1.1, ()), d.1.2.2.2.2.2.2.2.2.1, d.1.2.2.2.2.2.2.2.2.2.1, ()), ()))) (
      some ((d.1.1, d.1.2.1, d.1.2.2.1, d.1.2.2.2.2.2.1, d.1.2.2.2.2.2.2.1, (d.1.2.2.2.2.2.2.2.1.1, ()), d.1.2.2.2.2.2.2.2.2.1, d.1.2.2.2.2.2.2.2.2.2.1, ()), ()))) (
    ifd ((decide (d.1.2.2.2.2.1 ≥ 0)) = true) (
      none) (
      some ((d.1.1, d.1.2.1, d.1.2.2.1, d.1.2.2.2.2.2.1, d.1.2.2.2.2.2.2.1, (d.1.2.2.2.2.2.2.2.1.1, ()), d.1.2.2.2.2.2.2.2.2.1, d.1.2.2.2.2.2.2.2.2.2.1, ()), ())))
noncomputable def ref1_Loose64_L1 (pc : PC prog) (lp : LP) (d : ref1_Loose64_L1_D) : Option ref1_Loose64_L1_X := lp ref1_Loose64_L1_D ref1_Loose64_L1_X (ref1_Loose64_L1_R pc lp) d
theorem ref1_Loose64_L1_ap (E : AppE prog pcN pc lN lp) : ContR (fun N => ref1_Loose64_L1_R (pcN N) (lN N)) (ref1_Loose64_L1_R pc lp) := fun ψN ψ h d => by
  delta ref1_Loose64_L1_R
  exact (Approx.ifd (Approx.ifd (Approx.ifd (Approx.ifd (Approx.ifd (h _) Approx.none) Approx.none) (Approx.const _)) (Approx.const _)) (Approx.ifd Approx.none (Approx.const _)))
theorem ref1_Loose64_L1_a (E : AppE prog pcN pc lN lp) {d : ref1_Loose64_L1_D} : Approx (fun N => ref1_Loose64_L1 (pcN N) (lN N) d) (ref1_Loose64_L1 pc lp d) := E.loop (ref1_Loose64_L1_ap E) d
theorem ref1_Loose64_L1_of {d : ref1_Loose64_L1_D} {x : ref1_Loose64_L1_X} (h : ref1_Loose64_L1_R (pcL prog cfg) lpL (ref1_Loose64_L1 (pcL prog cfg) lpL) d = some x) : ref1_Loose64_L1 (pcL prog cfg) lpL d = some x := lpL_step (ref1_Loose64_L1_ap (appL prog cfg)) h

-- ref1_Loose64, loop 58
abbrev ref1_Loose64_L2_D := (((List Int) × ((List Int) × (Int × Unit))) × Unit)
abbrev ref1_Loose64_L2_X := (((List Int) × Unit) × Unit)
noncomputable def ref1_Loose64_L2_R (pc : PC prog) (lp : LP) (ψ : ref1_Loose64_L2_D → Option ref1_Loose64_L2_X) (d : ref1_Loose64_L2_D) : Option ref1_Loose64_L2_X :=
  ifd ((decide (d.1.2.2.1 < (((List.length d.1.1) : Nat) : Int))) = true) (
    ifd ((decide (((0 : Int) ≤ d.1.2.2.1) ∧ (d.1.2.2.1 < (((List.length d.1.1) : Nat) : Int)))) = true) (
      ifd ((decide (d.1.2.2.1 < (((List.length d.1.1) : Nat) : Int))) = true) (
        ifd (((List.getD d.1.1 (Int.toNat d.1.2.2.1) 0) != 61) = true) (
          ifd ((decide (((0 : Int) ≤ d.1.2.2.1) ∧ (d.1.2.2.1 < (((List.length d.1.1) : Nat) : Int)))) = true) (
            bnd (bnd (ref1_value64_c pc (List.getD d.1.1 (Int.toNat d.1.2.2.1) 0)) fun (x6 : Int) =>
            some x6) fun (x7 : Int) =>
            bnd (ref1_Loose64_L1 pc lp ((d.1.1, d.1.2.1, d.1.2.2.1, x7, 5, d.1.1, d.1.2.2.1, ((List.getD d.1.1 (Int.toNat d.1.2.2.1) 0), ()), (List.getD d.1.1 (Int.toNat d.1.2.2.1) 0), ((List.getD d.1.1 (Int.toNat d.1.2.2.1) 0) != 61), ()), ())) (fun (y8 : (((List Int) × ((List Int) × (Int × ((List Int) × (Int × ((Int × Unit) × (Int × (Bool × Unit)))))))) × Unit)) =>
            ψ ((y8.1.1, y8.1.2.1, (Go.IntKind.wrap .i64 (y8.1.2.2.1 + 1)), ()), ()))) (
            none)) (
          some ((d.1.2.1, ()), ()))) (
        some ((d.1.2.1, ()), ()))) (
      none)) (
    ifd ((decide (d.1.2.2.1 < (((List.length d.1.1) : Nat) : Int))) = true) (
      none) (
      some ((d.1.2.1, ()), ())))
noncomputable def ref1_Loose64_L2 (pc : PC prog) (lp : LP) (d : ref1_Loose64_L2_D) : Option ref1_Loose64_L2_X := lp ref1_Loose64_L2_D ref1_Loose64_L2_X (ref1_Loose64_L2_R pc lp) d
theorem ref1_Loose64_L2_ap (E : AppE prog pcN pc lN lp) : ContR (fun N => ref1_Loose64_L2_R (pcN N) (lN N)) (ref1_Loose64_L2_R pc lp) := fun ψN ψ h d => by
  delta ref1_Loose64_L2_R
  exact (Approx.ifd (Approx.ifd (Approx.ifd (Approx.ifd (Approx.ifd (Approx.bnd (Approx.bnd (ref1_value64_ca E) fun x6 => (Approx.const _)) fun x7 => (Approx.bnd (ref1_Loose64_L1_a E) (fun y8 => (h _)))) Approx.none) (Approx.const _)) (Approx.const _)) Approx.none) (Approx.ifd Approx.none (Approx.const _)))
theorem ref1_Loose64_L2_a (E : AppE prog pcN pc lN lp) {d : ref1_Loose64_L2_D} : Approx (fun N => ref1_Loose64_L2 (pcN N) (lN N) d) (ref1_Loose64_L2 pc lp d) := E.loop (ref1_Loose64_L2_ap E) d
theorem ref1_Loose64_L2_of {d : ref1_Loose64_L2_D} {x : ref1_Loose64_L2_X} (h : ref1_Loose64_L2_R (pcL prog cfg) lpL (ref1_Loose64_L2 (pcL prog cfg) lpL) d = some x) : ref1_Loose64_L2 (pcL prog cfg) lpL d = some x := lpL_step (ref1_Loose64_L2_ap (appL prog cfg)) h

-- ref1_Loose64, loop 250
abbrev ref1_Loose64_L3_D := (((List Int) × ((List Int) × (Int × Unit))) × Unit)
abbrev ref1_Loose64_L3_X := (((List Int) × Unit) × Unit)
noncomputable def ref1_Loose64_L3_R (pc : PC prog) (lp : LP) (ψ : ref1_Loose64_L3_D → Option ref1_Loose64_L3_X) (d : ref1_Loose64_L3_D) : Option ref1_Loose64_L3_X :=
  ifd ((decide ((Go.IntKind.wrap .i64 (d.1.2.2.1 + 8)) ≤ (((List.length d.1.1) : Nat) : Int))) = true) (
    ifd ((decide (((0 : Int) ≤ d.1.2.2.1) ∧ ((d.1.2.2.1 ≤ (Go.IntKind.wrap .i64 (d.1.2.2.1 + 8))) ∧ ((Go.IntKind.wrap .i64 (d.1.2.2.1 + 8)) ≤ (((List.length d.1.1) : Nat) : Int))))) = true) (
      bnd (bnd (ref1_sum_c pc (List.drop (Int.toNat d.1.2.2.1) (List.take (Int.toNat (Go.IntKind.wrap .i64 (d.1.2.2.1 + 8))) d.1.1))) fun (x16 : Int) =>
      some x16) fun (x17 : Int) =>
      ifd ((decide ((((List.length d.1.2.1) + (List.length ([(Go.IntKind.wrap .u8 x17)] : List Int))) * 1) ≤ 140737488355328)) = true) (
        ψ ((d.1.1, (d.1.2.1 ++ ([(Go.IntKind.wrap .u8 x17)] : List Int)), (Go.IntKind.wrap .i64 (d.1.2.2.1 + 8)), ()), ())) (
        none)) (
      none)) (
    some ((d.1.2.1, ()), ()))
noncomputable def ref1_Loose64_L3 (pc : PC prog) (lp : LP) (d : ref1_Loose64_L3_D) : Option ref1_Loose64_L3_X := lp ref1_Loose64_L3_D ref1_Loose64_L3_X (ref1_Loose64_L3_R pc lp) d
theorem ref1_Loose64_L3_ap (E : AppE prog pcN pc lN lp) : ContR (fun N => ref1_Loose64_L3_R (pcN N) (lN N)) (ref1_Loose64_L3_R pc lp) := fun ψN ψ h d => by
  delta ref1_Loose64_L3_R
  exact (Approx.ifd (Approx.ifd (Approx.bnd (Approx.bnd (ref1_sum_ca E) fun x16 => (Approx.const _)) fun x17 => (Approx.ifd (h _) Approx.none)) Approx.none) (Approx.const _))
theorem ref1_Loose64_L3_a (E : AppE prog pcN pc lN lp) {d : ref1_Loose64_L3_D} : Approx (fun N => ref1_Loose64_L3 (pcN N) (lN N) d) (ref1_Loose64_L3 pc lp d) := E.loop (ref1_Loose64_L3_ap E) d
theorem ref1_Loose64_L3_of {d : ref1_Loose64_L3_D} {x : ref1_Loose64_L3_X} (h : ref1_Loose64_L3_R (pcL prog cfg) lpL (ref1_Loose64_L3 (pcL prog cfg) lpL) d = some x) : ref1_Loose64_L3 (pcL prog cfg) lpL d = some x := lpL_step (ref1_Loose64_L3_ap (appL prog cfg)) h

noncomputable def ref1_Loose64_B (pc : PC prog) (lp : LP) (a0 : List Int) : Option (List Int) :=
  bnd (ref1_Loose64_L2 pc lp ((a0, ([] : List Int), 0, ()), ())) (fun (y9 : (((List Int) × Unit) × Unit)) =>
  bnd (ref1_Loose64_L3 pc lp ((y9.1.1, ([] : List Int), 0, ()), ())) (fun (y18 : (((List Int) × Unit) × Unit)) =>
  some y18.1.1))
theorem ref1_Loose64_eq (a0 : List Int) (pc : PC prog) (lp : LP) : got ref1_Loose64_t (pcall prog (runO prog cfg (hand prog cfg lp pc 6 tbl 5) pc 6) 14 [(.c (.slice .ro (.int .u8) a0))]) = ref1_Loose64_B pc lp a0 := by kernel_rfl
theorem ref1_Loose64_ap (E : AppE prog pcN pc lN lp) (a0 : List Int) : Approx (fun N => ref1_Loose64_B (pcN N) (lN N) a0) (ref1_Loose64_B pc lp a0) := by
  delta ref1_Loose64_B
  exact (Approx.bnd (ref1_Loose64_L2_a E) (fun y9 => (Approx.bnd (ref1_Loose64_L3_a E) (fun y18 => (Approx.const _)))))
theorem ref1_Loose64_of {a0 : List Int} {y : (List Int)} (h : ref1_Loose64_B (pcL prog cfg) lpL a0 = some y) : ref1_Loose64_c (pcL prog cfg) a0 = some y := fn_of rfl (ref1_Loose64_eq a0) (ref1_Loose64_ap (appN prog cfg) a0) h

noncomputable def base64_Decode_B (pc : PC prog) (lp : LP) (a0 : List Int) : Option ((List Int) × ((Int × (Int × Unit)) × Unit)) :=
  ifd ((decide ((((List.length a0) : Nat) : Int) > 24000)) = true) (
    some (([] : List Int), ((1, ((-1), ())), ()))) (
    bnd (bnd (base64_Loose_c pc a0) fun (x0 : (List Int)) =>
    some x0) fun (x1 : (List Int)) =>
    bnd (bnd (base64_Encode_c pc x1) fun (x2 : ((List Int) × ((Int × (Int × Unit)) × Unit))) =>
    some (x2.1, ((x2.2.1.1, (x2.2.1.2.1, ())), ()))) fun (x3 : ((List Int) × ((Int × (Int × Unit)) × Unit))) =>
    ifd ((!((x3.2.1.1 == 0) && ((x3.2.1.2.1 == 0) && true))) = true) (
      ifd ((!((x3.2.1.1 == 0) && ((x3.2.1.2.1 == 0) && true))) = true) (
        some (([] : List Int), ((11, ((-2), ())), ()))) (
        none)) (
      bnd (bnd (bytes_Equal_c pc x3.1 a0) fun (x4 : Bool) =>
      some x4) fun (x5 : Bool) =>
      ifd ((!((x3.2.1.1 == 0) && ((x3.2.1.2.1 == 0) && true))) = true) (
        some (([] : List Int), ((11, ((-2), ())), ()))) (
        ifd ((!x5) = true) (
          some (([] : List Int), ((11, ((-2), ())), ()))) (
          some (x1, ((x3.2.1.1, (x3.2.1.2.1, ())), ()))))))
theorem base64_Decode_eq (a0 : List Int) (pc : PC prog) (lp : LP) : got base64_Decode_t (pcall prog (runO prog cfg (hand prog cfg lp pc 6 tbl 5) pc 6) 15 [(.c (.slice .ro (.int .u8) a0))]) = base64_Decode_B pc lp a0 := by kernel_rfl
theorem base64_Decode_ap (E : AppE prog pcN pc lN lp) (a0 : List Int) : Approx (fun N => base64_Decode_B (pcN N) (lN N) a0) (base64_Decode_B pc lp a0) := by
  delta base64_Decode_B
  exact (Approx.ifd (Approx.const _) (Approx.bnd (Approx.bnd (base64_Loose_ca E) fun x0 => (Approx.const _)) fun x1 => (Approx.bnd (Approx.bnd (base64_Encode_ca E) fun x2 => (Approx.const _)) fun x3 => (Approx.ifd (Approx.ifd (Approx.const _) Approx.none) (Approx.bnd (Approx.bnd (bytes_Equal_ca E) fun x4 => (Approx.const _)) fun x5 => (Approx.ifd (Approx.const _) (Approx.ifd (Approx.const _) (Approx.const _))))))))
theorem base64_Decode_of {a0 : List Int} {y : ((List Int) × ((Int × (Int × Unit)) × Unit))} (h : base64_Decode_B (pcL prog cfg) lpL a0 = some y) : base64_Decode_c (pcL prog cfg) a0 = some y := fn_of rfl (base64_Decode_eq a0) (base64_Decode_ap (appN prog cfg) a0) h

noncomputable def ref1_In_B (pc : PC prog) (lp : LP) (a0 : Int) (a1 : Int) (a2 : Int) : Option Bool :=
  ifd ((decide (a0 ≥ a1)) = true) (
    ifd ((decide (a0 ≥ a1)) = true) (
      some (decide (a0 ≤ a2))) (
      some false)) (
    ifd ((decide (a0 ≥ a1)) = true) (
      none) (
      some false))
theorem ref1_In_eq (a0 : Int) (a1 : Int) (a2 : Int) (pc : PC prog) (lp : LP) : got ref1_In_t (pcall prog (runO prog cfg (hand prog cfg lp pc 6 tbl 5) pc 6) 16 [(.c (.int .i64 a0)), (.c (.int .i64 a1)), (.c (.int .i64 a2))]) = ref1_In_B pc lp a0 a1 a2 := by kernel_rfl
theorem ref1_In_ap (E : AppE prog pcN pc lN lp) (a0 : Int) (a1 : Int) (a2 : Int) : Approx (fun N => ref1_In_B (pcN N) (lN N) a0 a1 a2) (ref1_In_B pc lp a0 a1 a2) := by
  delta ref1_In_B
  exact (Approx.ifd (Approx.ifd (Approx.const _) (Approx.const _)) (Approx.ifd Approx.none (Approx.const _)))
theorem ref1_In_of {a0 : Int} {a1 : Int} {a2 : Int} {y : Bool} (h : ref1_In_B (pcL prog cfg) lpL a0 a1 a2 = some y) : ref1_In_c (pcL prog cfg) a0 a1 a2 = some y := fn_of rfl (ref1_In_eq a0 a1 a2) (ref1_In_ap (appN prog cfg) a0 a1 a2) h

-- slices_Chunk_byte_byte_1, loop 6
abbrev base64_Plain_L1_D := ((Unit × (Unit × (Unit × (Int × Unit)))) × (((List Int) × Unit) × (((List Int) × Unit) × ((Int × Unit) × ((Unit × Unit) × Unit)))))
abbrev base64_Plain_L1_X := (Unit × (((List Int) × Unit) × (((List Int) × Unit) × ((Int × Unit) × ((Unit × Unit) × Unit)))))
noncomputable def base64_Plain_L1_R (pc : PC prog) (lp : LP) (ψ : base64_Plain_L1_D → Option base64_Plain_L1_X) (d : base64_Plain_L1_D) : Option base64_Plain_L1_X :=
  ifd ((decide (d.1.2.2.2.1 < (((List.length d.2.2.1.1) : Nat) : Int))) = true) (
    ifd ((decide (((0 : Int) ≤ d.1.2.2.2.1) ∧ ((d.1.2.2.2.1 ≤ (((List.length d.2.2.1.1) : Nat) : Int)) ∧ ((((List.length d.2.2.1.1) : Nat) : Int) ≤ (((List.length d.2.2.1.1) : Nat) : Int))))) = true) (
      ifd ((decide (((0 : Int) ≤ d.1.2.2.2.1) ∧ ((d.1.2.2.2.1 ≤ (Go.IntKind.wrap .i64 (d.1.2.2.2.1 + (min d.2.2.2.1.1 (((List.length (List.drop (Int.toNat d.1.2.2.2.1) (List.take (Int.toNat (((List.length d.2.2.1.1) : Nat) : Int)) d.2.2.1.1))) : Nat) : Int))))) ∧ (((Go.IntKind.wrap .i64 (d.1.2.2.2.1 + (min d.2.2.2.1.1 (((List.length (List.drop (Int.toNat d.1.2.2.2.1) (List.take (Int.toNat (((List.length d.2.2.1.1) : Nat) : Int)) d.2.2.1.1))) : Nat) : Int)))) ≤ (Go.IntKind.wrap .i64 (d.1.2.2.2.1 + (min d.2.2.2.1.1 (((List.length (List.drop (Int.toNat d.1.2.2.2.1) (List.take (Int.toNat (((List.length d.2.2.1.1) : Nat) : Int)) d.2.2.1.1))) : Nat) : Int))))) ∧ ((Go.IntKind.wrap .i64 (d.1.2.2.2.1 + (min d.2.2.2.1.1 (((List.length (List.drop (Int.toNat d.1.2.2.2.1) (List.take (Int.toNat (((List.length d.2.2.1.1) : Nat) : Int)) d.2.2.1.1))) : Nat) : Int)))) ≤ (((List.length d.2.2.1.1) : Nat) : Int)))))) = true) (
        bnd (bnd (base64_Group_c pc (List.drop (Int.toNat d.1.2.2.2.1) (List.take (Int.toNat (Go.IntKind.wrap .i64 (d.1.2.2.2.1 + (min d.2.2.2.1.1 (((List.length (List.drop (Int.toNat d.1.2.2.2.1) (List.take (Int.toNat (((List.length d.2.2.1.1) : Nat) : Int)) d.2.2.1.1))) : Nat) : Int))))) d.2.2.1.1))) fun (x6 : (List Int)) =>
        some x6) fun (x7 : (List Int)) =>
        ifd ((decide ((((List.length d.2.1.1) + (List.length x7)) * 1) ≤ 140737488355328)) = true) (
          ψ (((), (), (), (Go.IntKind.wrap .i64 (d.1.2.2.2.1 + d.2.2.2.1.1)), ()), (((d.2.1.1 ++ x7), ()), (d.2.2.1.1, ()), (d.2.2.2.1.1, ()), ((), ()), ()))) (
          none)) (
        none)) (
      none)) (
    some ((), ((d.2.1.1, ()), (d.2.2.1.1, ()), (d.2.2.2.1.1, ()), ((), ()), ())))
noncomputable def base64_Plain_L1 (pc : PC prog) (lp : LP) (d : base64_Plain_L1_D) : Option base64_Plain_L1_X := lp base64_Plain_L1_D base64_Plain_L1_X (base64_Plain_L1_R pc lp) d
theorem base64_Plain_L1_ap (E : AppE prog pcN pc lN lp) : ContR (fun N => base64_Plain_L1_R (pcN N) (lN N)) (base64_Plain_L1_R pc lp) := fun ψN ψ h d => by
  delta base64_Plain_L1_R
  exact (Approx.ifd (Approx.ifd (Approx.ifd (Approx.bnd (Approx.bnd (base64_Group_ca E) fun x6 => (Approx.const _)) fun x7 => (Approx.ifd (h _) Approx.none)) Approx.none) Approx.none) (Approx.const _))
theorem base64_Plain_L1_a (E : AppE prog pcN pc lN lp) {d : base64_Plain_L1_D} : Approx (fun N => base64_Plain_L1 (pcN N) (lN N) d) (base64_Plain_L1 pc lp d) := E.loop (base64_Plain_L1_ap E) d
theorem base64_Plain_L1_of {d : base64_Plain_L1_D} {x : base64_Plain_L1_X} (h : base64_Plain_L1_R (pcL prog cfg) lpL (base64_Plain_L1 (pcL prog cfg) lpL) d = some x) : base64_Plain_L1 (pcL prog cfg) lpL d = some x := lpL_step (base64_Plain_L1_ap (appL prog cfg)) h

noncomputable def base64_Plain_B (pc : PC prog) (lp : LP) (a0 : List Int) : Option (List Int) :=
  bnd (base64_Plain_L1 pc lp (((), (), (), 0, ()), ((([] : List Int), ()), (a0, ()), (3, ()), ((), ()), ()))) (fun (y8 : (Unit × (((List Int) × Unit) × (((List Int) × Unit) × ((Int × Unit) × ((Unit × Unit) × Unit)))))) =>
  some y8.2.1.1)
theorem base64_Plain_eq (a0 : List Int) (pc : PC prog) (lp : LP) : got base64_Plain_t (pcall prog (runO prog cfg (hand prog cfg lp pc 6 tbl 5) pc 6) 18 [(.c (.slice .ro (.int .u8) a0))]) = base64_Plain_B pc lp a0 := by kernel_rfl
theorem base64_Plain_ap (E : AppE prog pcN pc lN lp) (a0 : List Int) : Approx (fun N => base64_Plain_B (pcN N) (lN N) a0) (base64_Plain_B pc lp a0) := by
  delta base64_Plain_B
  exact (Approx.bnd (base64_Plain_L1_a E) (fun y8 => (Approx.const _)))
theorem base64_Plain_of {a0 : List Int} {y : (List Int)} (h : base64_Plain_B (pcL prog cfg) lpL a0 = some y) : base64_Plain_c (pcL prog cfg) a0 = some y := fn_of rfl (base64_Plain_eq a0) (base64_Plain_ap (appN prog cfg) a0) h

-- ref1_Chars64, loop 28
abbrev ref1_Chars64_L1_D := (((List Int) × Unit) × Unit)
abbrev ref1_Chars64_L1_X := (((List Int) × Unit) × Unit)
noncomputable def ref1_Chars64_L1_R (pc : PC prog) (lp : LP) (ψ : ref1_Chars64_L1_D → Option ref1_Chars64_L1_X) (d : ref1_Chars64_L1_D) : Option ref1_Chars64_L1_X :=
  ifd (((Int.tmod (((List.length d.1.1) : Nat) : Int) 6) != 0) = true) (
    ifd ((decide ((((List.length d.1.1) + (List.length ([0] : List Int))) * 8) ≤ 140737488355328)) = true) (
      ψ (((d.1.1 ++ ([0] : List Int)), ()), ())) (
      none)) (
    some ((d.1.1, ()), ()))
noncomputable def ref1_Chars64_L1 (pc : PC prog) (lp : LP) (d : ref1_Chars64_L1_D) : Option ref1_Chars64_L1_X := lp ref1_Chars64_L1_D ref1_Chars64_L1_X (ref1_Chars64_L1_R pc lp) d
theorem ref1_Chars64_L1_ap (E : AppE prog pcN pc lN lp) : ContR (fun N => ref1_Chars64_L1_R (pcN N) (lN N)) (ref1_Chars64_L1_R pc lp) := fun ψN ψ h d => by
  delta ref1_Chars64_L1_R
  exact (Approx.ifd (Approx.ifd (h _) Approx.none) (Approx.const _))
theorem ref1_Chars64_L1_a (E : AppE prog pcN pc lN lp) {d : ref1_Chars64_L1_D} : Approx (fun N => ref1_Chars64_L1 (pcN N) (lN N) d) (ref1_Chars64_L1 pc lp d) := E.loop (ref1_Chars64_L1_ap E) d
theorem ref1_Chars64_L1_of {d : ref1_Chars64_L1_D} {x : ref1_Chars64_L1_X} (h : ref1_Chars64_L1_R (pcL prog cfg) lpL (ref1_Chars64_L1 (pcL prog cfg) lpL) d = some x) : ref1_Chars64_L1 (pcL prog cfg) lpL d = some x := lpL_step (ref1_Chars64_L1_ap (appL prog cfg)) h

-- ref1_Chars64, loop 250
abbrev ref1_Chars64_L2_D := (((List Int) × ((List Int) × (Int × Unit))) × Unit)
abbrev ref1_Chars64_L2_X := (((List Int) × Unit) × Unit)
noncomputable def ref1_Chars64_L2_R (pc : PC prog) (lp : LP) (ψ : ref1_Chars64_L2_D → Option ref1_Chars64_L2_X) (d : ref1_Chars64_L2_D) : Option ref1_Chars64_L2_X :=
  ifd ((decide (d.1.2.2.1 < (((List.length d.1.1) : Nat) : Int))) = true) (
    ifd ((decide (((0 : Int) ≤ d.1.2.2.1) ∧ ((d.1.2.2.1 ≤ (Go.IntKind.wrap .i64 (d.1.2.2.1 + 6))) ∧ ((Go.IntKind.wrap .i64 (d.1.2.2.1 + 6)) ≤ (((List.length d.1.1) : Nat) : Int))))) = true) (
      bnd (bnd (ref1_sum_c pc (List.drop (Int.toNat d.1.2.2.1) (List.take (Int.toNat (Go.IntKind.wrap .i64 (d.1.2.2.1 + 6))) d.1.1))) fun (x5 : Int) =>
      some x5) fun (x6 : Int) =>
      ifd ((decide (((0 : Int) ≤ x6) ∧ ((x6 ≤ (Go.IntKind.wrap .i64 (x6 + 1))) ∧ ((Go.IntKind.wrap .i64 (x6 + 1)) ≤ (((List.length ([65, 66, 67, 68, 69, 70, 71, 72, 73, 74, 75, 76, 77, 78, 79, 80, 81, 82, 83, 84, 85, 86, 87, 88, 89, 90, 97, 98, 99, 100, 101, 102, 103, 104, 105, 106, 107, 108, 109, 110, 111, 112, 113, 114, 115, 116, 117, 118, 119, 120, 121, 122, 48, 49, 50, 51, 52, 53, 54, 55, 56, 57, 43, 47] : List Int)) : Nat) : Int))))) = true) (
        ifd ((decide (((List.length d.1.2.1) + (List.length (List.drop (Int.toNat x6) (List.take (Int.toNat (Go.IntKind.wrap .i64 (x6 + 1))) ([65, 66, 67, 68, 69, 70, 71, 72, 73, 74, 75, 76, 77, 78, 79, 80, 81, 82, 83, 84, 85, 86, 87, 88, 89, 90, 97, 98, 99, 100, 101, 102, 103, 104, 105, 106, 107, 108, 109, 110, 111, 112, 113, 114, 115, 116, 117, 118, 119, 120, 121, 122, 48, 49, 50, 51, 52, 53, 54, 55, 56, 57, 43, 47] : List Int))))) ≤ 9223372036854775807)) = true) (
          ψ ((d.1.1, (d.1.2.1 ++ (List.drop (Int.toNat x6) (List.take (Int.toNat (Go.IntKind.wrap .i64 (x6 + 1))) ([65, 66, 67, 68, 69, 70, 71, 72, 73, 74, 75, 76, 77, 78, 79, 80, 81, 82, 83, 84, 85, 86, 87, 88, 89, 90, 97, 98, 99, 100, 101, 102, 103, 104, 105, 106, 107, 108, 109, 110, 111, 112, 113, 114, 115, 116, 117, 118, 119, 120, 121, 122, 48, 49, 50, 51, 52, 53, 54, 55, 56, 57, 43, 47] : List Int)))), (Go.IntKind.wrap .i64 (d.1.2.2.1 + 6)), ()), ())) (
          none)) (
        none)) (
      none)) (
    some ((d.1.2.1, ()), ()))
noncomputable def ref1_Chars64_L2 (pc : PC prog) (lp : LP) (d : ref1_Chars64_L2_D) : Option ref1_Chars64_L2_X := lp ref1_Chars64_L2_D ref1_Chars64_L2_X (ref1_Chars64_L2_R pc lp) d
theorem ref1_Chars64_L2_ap (E : AppE prog pcN pc lN lp) : ContR (fun N => ref1_Chars64_L2_R (pcN N) (lN N)) (ref1_Chars64_L2_R pc lp) := fun ψN ψ h d => by
  delta ref1_Chars64_L2_R
  exact (Approx.ifd (Approx.ifd (Approx.bnd (Approx.bnd (ref1_sum_ca E) fun x5 => (Approx.const _)) fun x6 => (Approx.ifd (Approx.ifd (h _) Approx.none) Approx.none)) Approx.none) (Approx.const _))
theorem ref1_Chars64_L2_a (E : AppE prog pcN pc lN lp) {d : ref1_Chars64_L2_D} : Approx (fun N => ref1_Chars64_L2 (pcN N) (lN N) d) (ref1_Chars64_L2 pc lp d) := E.loop (ref1_Chars64_L2_ap E) d
theorem ref1_Chars64_L2_of {d : ref1_Chars64_L2_D} {x : ref1_Chars64_L2_X} (h : ref1_Chars64_L2_R (pcL prog cfg) lpL (ref1_Chars64_L2 (pcL prog cfg) lpL) d = some x) : ref1_Chars64_L2 (pcL prog cfg) lpL d = some x := lpL_step (ref1_Chars64_L2_ap (appL prog cfg)) h

-- ref1_Chars64, loop 252
abbrev ref1_Chars64_L3_D := (((List Int) × Unit) × Unit)
abbrev ref1_Chars64_L3_X := (((List Int) × Unit) × Unit)
noncomputable def ref1_Chars64_L3_R (pc : PC prog) (lp : LP) (ψ : ref1_Chars64_L3_D → Option ref1_Chars64_L3_X) (d : ref1_Chars64_L3_D) : Option ref1_Chars64_L3_X :=
  ifd (((Int.tmod (((List.length d.1.1) : Nat) : Int) 4) != 0) = true) (
    ifd ((decide (((List.length d.1.1) + (List.length ([61] : List Int))) ≤ 9223372036854775807)) = true) (
      ψ (((d.1.1 ++ ([61] : List Int)), ()), ())) (
      none)) (
    some ((d.1.1, ()), ()))
noncomputable def ref1_Chars64_L3 (pc : PC prog) (lp : LP) (d : ref1_Chars64_L3_D) : Option ref1_Chars64_L3_X := lp ref1_Chars64_L3_D ref1_Chars64_L3_X (ref1_Chars64_L3_R pc lp) d
theorem ref1_Chars64_L3_ap (E : AppE prog pcN pc lN lp) : ContR (fun N => ref1_Chars64_L3_R (pcN N) (lN N)) (ref1_Chars64_L3_R pc lp) := fun ψN ψ h d => by
  delta ref1_Chars64_L3_R
  exact (Approx.ifd (Approx.ifd (h _) Approx.none) (Approx.const _))
theorem ref1_Chars64_L3_a (E : AppE prog pcN pc lN lp) {d : ref1_Chars64_L3_D} : Approx (fun N => ref1_Chars64_L3 (pcN N) (lN N) d) (ref1_Chars64_L3 pc lp d) := E.loop (ref1_Chars64_L3_ap E) d
theorem ref1_Chars64_L3_of {d : ref1_Chars64_L3_D} {x : ref1_Chars64_L3_X} (h : ref1_Chars64_L3_R (pcL prog cfg) lpL (ref1_Chars64_L3 (pcL prog cfg) lpL) d = some x) : ref1_Chars64_L3 (pcL prog cfg) lpL d = some x := lpL_step (ref1_Chars64_L3_ap (appL prog cfg)) h

noncomputable def ref1_Chars64_B (pc : PC prog) (lp : LP) (a0 : List Int) : Option (List Int) :=
  bnd (bnd (ref1_Bits_c pc a0) fun (x0 : (List Int)) =>
  some x0) fun (x1 : (List Int)) =>
  bnd (ref1_Chars64_L1 pc lp ((x1, ()), ())) (fun (y2 : (((List Int) × Unit) × Unit)) =>
  bnd (ref1_Chars64_L2 pc lp ((y2.1.1, ([] : List Int), 0, ()), ())) (fun (y7 : (((List Int) × Unit) × Unit)) =>
  bnd (ref1_Chars64_L3 pc lp ((y7.1.1, ()), ())) (fun (y8 : (((List Int) × Unit) × Unit)) =>
  some y8.1.1)))
theorem ref1_Chars64_eq (a0 : List Int) (pc : PC prog) (lp : LP) : got ref1_Chars64_t (pcall prog (runO prog cfg (hand prog cfg lp pc 6 tbl 5) pc 6) 19 [(.c (.slice .ro (.int .u8) a0))]) = ref1_Chars64_B pc lp a0 := by kernel_rfl
theorem ref1_Chars64_ap (E : AppE prog pcN pc lN lp) (a0 : List Int) : Approx (fun N => ref1_Chars64_B (pcN N) (lN N) a0) (ref1_Chars64_B pc lp a0) := by
  delta ref1_Chars64_B
  exact (Approx.bnd (Approx.bnd (ref1_Bits_ca E) fun x0 => (Approx.const _)) fun x1 => (Approx.bnd (ref1_Chars64_L1_a E) (fun y2 => (Approx.bnd (ref1_Chars64_L2_a E) (fun y7 => (Approx.bnd (ref1_Chars64_L3_a E) (fun y8 => (Approx.const _))))))))
theorem ref1_Chars64_of {a0 : List Int} {y : (List Int)} (h : ref1_Chars64_B (pcL prog cfg) lpL a0 = some y) : ref1_Chars64_c (pcL prog cfg) a0 = some y := fn_of rfl (ref1_Chars64_eq a0) (ref1_Chars64_ap (appN prog cfg) a0) h

-- base64_Loose, loop 122
abbrev base64_Loose_L1_D := (((List Int) × (Int × (Int × ((List Int) × (Int × (Int × Unit)))))) × Unit)
abbrev base64_Loose_L1_X := ((((List Int) × Unit) × Unit) ⊕ (((List Int) × Unit) × Unit))
noncomputable def base64_Loose_L1_R (pc : PC prog) (lp : LP) (ψ : base64_Loose_L1_D → Option base64_Loose_L1_X) (d : base64_Loose_L1_D) : Option base64_Loose_L1_X :=
  ifd ((decide (d.1.2.2.2.2.2.1 < d.1.2.2.2.2.1)) = true) (
    ifd ((decide (((0 : Int) ≤ d.1.2.2.2.2.2.1) ∧ (d.1.2.2.2.2.2.1 < (((List.length d.1.2.2.2.1) : Nat) : Int)))) = true) (
      bnd (bnd (base64_value_c pc (List.getD d.1.2.2.2.1 (Int.toNat d.1.2.2.2.2.2.1) 0)) fun (x6 : Int) =>
      some x6) fun (x7 : Int) =>
      ifd (((List.getD d.1.2.2.2.1 (Int.toNat d.1.2.2.2.2.2.1) 0) == 61) = true) (
        some (Sum.inl ((d.1.1, ()), ()))) (
        ifd ((decide (x7 < 0)) = true) (
          ψ ((d.1.1, d.1.2.1, d.1.2.2.1, d.1.2.2.2.1, d.1.2.2.2.2.1, (Go.IntKind.wrap .i64 (d.1.2.2.2.2.2.1 + 1)), ()), ())) (
          ifd ((decide ((Go.IntKind.wrap .i64 (d.1.2.2.1 + 6)) ≥ 8)) = true) (
            ifd ((decide ((0 : Int) ≤ (Go.IntKind.wrap .i64 ((Go.IntKind.wrap .i64 (d.1.2.2.1 + 6)) - 8)))) = true) (
              ifd ((decide ((((List.length d.1.1) + (List.length ([(Go.IntKind.wrap .u8 (Int.fdiv (ibits .and .i64 (ibits .or .i64 (Go.IntKind.wrap .i64 (d.1.2.1 * ((2 : Int) ^ (min (Int.toNat 6) 64)))) x7) 4095) ((2 : Int) ^ (min (Int.toNat (Go.IntKind.wrap .i64 ((Go.IntKind.wrap .i64 (d.1.2.2.1 + 6)) - 8))) 64))))] : List Int))) * 1) ≤ 140737488355328)) = true) (
                ψ (((d.1.1 ++ ([(Go.IntKind.wrap .u8 (Int.fdiv (ibits .and .i64 (ibits .or .i64 (Go.IntKind.wrap .i64 (d.1.2.1 * ((2 : Int) ^ (min (Int.toNat 6) 64)))) x7) 4095) ((2 : Int) ^ (min (Int.toNat (Go.IntKind.wrap .i64 ((Go.IntKind.wrap .i64 (d.1.2.2.1 + 6)) - 8))) 64))))] : List Int)), (ibits .and .i64 (ibits .or .i64 (Go.IntKind.wrap .i64 (d.1.2.1 * ((2 : Int) ^ (min (Int.toNat 6) 64)))) x7) 4095), (Go.IntKind.wrap .i64 ((Go.IntKind.wrap .i64 (d.1.2.2.1 + 6)) - 8)), d.1.2.2.2.1, d.1.2.2.2.2.1, (Go.IntKind.wrap .i64 (d.1.2.2.2.2.2.1 + 1)), ()), ())) (
                none)) (
              none)) (
            ψ ((d.1.1, (ibits .and .i64 (ibits .or .i64 (Go.IntKind.wrap .i64 (d.1.2.1 * ((2 : Int) ^ (min (Int.toNat 6) 64)))) x7) 4095), (Go.IntKind.wrap .i64 (d.1.2.2.1 + 6)), d.1.2.2.2.1, d.1.2.2.2.2.1, (Go.IntKind.wrap .i64 (d.1.2.2.2.2.2.1 + 1)), ()), ()))))) (
      none)) (
    some (Sum.inr ((d.1.1, ()), ())))
noncomputable def base64_Loose_L1 (pc : PC prog) (lp : LP) (d : base64_Loose_L1_D) : Option base64_Loose_L1_X := lp base64_Loose_L1_D base64_Loose_L1_X (base64_Loose_L1_R pc lp) d
theorem base64_Loose_L1_ap (E : AppE prog pcN pc lN lp) : ContR (fun N => base64_Loose_L1_R (pcN N) (lN N)) (base64_Loose_L1_R pc lp) := fun ψN ψ h d => by
  delta base64_Loose_L1_R
  exact (Approx.ifd (Approx.ifd (Approx.bnd (Approx.bnd (base64_value_ca E) fun x6 => (Approx.const _)) fun x7 => (Approx.ifd (Approx.const _) (Approx.ifd (h _) (Approx.ifd (Approx.ifd (Approx.ifd (h _) Approx.none) Approx.none) (h _))))) Approx.none) (Approx.const _))
theorem base64_Loose_L1_a (E : AppE prog pcN pc lN lp) {d : base64_Loose_L1_D} : Approx (fun N => base64_Loose_L1 (pcN N) (lN N) d) (base64_Loose_L1 pc lp d) := E.loop (base64_Loose_L1_ap E) d
theorem base64_Loose_L1_of {d : base64_Loose_L1_D} {x : base64_Loose_L1_X} (h : base64_Loose_L1_R (pcL prog cfg) lpL (base64_Loose_L1 (pcL prog cfg) lpL) d = some x) : base64_Loose_L1 (pcL prog cfg) lpL d = some x := lpL_step (base64_Loose_L1_ap (appL prog cfg)) h

noncomputable def base64_Loose_B (pc : PC prog) (lp : LP) (a0 : List Int) : Option (List Int) :=
  bnd (base64_Loose_L1 pc lp ((([] : List Int), 0, 0, a0, (((List.length a0) : Nat) : Int), 0, ()), ())) (Sum.elim (fun (y8 : (((List Int) × Unit) × Unit)) =>
  some y8.1.1) (fun (y9 : (((List Int) × Unit) × Unit)) =>
  some y9.1.1))
theorem base64_Loose_eq (a0 : List Int) (pc : PC prog) (lp : LP) : got base64_Loose_t (pcall prog (runO prog cfg (hand prog cfg lp pc 6 tbl 5) pc 6) 20 [(.c (.slice .ro (.int .u8) a0))]) = base64_Loose_B pc lp a0 := by kernel_rfl
theorem base64_Loose_ap (E : AppE prog pcN pc lN lp) (a0 : List Int) : Approx (fun N => base64_Loose_B (pcN N) (lN N) a0) (base64_Loose_B pc lp a0) := by
  delta base64_Loose_B
  exact (Approx.bnd (base64_Loose_L1_a E) (Approx.sum (fun y8 => (Approx.const _)) (fun y9 => (Approx.const _))))
theorem base64_Loose_of {a0 : List Int} {y : (List Int)} (h : base64_Loose_B (pcL prog cfg) lpL a0 = some y) : base64_Loose_c (pcL prog cfg) a0 = some y := fn_of rfl (base64_Loose_eq a0) (base64_Loose_ap (appN prog cfg) a0) h

-- ref1_value64, loop 26
abbrev ref1_value64_L1_D := ((Int × (Int × Unit)) × Unit)
abbrev ref1_value64_L1_X := (((Int × Unit) × Unit) ⊕ (Unit × Unit))
noncomputable def ref1_value64_L1_R (pc : PC prog) (lp : LP) (ψ : ref1_value64_L1_D → Option ref1_value64_L1_X) (d : ref1_value64_L1_D) : Option ref1_value64_L1_X :=
  ifd ((decide (d.1.2.1 < 64)) = true) (
    ifd ((decide (((0 : Int) ≤ d.1.2.1) ∧ (d.1.2.1 < (((List.length ([65, 66, 67, 68, 69, 70, 71, 72, 73, 74, 75, 76, 77, 78, 79, 80, 81, 82, 83, 84, 85, 86, 87, 88, 89, 90, 97, 98, 99, 100, 101, 102, 103, 104, 105, 106, 107, 108, 109, 110, 111, 112, 113, 114, 115, 116, 117, 118, 119, 120, 121, 122, 48, 49, 50, 51, 52, 53, 54, 55, 56, 57, 43, 47] : List Int)) : Nat) : Int)))) = true) (
      ifd (((List.getD ([65, 66, 67, 68, 69, 70, 71, 72, 73, 74, 75, 76, 77, 78, 79, 80, 81, 82, 83, 84, 85, 86, 87, 88, 89, 90, 97, 98, 99, 100, 101, 102, 103, 104, 105, 106, 107, 108, 109, 110, 111, 112, 113, 114, 115, 116, 117, 118, 119, 120, 121, 122, 48, 49, 50, 51, 52, 53, 54, 55, 56, 57, 43, 47] : List Int) (Int.toNat d.1.2.1) 0) == d.1.1) = true) (
        some (Sum.inl ((d.1.2.1, ()), ()))) (
        ψ ((d.1.1, (Go.IntKind.wrap .i64 (d.1.2.1 + 1)), ()), ()))) (
      none)) (
    some (Sum.inr ((), ())))
noncomputable def ref1_value64_L1 (pc : PC prog) (lp : LP) (d : ref1_value64_L1_D) : Option ref1_value64_L1_X := lp ref1_value64_L1_D ref1_value64_L1_X (ref1_value64_L1_R pc lp) d
theorem ref1_value64_L1_ap (E : AppE prog pcN pc lN lp) : ContR (fun N => ref1_value64_L1_R (pcN N) (lN N)) (ref1_value64_L1_R pc lp) := fun ψN ψ h d => by
  delta ref1_value64_L1_R
  exact (Approx.ifd (Approx.ifd (Approx.ifd (Approx.const _) (h _)) Approx.none) (Approx.const _))
theorem ref1_value64_L1_a (E : AppE prog pcN pc lN lp) {d : ref1_value64_L1_D} : Approx (fun N => ref1_value64_L1 (pcN N) (lN N) d) (ref1_value64_L1 pc lp d) := E.loop (ref1_value64_L1_ap E) d
theorem ref1_value64_L1_of {d : ref1_value64_L1_D} {x : ref1_value64_L1_X} (h : ref1_value64_L1_R (pcL prog cfg) lpL (ref1_value64_L1 (pcL prog cfg) lpL) d = some x) : ref1_value64_L1 (pcL prog cfg) lpL d = some x := lpL_step (ref1_value64_L1_ap (appL prog cfg)) h

noncomputable def ref1_value64_B (pc : PC prog) (lp : LP) (a0 : Int) : Option Int :=
  bnd (ref1_value64_L1 pc lp ((a0, 0, ()), ())) (Sum.elim (fun (y0 : ((Int × Unit) × Unit)) =>
  some y0.1.1) (fun (y1 : (Unit × Unit)) =>
  some (-1)))
theorem ref1_value64_eq (a0 : Int) (pc : PC prog) (lp : LP) : got ref1_value64_t (pcall prog (runO prog cfg (hand prog cfg lp pc 6 tbl 5) pc 6) 21 [(.c (.int .u8 a0))]) = ref1_value64_B pc lp a0 := by kernel_rfl
theorem ref1_value64_ap (E : AppE prog pcN pc lN lp) (a0 : Int) : Approx (fun N => ref1_value64_B (pcN N) (lN N) a0) (ref1_value64_B pc lp a0) := by
  delta ref1_value64_B
  exact (Approx.bnd (ref1_value64_L1_a E) (Approx.sum (fun y0 => (Approx.const _)) (fun y1 => (Approx.const _))))
theorem ref1_value64_of {a0 : Int} {y : Int} (h : ref1_value64_B (pcL prog cfg) lpL a0 = some y) : ref1_value64_c (pcL prog cfg) a0 = some y := fn_of rfl (ref1_value64_eq a0) (ref1_value64_ap (appN prog cfg) a0) h

-- ref1_sum, loop 58
abbrev ref1_sum_L1_D := (((List Int) × (Int × (Int × Unit))) × Unit)
abbrev ref1_sum_L1_X := ((Int × Unit) × Unit)
noncomputable def ref1_sum_L1_R (pc : PC prog) (lp : LP) (ψ : ref1_sum_L1_D → Option ref1_sum_L1_X) (d : ref1_sum_L1_D) : Option ref1_sum_L1_X :=
  ifd ((decide (d.1.2.2.1 < (((List.length d.1.1) : Nat) : Int))) = true) (
    ifd ((decide (((0 : Int) ≤ d.1.2.2.1) ∧ (d.1.2.2.1 < (((List.length d.1.1) : Nat) : Int)))) = true) (
      ψ ((d.1.1, (Go.IntKind.wrap .i64 ((Go.IntKind.wrap .i64 (2 * d.1.2.1)) + (List.getD d.1.1 (Int.toNat d.1.2.2.1) 0))), (Go.IntKind.wrap .i64 (d.1.2.2.1 + 1)), ()), ())) (
      none)) (
    some ((d.1.2.1, ()), ()))
noncomputable def ref1_sum_L1 (pc : PC prog) (lp : LP) (d : ref1_sum_L1_D) : Option ref1_sum_L1_X := lp ref1_sum_L1_D ref1_sum_L1_X (ref1_sum_L1_R pc lp) d
theorem ref1_sum_L1_ap (E : AppE prog pcN pc lN lp) : ContR (fun N => ref1_sum_L1_R (pcN N) (lN N)) (ref1_sum_L1_R pc lp) := fun ψN ψ h d => by
  delta ref1_sum_L1_R
  exact (Approx.ifd (Approx.ifd (h _) Approx.none) (Approx.const _))
theorem ref1_sum_L1_a (E : AppE prog pcN pc lN lp) {d : ref1_sum_L1_D} : Approx (fun N => ref1_sum_L1 (pcN N) (lN N) d) (ref1_sum_L1 pc lp d) := E.loop (ref1_sum_L1_ap E) d
theorem ref1_sum_L1_of {d : ref1_sum_L1_D} {x : ref1_sum_L1_X} (h : ref1_sum_L1_R (pcL prog cfg) lpL (ref1_sum_L1 (pcL prog cfg) lpL) d = some x) : ref1_sum_L1 (pcL prog cfg) lpL d = some x := lpL_step (ref1_sum_L1_ap (appL prog cfg)) h

noncomputable def ref1_sum_B (pc : PC prog) (lp : LP) (a0 : List Int) : Option Int :=
  bnd (ref1_sum_L1 pc lp ((a0, 0, 0, ()), ())) (fun (y0 : ((Int × Unit) × Unit)) =>
  some y0.1.1)
theorem ref1_sum_eq (a0 : List Int) (pc : PC prog) (lp : LP) : got ref1_sum_t (pcall prog (runO prog cfg (hand prog cfg lp pc 6 tbl 5) pc 6) 22 [(.c (.slice .ro (.int .i64) a0))]) = ref1_sum_B pc lp a0 := by kernel_rfl
theorem ref1_sum_ap (E : AppE prog pcN pc lN lp) (a0 : List Int) : Approx (fun N => ref1_sum_B (pcN N) (lN N) a0) (ref1_sum_B pc lp a0) := by
  delta ref1_sum_B
  exact (Approx.bnd (ref1_sum_L1_a E) (fun y0 => (Approx.const _)))
theorem ref1_sum_of {a0 : List Int} {y : Int} (h : ref1_sum_B (pcL prog cfg) lpL a0 = some y) : ref1_sum_c (pcL prog cfg) a0 = some y := fn_of rfl (ref1_sum_eq a0) (ref1_sum_ap (appN prog cfg) a0) h

noncomputable def bytes_Equal_B (pc : PC prog) (lp : LP) (a0 : List Int) (a1 : List Int) : Option Bool :=
  some (a0 == a1)
theorem bytes_Equal_eq (a0 : List Int) (a1 : List Int) (pc : PC prog) (lp : LP) : got bytes_Equal_t (pcall prog (runO prog cfg (hand prog cfg lp pc 6 tbl 5) pc 6) 23 [(.c (.slice .ro (.int .u8) a0)), (.c (.slice .ro (.int .u8) a1))]) = bytes_Equal_B pc lp a0 a1 := by kernel_rfl
theorem bytes_Equal_ap (E : AppE prog pcN pc lN lp) (a0 : List Int) (a1 : List Int) : Approx (fun N => bytes_Equal_B (pcN N) (lN N) a0 a1) (bytes_Equal_B pc lp a0 a1) := by
  delta bytes_Equal_B
  exact (Approx.const _)
theorem bytes_Equal_of {a0 : List Int} {a1 : List Int} {y : Bool} (h : bytes_Equal_B (pcL prog cfg) lpL a0 a1 = some y) : bytes_Equal_c (pcL prog cfg) a0 a1 = some y := fn_of rfl (bytes_Equal_eq a0 a1) (bytes_Equal_ap (appN prog cfg) a0 a1) h

-- base64_Group, loop 58
abbrev base64_Group_L1_D := (((List Int) × (Int × (Int × Unit))) × Unit)
abbrev base64_Group_L1_X := (((List Int) × (Int × Unit)) × Unit)
noncomputable def base64_Group_L1_R (pc : PC prog) (lp : LP) (ψ : base64_Group_L1_D → Option base64_Group_L1_X) (d : base64_Group_L1_D) : Option base64_Group_L1_X :=
  ifd ((decide (d.1.2.2.1 < 3)) = true) (
    ifd ((decide (d.1.2.2.1 < (((List.length d.1.1) : Nat) : Int))) = true) (
      ifd ((decide (((0 : Int) ≤ d.1.2.2.1) ∧ (d.1.2.2.1 < (((List.length d.1.1) : Nat) : Int)))) = true) (
        ψ ((d.1.1, (ibits .or .i64 (Go.IntKind.wrap .i64 (d.1.2.1 * ((2 : Int) ^ (min (Int.toNat 8) 64)))) (Go.IntKind.wrap .i64 (List.getD d.1.1 (Int.toNat d.1.2.2.1) 0))), (Go.IntKind.wrap .i64 (d.1.2.2.1 + 1)), ()), ())) (
        none)) (
      ψ ((d.1.1, (Go.IntKind.wrap .i64 (d.1.2.1 * ((2 : Int) ^ (min (Int.toNat 8) 64)))), (Go.IntKind.wrap .i64 (d.1.2.2.1 + 1)), ()), ()))) (
    some ((d.1.1, d.1.2.1, ()), ()))
noncomputable def base64_Group_L1 (pc : PC prog) (lp : LP) (d : base64_Group_L1_D) : Option base64_Group_L1_X := lp base64_Group_L1_D base64_Group_L1_X (base64_Group_L1_R pc lp) d
theorem base64_Group_L1_ap (E : AppE prog pcN pc lN lp) : ContR (fun N => base64_Group_L1_R (pcN N) (lN N)) (base64_Group_L1_R pc lp) := fun ψN ψ h d => by
  delta base64_Group_L1_R
  exact (Approx.ifd (Approx.ifd (Approx.ifd (h _) Approx.none) (h _)) (Approx.const _))
theorem base64_Group_L1_a (E : AppE prog pcN pc lN lp) {d : base64_Group_L1_D} : Approx (fun N => base64_Group_L1 (pcN N) (lN N) d) (base64_Group_L1 pc lp d) := E.loop (base64_Group_L1_ap E) d
theorem base64_Group_L1_of {d : base64_Group_L1_D} {x : base64_Group_L1_X} (h : base64_Group_L1_R (pcL prog cfg) lpL (base64_Group_L1 (pcL prog cfg) lpL) d = some x) : base64_Group_L1 (pcL prog cfg) lpL d = some x := lpL_step (base64_Group_L1_ap (appL prog cfg)) h

-- base64_Group, loop 250
abbrev base64_Group_L2_D := ((Unit × (Int × Unit)) × ((List Int) × Unit))
abbrev base64_Group_L2_X := ((Unit × Unit) × ((List Int) × Unit))
noncomputable def base64_Group_L2_R (pc : PC prog) (lp : LP) (ψ : base64_Group_L2_D → Option base64_Group_L2_X) (d : base64_Group_L2_D) : Option base64_Group_L2_X :=
  ifd ((decide (d.1.2.1 < 4)) = true) (
    ifd ((decide (((0 : Int) ≤ d.1.2.1) ∧ (d.1.2.1 < (((List.length d.2.1) : Nat) : Int)))) = true) (
      ifd ((decide ((Int.toNat d.1.2.1) < (List.length d.2.1))) = true) (
        ψ (((), (Go.IntKind.wrap .i64 (d.1.2.1 + 1)), ()), ((List.set d.2.1 (Int.toNat d.1.2.1) 61), ()))) (
        none)) (
      none)) (
    some (((), ()), (d.2.1, ())))
noncomputable def base64_Group_L2 (pc : PC prog) (lp : LP) (d : base64_Group_L2_D) : Option base64_Group_L2_X := lp base64_Group_L2_D base64_Group_L2_X (base64_Group_L2_R pc lp) d
theorem base64_Group_L2_ap (E : AppE prog pcN pc lN lp) : ContR (fun N => base64_Group_L2_R (pcN N) (lN N)) (base64_Group_L2_R pc lp) := fun ψN ψ h d => by
  delta base64_Group_L2_R
  exact (Approx.ifd (Approx.ifd (Approx.ifd (h _) Approx.none) Approx.none) (Approx.const _))
theorem base64_Group_L2_a (E : AppE prog pcN pc lN lp) {d : base64_Group_L2_D} : Approx (fun N => base64_Group_L2 (pcN N) (lN N) d) (base64_Group_L2 pc lp d) := E.loop (base64_Group_L2_ap E) d
theorem base64_Group_L2_of {d : base64_Group_L2_D} {x : base64_Group_L2_X} (h : base64_Group_L2_R (pcL prog cfg) lpL (base64_Group_L2 (pcL prog cfg) lpL) d = some x) : base64_Group_L2 (pcL prog cfg) lpL d = some x := lpL_step (base64_Group_L2_ap (appL prog cfg)) h

noncomputable def base64_Group_B (pc : PC prog) (lp : LP) (a0 : List Int) : Option (List Int) :=
  bnd (base64_Group_L1 pc lp ((a0, 0, 0, ()), ())) (fun (y0 : (((List Int) × (Int × Unit)) × Unit)) =>
  ifd ((decide (((0 : Int) ≤ (Int.fdiv y0.1.2.1 ((2 : Int) ^ (min (Int.toNat 18) 64)))) ∧ ((Int.fdiv y0.1.2.1 ((2 : Int) ^ (min (Int.toNat 18) 64))) < (((List.length ([65, 66, 67, 68, 69, 70, 71, 72, 73, 74, 75, 76, 77, 78, 79, 80, 81, 82, 83, 84, 85, 86, 87, 88, 89, 90, 97, 98, 99, 100, 101, 102, 103, 104, 105, 106, 107, 108, 109, 110, 111, 112, 113, 114, 115, 116, 117, 118, 119, 120, 121, 122, 48, 49, 50, 51, 52, 53, 54, 55, 56, 57, 43, 47] : List Int)) : Nat) : Int)))) = true) (
    ifd ((decide (((0 : Int) ≤ (ibits .and .i64 (Int.fdiv y0.1.2.1 ((2 : Int) ^ (min (Int.toNat 12) 64))) 63)) ∧ ((ibits .and .i64 (Int.fdiv y0.1.2.1 ((2 : Int) ^ (min (Int.toNat 12) 64))) 63) < (((List.length ([65, 66, 67, 68, 69, 70, 71, 72, 73, 74, 75, 76, 77, 78, 79, 80, 81, 82, 83, 84, 85, 86, 87, 88, 89, 90, 97, 98, 99, 100, 101, 102, 103, 104, 105, 106, 107, 108, 109, 110, 111, 112, 113, 114, 115, 116, 117, 118, 119, 120, 121, 122, 48, 49, 50, 51, 52, 53, 54, 55, 56, 57, 43, 47] : List Int)) : Nat) : Int)))) = true) (
      ifd ((decide (((0 : Int) ≤ (ibits .and .i64 (Int.fdiv y0.1.2.1 ((2 : Int) ^ (min (Int.toNat 6) 64))) 63)) ∧ ((ibits .and .i64 (Int.fdiv y0.1.2.1 ((2 : Int) ^ (min (Int.toNat 6) 64))) 63) < (((List.length ([65, 66, 67, 68, 69, 70, 71, 72, 73, 74, 75, 76, 77, 78, 79, 80, 81, 82, 83, 84, 85, 86, 87, 88, 89, 90, 97, 98, 99, 100, 101, 102, 103, 104, 105, 106, 107, 108, 109, 110, 111, 112, 113, 114, 115, 116, 117, 118, 119, 120, 121, 122, 48, 49, 50, 51, 52, 53, 54, 55, 56, 57, 43, 47] : List Int)) : Nat) : Int)))) = true) (
        ifd ((decide (((0 : Int) ≤ (ibits .and .i64 y0.1.2.1 63)) ∧ ((ibits .and .i64 y0.1.2.1 63) < (((List.length ([65, 66, 67, 68, 69, 70, 71, 72, 73, 74, 75, 76, 77, 78, 79, 80, 81, 82, 83, 84, 85, 86, 87, 88, 89, 90, 97, 98, 99, 100, 101, 102, 103, 104, 105, 106, 107, 108, 109, 110, 111, 112, 113, 114, 115, 116, 117, 118, 119, 120, 121, 122, 48, 49, 50, 51, 52, 53, 54, 55, 56, 57, 43, 47] : List Int)) : Nat) : Int)))) = true) (
          bnd (base64_Group_L2 pc lp (((), (Go.IntKind.wrap .i64 ((((List.length y0.1.1) : Nat) : Int) + 1)), ()), (([(List.getD ([65, 66, 67, 68, 69, 70, 71, 72, 73, 74, 75, 76, 77, 78, 79, 80, 81, 82, 83, 84, 85, 86, 87, 88, 89, 90, 97, 98, 99, 100, 101, 102, 103, 104, 105, 106, 107, 108, 109, 110, 111, 112, 113, 114, 115, 116, 117, 118, 119, 120, 121, 122, 48, 49, 50, 51, 52, 53, 54, 55, 56, 57, 43, 47] : List Int) (Int.toNat (Int.fdiv y0.1.2.1 ((2 : Int) ^ (min (Int.toNat 18) 64)))) 0), (List.getD ([65, 66, 67, 68, 69, 70, 71, 72, 73, 74, 75, 76, 77, 78, 79, 80, 81, 82, 83, 84, 85, 86, 87, 88, 89, 90, 97, 98, 99, 100, 101, 102, 103, 104, 105, 106, 107, 108, 109, 110, 111, 112, 113, 114, 115, 116, 117, 118, 119, 120, 121, 122, 48, 49, 50, 51, 52, 53, 54, 55, 56, 57, 43, 47] : List Int) (Int.toNat (ibits .and .i64 (Int.fdiv y0.1.2.1 ((2 : Int) ^ (min (Int.toNat 12) 64))) 63)) 0), (List.getD ([65, 66, 67, 68, 69, 70, 71, 72, 73, 74, 75, 76, 77, 78, 79, 80, 81, 82, 83, 84, 85, 86, 87, 88, 89, 90, 97, 98, 99, 100, 101, 102, 103, 104, 105, 106, 107, 108, 109, 110, 111, 112, 113, 114, 115, 116, 117, 118, 119, 120, 121, 122, 48, 49, 50, 51, 52, 53, 54, 55, 56, 57, 43, 47] : List Int) (Int.toNat (ibits .and .i64 (Int.fdiv y0.1.2.1 ((2 : Int) ^ (min (Int.toNat 6) 64))) 63)) 0), (List.getD ([65, 66, 67, 68, 69, 70, 71, 72, 73, 74, 75, 76, 77, 78, 79, 80, 81, 82, 83, 84, 85, 86, 87, 88, 89, 90, 97, 98, 99, 100, 101, 102, 103, 104, 105, 106, 107, 108, 109, 110, 111, 112, 113, 114, 115, 116, 117, 118, 119, 120, 121, 122, 48, 49, 50, 51, 52, 53, 54, 55, 56, 57, 43, 47] : List Int) (Int.toNat (ibits .and .i64 y0.1.2.1 63)) 0)] : List Int), ()))) (fun (y1 : ((Unit × Unit) × ((List Int) × Unit))) =>
          some y1.2.1)) (
          none)) (
        none)) (
      none)) (
    none))
theorem base64_Group_eq (a0 : List Int) (pc : PC prog) (lp : LP) : got base64_Group_t (pcall prog (runO prog cfg (hand prog cfg lp pc 6 tbl 5) pc 6) 25 [(.c (.slice .ro (.int .u8) a0))]) = base64_Group_B pc lp a0 := by kernel_rfl
theorem base64_Group_ap (E : AppE prog pcN pc lN lp) (a0 : List Int) : Approx (fun N => base64_Group_B (pcN N) (lN N) a0) (base64_Group_B pc lp a0) := by
  delta base64_Group_B
  exact (Approx.bnd (base64_Group_L1_a E) (fun y0 => (Approx.ifd (Approx.ifd (Approx.ifd (Approx.ifd (Approx.bnd (base64_Group_L2_a E) (fun y1 => (Approx.const _))) Approx.none) Approx.none) Approx.none) Approx.none)))
theorem base64_Group_of {a0 : List Int} {y : (List Int)} (h : base64_Group_B (pcL prog cfg) lpL a0 = some y) : base64_Group_c (pcL prog cfg) a0 = some y := fn_of rfl (base64_Group_eq a0) (base64_Group_ap (appN prog cfg) a0) h

-- ref1_Bits, loop 3730
abbrev ref1_Bits_L1_D := (((List Int) × ((List Int) × (Int × (Int × Unit)))) × Unit)
abbrev ref1_Bits_L1_X := (((List Int) × ((List Int) × (Int × Unit))) × Unit)
noncomputable def ref1_Bits_L1_R (pc : PC prog) (lp : LP) (ψ : ref1_Bits_L1_D → Option ref1_Bits_L1_X) (d : ref1_Bits_L1_D) : Option ref1_Bits_L1_X :=
  ifd ((decide (d.1.2.2.2.1 ≥ 0)) = true) (
    ifd ((decide (((0 : Int) ≤ d.1.2.2.1) ∧ (d.1.2.2.1 < (((List.length d.1.1) : Nat) : Int)))) = true) (
      ifd ((decide ((0 : Int) ≤ (Go.IntKind.wrap .u64 d.1.2.2.2.1))) = true) (
        ifd ((decide ((((List.length d.1.2.1) + (List.length ([(Int.tmod (Int.fdiv (Go.IntKind.wrap .i64 (List.getD d.1.1 (Int.toNat d.1.2.2.1) 0)) ((2 : Int) ^ (min (Int.toNat (Go.IntKind.wrap .u64 d.1.2.2.2.1)) 64))) 2)] : List Int))) * 8) ≤ 140737488355328)) = true) (
          ψ ((d.1.1, (d.1.2.1 ++ ([(Int.tmod (Int.fdiv (Go.IntKind.wrap .i64 (List.getD d.1.1 (Int.toNat d.1.2.2.1) 0)) ((2 : Int) ^ (min (Int.toNat (Go.IntKind.wrap .u64 d.1.2.2.2.1)) 64))) 2)] : List Int)), d.1.2.2.1, (Go.IntKind.wrap .i64 (d.1.2.2.2.1 - 1)), ()), ())) (
          none)) (
        none)) (
      none)) (
    some ((d.1.1, d.1.2.1, d.1.2.2.1, ()), ()))
noncomputable def ref1_Bits_L1 (pc : PC prog) (lp : LP) (d : ref1_Bits_L1_D) : Option ref1_Bits_L1_X := lp ref1_Bits_L1_D ref1_Bits_L1_X (ref1_Bits_L1_R pc lp) d
theorem ref1_Bits_L1_ap (E : AppE prog pcN pc lN lp) : ContR (fun N => ref1_Bits_L1_R (pcN N) (lN N)) (ref1_Bits_L1_R pc lp) := fun ψN ψ h d => by
  delta ref1_Bits_L1_R
  exact (Approx.ifd (Approx.ifd (Approx.ifd (Approx.ifd (h _) Approx.none) Approx.none) Approx.none) (Approx.const _))
theorem ref1_Bits_L1_a (E : AppE prog pcN pc lN lp) {d : ref1_Bits_L1_D} : Approx (fun N => ref1_Bits_L1 (pcN N) (lN N) d) (ref1_Bits_L1 pc lp d) := E.loop (ref1_Bits_L1_ap E) d
theorem ref1_Bits_L1_of {d : ref1_Bits_L1_D} {x : ref1_Bits_L1_X} (h : ref1_Bits_L1_R (pcL prog cfg) lpL (ref1_Bits_L1 (pcL prog cfg) lpL) d = some x) : ref1_Bits_L1 (pcL prog cfg) lpL d = some x := lpL_step (ref1_Bits_L1_ap (appL prog cfg)) h

-- ref1_Bits, loop 58
abbrev ref1_Bits_L2_D := (((List Int) × ((List Int) × (Int × Unit))) × Unit)
abbrev ref1_Bits_L2_X := (((List Int) × Unit) × Unit)
noncomputable def ref1_Bits_L2_R (pc : PC prog) (lp : LP) (ψ : ref1_Bits_L2_D → Option ref1_Bits_L2_X) (d : ref1_Bits_L2_D) : Option ref1_Bits_L2_X :=
  ifd ((decide (d.1.2.2.1 < (((List.length d.1.1) : Nat) : Int))) = true) (
    bnd (ref1_Bits_L1 pc lp ((d.1.1, d.1.2.1, d.1.2.2.1, 7, ()), ())) (fun (y3 : (((List Int) × ((List Int) × (Int × Unit))) × Unit)) =>
    ψ ((y3.1.1, y3.1.2.1, (Go.IntKind.wrap .i64 (y3.1.2.2.1 + 1)), ()), ()))) (
    some ((d.1.2.1, ()), ()))
noncomputable def ref1_Bits_L2 (pc : PC prog) (lp : LP) (d : ref1_Bits_L2_D) : Option ref1_Bits_L2_X := lp ref1_Bits_L2_D ref1_Bits_L2_X (ref1_Bits_L2_R pc lp) d
theorem ref1_Bits_L2_ap (E : AppE prog pcN pc lN lp) : ContR (fun N => ref1_Bits_L2_R (pcN N) (lN N)) (ref1_Bits_L2_R pc lp) := fun ψN ψ h d => by
  delta ref1_Bits_L2_R
  exact (Approx.ifd (Approx.bnd (ref1_Bits_L1_a E) (fun y3 => (h _))) (Approx.const _))
theorem ref1_Bits_L2_a (E : AppE prog pcN pc lN lp) {d : ref1_Bits_L2_D} : Approx (fun N => ref1_Bits_L2 (pcN N) (lN N) d) (ref1_Bits_L2 pc lp d) := E.loop (ref1_Bits_L2_ap E) d
theorem ref1_Bits_L2_of {d : ref1_Bits_L2_D} {x : ref1_Bits_L2_X} (h : ref1_Bits_L2_R (pcL prog cfg) lpL (ref1_Bits_L2 (pcL prog cfg) lpL) d = some x) : ref1_Bits_L2 (pcL prog cfg) lpL d = some x := lpL_step (ref1_Bits_L2_ap (appL prog cfg)) h

noncomputable def ref1_Bits_B (pc : PC prog) (lp : LP) (a0 : List Int) : Option (List Int) :=
  bnd (ref1_Bits_L2 pc lp ((a0, ([] : List Int), 0, ()), ())) (fun (y4 : (((List Int) × Unit) × Unit)) =>
  some y4.1.1)
theorem ref1_Bits_eq (a0 : List Int) (pc : PC prog) (lp : LP) : got ref1_Bits_t (pcall prog (runO prog cfg (hand prog cfg lp pc 6 tbl 5) pc 6) 26 [(.c (.slice .ro (.int .u8) a0))]) = ref1_Bits_B pc lp a0 := by kernel_rfl
theorem ref1_Bits_ap (E : AppE prog pcN pc lN lp) (a0 : List Int) : Approx (fun N => ref1_Bits_B (pcN N) (lN N) a0) (ref1_Bits_B pc lp a0) := by
  delta ref1_Bits_B
  exact (Approx.bnd (ref1_Bits_L2_a E) (fun y4 => (Approx.const _)))
theorem ref1_Bits_of {a0 : List Int} {y : (List Int)} (h : ref1_Bits_B (pcL prog cfg) lpL a0 = some y) : ref1_Bits_c (pcL prog cfg) a0 = some y := fn_of rfl (ref1_Bits_eq a0) (ref1_Bits_ap (appN prog cfg) a0) h

noncomputable def base64_value_B (pc : PC prog) (lp : LP) (a0 : Int) : Option Int :=
  bnd (bnd (bytes_IndexByte_c pc ([65, 66, 67, 68, 69, 70, 71, 72, 73, 74, 75, 76, 77, 78, 79, 80, 81, 82, 83, 84, 85, 86, 87, 88, 89, 90, 97, 98, 99, 100, 101, 102, 103, 104, 105, 106, 107, 108, 109, 110, 111, 112, 113, 114, 115, 116, 117, 118, 119, 120, 121, 122, 48, 49, 50, 51, 52, 53, 54, 55, 56, 57, 43, 47] : List Int) a0) fun (x0 : Int) =>
  some x0) fun (x1 : Int) =>
  some x1
theorem base64_value_eq (a0 : Int) (pc : PC prog) (lp : LP) : got base64_value_t (pcall prog (runO prog cfg (hand prog cfg lp pc 6 tbl 5) pc 6) 27 [(.c (.int .u8 a0))]) = base64_value_B pc lp a0 := by kernel_rfl
theorem base64_value_ap (E : AppE prog pcN pc lN lp) (a0 : Int) : Approx (fun N => base64_value_B (pcN N) (lN N) a0) (base64_value_B pc lp a0) := by
  delta base64_value_B
  exact (Approx.bnd (Approx.bnd (bytes_IndexByte_ca E) fun x0 => (Approx.const _)) fun x1 => (Approx.const _))
theorem base64_value_of {a0 : Int} {y : Int} (h : base64_value_B (pcL prog cfg) lpL a0 = some y) : base64_value_c (pcL prog cfg) a0 = some y := fn_of rfl (base64_value_eq a0) (base64_value_ap (appN prog cfg) a0) h

noncomputable def bytes_IndexByte_B (pc : PC prog) (lp : LP) (a0 : List Int) (a1 : Int) : Option Int :=
  some (indexByteL a0 a1)
theorem bytes_IndexByte_eq (a0 : List Int) (a1 : Int) (pc : PC prog) (lp : LP) : got bytes_IndexByte_t (pcall prog (runO prog cfg (hand prog cfg lp pc 6 tbl 5) pc 6) 28 [(.c (.slice .ro (.int .u8) a0)), (.c (.int .u8 a1))]) = bytes_IndexByte_B pc lp a0 a1 := by kernel_rfl
theorem bytes_IndexByte_ap (E : AppE prog pcN pc lN lp) (a0 : List Int) (a1 : Int) : Approx (fun N => bytes_IndexByte_B (pcN N) (lN N) a0 a1) (bytes_IndexByte_B pc lp a0 a1) := by
  delta bytes_IndexByte_B
  exact (Approx.const _)
theorem bytes_IndexByte_of {a0 : List Int} {a1 : Int} {y : Int} (h : bytes_IndexByte_B (pcL prog cfg) lpL a0 a1 = some y) : bytes_IndexByte_c (pcL prog cfg) a0 a1 = some y := fn_of rfl (bytes_IndexByte_eq a0 a1) (bytes_IndexByte_ap (appN prog cfg) a0 a1) h

end Go.Proofs.YthnfcjbglfkhlaaSim
