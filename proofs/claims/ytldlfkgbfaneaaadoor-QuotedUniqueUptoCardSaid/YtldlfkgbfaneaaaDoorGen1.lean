/- The program's functions, as they compute. Printed by wip/gen. -/
import Derived.Test.YtldlfkgbfaneaaaDoorGen0
namespace Go.Proofs.YtldlfkgbfaneaaaDoorSim
open Go Go.Proofs
open Go.Proofs.Tryd (prog)
set_option linter.unusedVariables false
set_option linter.unusedSimpArgs false
set_option maxRecDepth 100000

variable {pcN : Nat → PC prog} {pc : PC prog} {lN : Nat → LP} {lp : LP}

noncomputable def law1_QuotedEncodeMatchesSpec_B (pc : PC prog) (lp : LP) (a0 : List Int) : Option Bool :=
  bnd (bnd (law1_quotedExample_c pc ) fun (x0 : Bool) =>
  some x0) fun (x1 : Bool) =>
  ifd ((!x1) = true) (
    some false) (
    bnd (bnd (quoted_Encode_c pc a0) fun (x2 : ((List Int) × ((Int × (Int × Unit)) × Unit))) =>
    some (x2.1, ((x2.2.1.1, (x2.2.1.2.1, ())), ()))) fun (x3 : ((List Int) × ((Int × (Int × Unit)) × Unit))) =>
    ifd ((decide ((((List.length a0) : Nat) : Int) > 12000)) = true) (
      bnd (bnd (ref1_At_c pc 1 (-1)) fun (x4 : (Int × (Int × Unit))) =>
      some (x4.1, (x4.2.1, ()))) fun (x5 : (Int × (Int × Unit))) =>
      ifd (((x3.2.1.1 == x5.1) && ((x3.2.1.2.1 == x5.2.1) && true)) = true) (
        ifd (((x3.2.1.1 == x5.1) && ((x3.2.1.2.1 == x5.2.1) && true)) = true) (
          some ((((List.length x3.1) : Nat) : Int) == 0)) (
          some false)) (
        ifd (((x3.2.1.1 == x5.1) && ((x3.2.1.2.1 == x5.2.1) && true)) = true) (
          none) (
          some false))) (
      ifd ((x3.2.1.1 == 0) = true) (
        bnd (bnd (ref1_Quoted_c pc a0) fun (x6 : (List Int)) =>
        some x6) fun (x7 : (List Int)) =>
        bnd (bnd (ref1_Bytes_c pc x3.1 x7) fun (x8 : Bool) =>
        some x8) fun (x9 : Bool) =>
        ifd ((x3.2.1.1 == 0) = true) (
          some x9) (
          some false)) (
        ifd ((x3.2.1.1 == 0) = true) (
          none) (
          some false))))
theorem law1_QuotedEncodeMatchesSpec_eq (a0 : List Int) (pc : PC prog) (lp : LP) : got law1_QuotedEncodeMatchesSpec_t (pcall prog (runO prog cfg (hand prog cfg lp pc 6 tbl 5) pc 6) 3 [(.c (.slice .ro (.int .u8) a0))]) = law1_QuotedEncodeMatchesSpec_B pc lp a0 := by kernel_rfl
theorem law1_QuotedEncodeMatchesSpec_ap (E : AppE prog pcN pc lN lp) (a0 : List Int) : Approx (fun N => law1_QuotedEncodeMatchesSpec_B (pcN N) (lN N) a0) (law1_QuotedEncodeMatchesSpec_B pc lp a0) := by
  delta law1_QuotedEncodeMatchesSpec_B
  exact (Approx.bnd (Approx.bnd (law1_quotedExample_ca E) fun x0 => (Approx.const _)) fun x1 => (Approx.ifd (Approx.const _) (Approx.bnd (Approx.bnd (quoted_Encode_ca E) fun x2 => (Approx.const _)) fun x3 => (Approx.ifd (Approx.bnd (Approx.bnd (ref1_At_ca E) fun x4 => (Approx.const _)) fun x5 => (Approx.ifd (Approx.ifd (Approx.const _) (Approx.const _)) (Approx.ifd Approx.none (Approx.const _)))) (Approx.ifd (Approx.bnd (Approx.bnd (ref1_Quoted_ca E) fun x6 => (Approx.const _)) fun x7 => (Approx.bnd (Approx.bnd (ref1_Bytes_ca E) fun x8 => (Approx.const _)) fun x9 => (Approx.ifd (Approx.const _) (Approx.const _)))) (Approx.ifd Approx.none (Approx.const _)))))))
theorem law1_QuotedEncodeMatchesSpec_of {a0 : List Int} {y : Bool} (h : law1_QuotedEncodeMatchesSpec_B (pcL prog cfg) lpL a0 = some y) : law1_QuotedEncodeMatchesSpec_c (pcL prog cfg) a0 = some y := fn_of rfl (law1_QuotedEncodeMatchesSpec_eq a0) (law1_QuotedEncodeMatchesSpec_ap (appN prog cfg) a0) h

noncomputable def law1_QuotedLenientMatchesSpec_B (pc : PC prog) (lp : LP) (a0 : List Int) : Option Bool :=
  bnd (bnd (law1_quotedExample_c pc ) fun (x0 : Bool) =>
  some x0) fun (x1 : Bool) =>
  ifd ((!x1) = true) (
    some false) (
    bnd (bnd (quoted_Lenient_c pc a0) fun (x2 : ((List Int) × ((Int × (Int × Unit)) × Unit))) =>
    some (x2.1, ((x2.2.1.1, (x2.2.1.2.1, ())), ()))) fun (x3 : ((List Int) × ((Int × (Int × Unit)) × Unit))) =>
    ifd ((decide ((((List.length a0) : Nat) : Int) > 48000)) = true) (
      bnd (bnd (ref1_At_c pc 1 (-1)) fun (x4 : (Int × (Int × Unit))) =>
      some (x4.1, (x4.2.1, ()))) fun (x5 : (Int × (Int × Unit))) =>
      ifd (((x3.2.1.1 == x5.1) && ((x3.2.1.2.1 == x5.2.1) && true)) = true) (
        ifd (((x3.2.1.1 == x5.1) && ((x3.2.1.2.1 == x5.2.1) && true)) = true) (
          some ((((List.length x3.1) : Nat) : Int) == 0)) (
          some false)) (
        ifd (((x3.2.1.1 == x5.1) && ((x3.2.1.2.1 == x5.2.1) && true)) = true) (
          none) (
          some false))) (
      ifd ((x3.2.1.1 == 0) = true) (
        bnd (bnd (ref1_LooseQuoted_c pc a0) fun (x6 : (List Int)) =>
        some x6) fun (x7 : (List Int)) =>
        bnd (bnd (ref1_Bytes_c pc x3.1 x7) fun (x8 : Bool) =>
        some x8) fun (x9 : Bool) =>
        ifd ((x3.2.1.1 == 0) = true) (
          some x9) (
          some false)) (
        ifd ((x3.2.1.1 == 0) = true) (
          none) (
          some false))))
theorem law1_QuotedLenientMatchesSpec_eq (a0 : List Int) (pc : PC prog) (lp : LP) : got law1_QuotedLenientMatchesSpec_t (pcall prog (runO prog cfg (hand prog cfg lp pc 6 tbl 5) pc 6) 4 [(.c (.slice .ro (.int .u8) a0))]) = law1_QuotedLenientMatchesSpec_B pc lp a0 := by kernel_rfl
theorem law1_QuotedLenientMatchesSpec_ap (E : AppE prog pcN pc lN lp) (a0 : List Int) : Approx (fun N => law1_QuotedLenientMatchesSpec_B (pcN N) (lN N) a0) (law1_QuotedLenientMatchesSpec_B pc lp a0) := by
  delta law1_QuotedLenientMatchesSpec_B
  exact (Approx.bnd (Approx.bnd (law1_quotedExample_ca E) fun x0 => (Approx.const _)) fun x1 => (Approx.ifd (Approx.const _) (Approx.bnd (Approx.bnd (quoted_Lenient_ca E) fun x2 => (Approx.const _)) fun x3 => (Approx.ifd (Approx.bnd (Approx.bnd (ref1_At_ca E) fun x4 => (Approx.const _)) fun x5 => (Approx.ifd (Approx.ifd (Approx.const _) (Approx.const _)) (Approx.ifd Approx.none (Approx.const _)))) (Approx.ifd (Approx.bnd (Approx.bnd (ref1_LooseQuoted_ca E) fun x6 => (Approx.const _)) fun x7 => (Approx.bnd (Approx.bnd (ref1_Bytes_ca E) fun x8 => (Approx.const _)) fun x9 => (Approx.ifd (Approx.const _) (Approx.const _)))) (Approx.ifd Approx.none (Approx.const _)))))))
theorem law1_QuotedLenientMatchesSpec_of {a0 : List Int} {y : Bool} (h : law1_QuotedLenientMatchesSpec_B (pcL prog cfg) lpL a0 = some y) : law1_QuotedLenientMatchesSpec_c (pcL prog cfg) a0 = some y := fn_of rfl (law1_QuotedLenientMatchesSpec_eq a0) (law1_QuotedLenientMatchesSpec_ap (appN prog cfg) a0) h

noncomputable def law1_QuotedRoundTrip_B (pc : PC prog) (lp : LP) (a0 : List Int) : Option Bool :=
  bnd (bnd (law1_quotedExample_c pc ) fun (x0 : Bool) =>
  some x0) fun (x1 : Bool) =>
  ifd ((!x1) = true) (
    some false) (
    bnd (bnd (quoted_Encode_c pc a0) fun (x2 : ((List Int) × ((Int × (Int × Unit)) × Unit))) =>
    some (x2.1, ((x2.2.1.1, (x2.2.1.2.1, ())), ()))) fun (x3 : ((List Int) × ((Int × (Int × Unit)) × Unit))) =>
    ifd ((x3.2.1.1 != 0) = true) (
      some ((((List.length x3.1) : Nat) : Int) == 0)) (
      bnd (bnd (quoted_Decode_c pc x3.1) fun (x4 : ((List Int) × ((Int × (Int × Unit)) × Unit))) =>
      some (x4.1, ((x4.2.1.1, (x4.2.1.2.1, ())), ()))) fun (x5 : ((List Int) × ((Int × (Int × Unit)) × Unit))) =>
      bnd (bnd (quoted_Lenient_c pc x3.1) fun (x6 : ((List Int) × ((Int × (Int × Unit)) × Unit))) =>
      some (x6.1, ((x6.2.1.1, (x6.2.1.2.1, ())), ()))) fun (x7 : ((List Int) × ((Int × (Int × Unit)) × Unit))) =>
      ifd ((x5.2.1.1 == 0) = true) (
        ifd ((x5.2.1.1 == 0) = true) (
          ifd ((x7.2.1.1 == 0) = true) (
            bnd (bnd (ref1_Bytes_c pc x5.1 a0) fun (x8 : Bool) =>
            some x8) fun (x9 : Bool) =>
            ifd ((x7.2.1.1 == 0) = true) (
              ifd (x9 = true) (
                bnd (bnd (ref1_Bytes_c pc x7.1 a0) fun (x10 : Bool) =>
                some x10) fun (x11 : Bool) =>
                ifd (x9 = true) (
                  some x11) (
                  some false)) (
                ifd (x9 = true) (
                  none) (
                  some false))) (
              some false)) (
            ifd ((x7.2.1.1 == 0) = true) (
              none) (
              some false))) (
          some false)) (
        ifd ((x5.2.1.1 == 0) = true) (
          none) (
          some false))))
theorem law1_QuotedRoundTrip_eq (a0 : List Int) (pc : PC prog) (lp : LP) : got law1_QuotedRoundTrip_t (pcall prog (runO prog cfg (hand prog cfg lp pc 6 tbl 5) pc 6) 5 [(.c (.slice .ro (.int .u8) a0))]) = law1_QuotedRoundTrip_B pc lp a0 := by kernel_rfl
theorem law1_QuotedRoundTrip_ap (E : AppE prog pcN pc lN lp) (a0 : List Int) : Approx (fun N => law1_QuotedRoundTrip_B (pcN N) (lN N) a0) (law1_QuotedRoundTrip_B pc lp a0) := by
  delta law1_QuotedRoundTrip_B
  exact (Approx.bnd (Approx.bnd (law1_quotedExample_ca E) fun x0 => (Approx.const _)) fun x1 => (Approx.ifd (Approx.const _) (Approx.bnd (Approx.bnd (quoted_Encode_ca E) fun x2 => (Approx.const _)) fun x3 => (Approx.ifd (Approx.const _) (Approx.bnd (Approx.bnd (quoted_Decode_ca E) fun x4 => (Approx.const _)) fun x5 => (Approx.bnd (Approx.bnd (quoted_Lenient_ca E) fun x6 => (Approx.const _)) fun x7 => (Approx.ifd (Approx.ifd (Approx.ifd (Approx.bnd (Approx.bnd (ref1_Bytes_ca E) fun x8 => (Approx.const _)) fun x9 => (Approx.ifd (Approx.ifd (Approx.bnd (Approx.bnd (ref1_Bytes_ca E) fun x10 => (Approx.const _)) fun x11 => (Approx.ifd (Approx.const _) (Approx.const _))) (Approx.ifd Approx.none (Approx.const _))) (Approx.const _))) (Approx.ifd Approx.none (Approx.const _))) (Approx.const _)) (Approx.ifd Approx.none (Approx.const _)))))))))
theorem law1_QuotedRoundTrip_of {a0 : List Int} {y : Bool} (h : law1_QuotedRoundTrip_B (pcL prog cfg) lpL a0 = some y) : law1_QuotedRoundTrip_c (pcL prog cfg) a0 = some y := fn_of rfl (law1_QuotedRoundTrip_eq a0) (law1_QuotedRoundTrip_ap (appN prog cfg) a0) h

noncomputable def law1_QuotedUnique_B (pc : PC prog) (lp : LP) (a0 : List Int) : Option Bool :=
  bnd (bnd (law1_quotedExample_c pc ) fun (x0 : Bool) =>
  some x0) fun (x1 : Bool) =>
  ifd ((!x1) = true) (
    some false) (
    ifd ((decide ((((List.length a0) : Nat) : Int) > 48000)) = true) (
      some true) (
      bnd (bnd (quoted_Decode_c pc a0) fun (x2 : ((List Int) × ((Int × (Int × Unit)) × Unit))) =>
      some (x2.1, ((x2.2.1.1, (x2.2.1.2.1, ())), ()))) fun (x3 : ((List Int) × ((Int × (Int × Unit)) × Unit))) =>
      ifd ((x3.2.1.1 != 0) = true) (
        bnd (bnd (ref1_At_c pc 11 (-2)) fun (x4 : (Int × (Int × Unit))) =>
        some (x4.1, (x4.2.1, ()))) fun (x5 : (Int × (Int × Unit))) =>
        ifd (((x3.2.1.1 == x5.1) && ((x3.2.1.2.1 == x5.2.1) && true)) = true) (
          ifd (((x3.2.1.1 == x5.1) && ((x3.2.1.2.1 == x5.2.1) && true)) = true) (
            some ((((List.length x3.1) : Nat) : Int) == 0)) (
            some false)) (
          ifd (((x3.2.1.1 == x5.1) && ((x3.2.1.2.1 == x5.2.1) && true)) = true) (
            none) (
            some false))) (
        bnd (bnd (ref1_Quoted_c pc x3.1) fun (x6 : (List Int)) =>
        some x6) fun (x7 : (List Int)) =>
        bnd (bnd (ref1_Bytes_c pc x7 a0) fun (x8 : Bool) =>
        some x8) fun (x9 : Bool) =>
        some x9)))
theorem law1_QuotedUnique_eq (a0 : List Int) (pc : PC prog) (lp : LP) : got law1_QuotedUnique_t (pcall prog (runO prog cfg (hand prog cfg lp pc 6 tbl 5) pc 6) 6 [(.c (.slice .ro (.int .u8) a0))]) = law1_QuotedUnique_B pc lp a0 := by kernel_rfl
theorem law1_QuotedUnique_ap (E : AppE prog pcN pc lN lp) (a0 : List Int) : Approx (fun N => law1_QuotedUnique_B (pcN N) (lN N) a0) (law1_QuotedUnique_B pc lp a0) := by
  delta law1_QuotedUnique_B
  exact (Approx.bnd (Approx.bnd (law1_quotedExample_ca E) fun x0 => (Approx.const _)) fun x1 => (Approx.ifd (Approx.const _) (Approx.ifd (Approx.const _) (Approx.bnd (Approx.bnd (quoted_Decode_ca E) fun x2 => (Approx.const _)) fun x3 => (Approx.ifd (Approx.bnd (Approx.bnd (ref1_At_ca E) fun x4 => (Approx.const _)) fun x5 => (Approx.ifd (Approx.ifd (Approx.const _) (Approx.const _)) (Approx.ifd Approx.none (Approx.const _)))) (Approx.bnd (Approx.bnd (ref1_Quoted_ca E) fun x6 => (Approx.const _)) fun x7 => (Approx.bnd (Approx.bnd (ref1_Bytes_ca E) fun x8 => (Approx.const _)) fun x9 => (Approx.const _))))))))
theorem law1_QuotedUnique_of {a0 : List Int} {y : Bool} (h : law1_QuotedUnique_B (pcL prog cfg) lpL a0 = some y) : law1_QuotedUnique_c (pcL prog cfg) a0 = some y := fn_of rfl (law1_QuotedUnique_eq a0) (law1_QuotedUnique_ap (appN prog cfg) a0) h

-- law1_QuotedLines, part 16200
abbrev law1_QuotedLines_C1_D := (((List Int) × (Int × (Int × Unit))) × ((Int × (Int × Unit)) × Unit))
abbrev law1_QuotedLines_C1_X := (((List Int) × (Int × (Int × (Bool × Unit)))) × ((Int × (Int × Unit)) × Unit))
noncomputable def law1_QuotedLines_C1 (pc : PC prog) (lp : LP) (d : law1_QuotedLines_C1_D) : Option law1_QuotedLines_C1_X :=
  ifd ((d.1.2.2.1 == (((List.length d.1.1) : Nat) : Int)) = true) (
    ifd ((d.1.2.2.1 == (((List.length d.1.1) : Nat) : Int)) = true) (
      some ((d.1.1, d.1.2.1, d.1.2.2.1, true, ()), ((d.2.1.1, d.2.1.2.1, ()), ()))) (
      none)) (
    bnd (bnd (ref1_Crlf_c pc d.1.1 d.1.2.2.1) fun (x6 : Bool) =>
    some x6) fun (x7 : Bool) =>
    ifd ((d.1.2.2.1 == (((List.length d.1.1) : Nat) : Int)) = true) (
      some ((d.1.1, d.1.2.1, d.1.2.2.1, true, ()), ((d.2.1.1, d.2.1.2.1, ()), ()))) (
      some ((d.1.1, d.1.2.1, d.1.2.2.1, x7, ()), ((d.2.1.1, d.2.1.2.1, ()), ()))))
theorem law1_QuotedLines_C1_a (E : AppE prog pcN pc lN lp) {d : law1_QuotedLines_C1_D} : Approx (fun N => law1_QuotedLines_C1 (pcN N) (lN N) d) (law1_QuotedLines_C1 pc lp d) := by
  delta law1_QuotedLines_C1
  exact (Approx.ifd (Approx.ifd (Approx.const _) Approx.none) (Approx.bnd (Approx.bnd (ref1_Crlf_ca E) fun x6 => (Approx.const _)) fun x7 => (Approx.ifd (Approx.const _) (Approx.const _))))

-- law1_QuotedLines, part 129604
abbrev law1_QuotedLines_C2_D := (((List Int) × (Int × (Int × Unit))) × ((Int × (Int × Unit)) × Unit))
abbrev law1_QuotedLines_C2_X := (((List Int) × (Int × (Bool × Unit))) × ((Int × (Int × Unit)) × Unit))
noncomputable def law1_QuotedLines_C2 (pc : PC prog) (lp : LP) (d : law1_QuotedLines_C2_D) : Option law1_QuotedLines_C2_X :=
  ifd ((decide (d.1.2.1 > 76)) = true) (
    ifd ((decide (d.1.2.1 > 76)) = true) (
      ifd ((decide (d.1.2.1 > 76)) = true) (
        some ((d.1.1, d.1.2.2.1, true, ()), ((d.2.1.1, d.2.1.2.1, ()), ()))) (
        none)) (
      none)) (
    ifd ((decide (d.1.2.1 > 0)) = true) (
      ifd ((decide (((0 : Int) ≤ (Go.IntKind.wrap .i64 (d.1.2.2.1 - 1))) ∧ ((Go.IntKind.wrap .i64 (d.1.2.2.1 - 1)) < (((List.length d.1.1) : Nat) : Int)))) = true) (
        bnd (bnd (ref1_Blank_c pc (List.getD d.1.1 (Int.toNat (Go.IntKind.wrap .i64 (d.1.2.2.1 - 1))) 0)) fun (x11 : Bool) =>
        some x11) fun (x12 : Bool) =>
        ifd ((decide (d.1.2.1 > 76)) = true) (
          ifd ((decide (d.1.2.1 > 76)) = true) (
            some ((d.1.1, d.1.2.2.1, true, ()), ((d.2.1.1, d.2.1.2.1, ()), ()))) (
            none)) (
          ifd ((decide (d.1.2.1 > 0)) = true) (
            ifd ((decide (d.1.2.1 > 76)) = true) (
              some ((d.1.1, d.1.2.2.1, true, ()), ((d.2.1.1, d.2.1.2.1, ()), ()))) (
              some ((d.1.1, d.1.2.2.1, x12, ()), ((d.2.1.1, d.2.1.2.1, ()), ())))) (
            ifd ((decide (d.1.2.1 > 76)) = true) (
              some ((d.1.1, d.1.2.2.1, true, ()), ((d.2.1.1, d.2.1.2.1, ()), ()))) (
              some ((d.1.1, d.1.2.2.1, false, ()), ((d.2.1.1, d.2.1.2.1, ()), ())))))) (
        none)) (
      ifd ((decide (d.1.2.1 > 76)) = true) (
        ifd ((decide (d.1.2.1 > 76)) = true) (
          some ((d.1.1, d.1.2.2.1, true, ()), ((d.2.1.1, d.2.1.2.1, ()), ()))) (
          none)) (
        ifd ((decide (d.1.2.1 > 0)) = true) (
          ifd ((decide (d.1.2.1 > 76)) = true) (
            some ((d.1.1, d.1.2.2.1, true, ()), ((d.2.1.1, d.2.1.2.1, ()), ()))) (
            none)) (
          ifd ((decide (d.1.2.1 > 76)) = true) (
            some ((d.1.1, d.1.2.2.1, true, ()), ((d.2.1.1, d.2.1.2.1, ()), ()))) (
            some ((d.1.1, d.1.2.2.1, false, ()), ((d.2.1.1, d.2.1.2.1, ()), ())))))))
theorem law1_QuotedLines_C2_a (E : AppE prog pcN pc lN lp) {d : law1_QuotedLines_C2_D} : Approx (fun N => law1_QuotedLines_C2 (pcN N) (lN N) d) (law1_QuotedLines_C2 pc lp d) := by
  delta law1_QuotedLines_C2
  exact (Approx.ifd (Approx.ifd (Approx.ifd (Approx.const _) Approx.none) Approx.none) (Approx.ifd (Approx.ifd (Approx.bnd (Approx.bnd (ref1_Blank_ca E) fun x11 => (Approx.const _)) fun x12 => (Approx.ifd (Approx.ifd (Approx.const _) Approx.none) (Approx.ifd (Approx.ifd (Approx.const _) (Approx.const _)) (Approx.ifd (Approx.const _) (Approx.const _))))) Approx.none) (Approx.ifd (Approx.ifd (Approx.const _) Approx.none) (Approx.ifd (Approx.ifd (Approx.const _) Approx.none) (Approx.ifd (Approx.const _) (Approx.const _))))))

-- law1_QuotedLines, loop 506
abbrev law1_QuotedLines_L3_D := (((List Int) × (Int × (Int × Unit))) × ((Int × (Int × Unit)) × Unit))
abbrev law1_QuotedLines_L3_X := (((Bool × Unit) × ((Int × (Int × Unit)) × Unit)) ⊕ (Unit × ((Int × (Int × Unit)) × Unit)))
noncomputable def law1_QuotedLines_L3_R (pc : PC prog) (lp : LP) (ψ : law1_QuotedLines_L3_D → Option law1_QuotedLines_L3_X) (d : law1_QuotedLines_L3_D) : Option law1_QuotedLines_L3_X :=
  ifd ((decide (d.1.2.2.1 ≤ (((List.length d.1.1) : Nat) : Int))) = true) (
    bnd (law1_QuotedLines_C1 pc lp ((d.1.1, d.1.2.1, d.1.2.2.1, ()), ((d.2.1.1, d.2.1.2.1, ()), ()))) (fun (y16 : (((List Int) × (Int × (Int × (Bool × Unit)))) × ((Int × (Int × Unit)) × Unit))) =>
    ifd (y16.1.2.2.2.1 = true) (
      bnd (law1_QuotedLines_C2 pc lp ((y16.1.1, y16.1.2.1, y16.1.2.2.1, ()), ((y16.2.1.1, y16.2.1.2.1, ()), ()))) (fun (y17 : (((List Int) × (Int × (Bool × Unit))) × ((Int × (Int × Unit)) × Unit))) =>
      ifd (y17.1.2.2.1 = true) (
        some (Sum.inl ((false, ()), ((y17.2.1.1, y17.2.1.2.1, ()), ())))) (
        ψ ((y17.1.1, 0, (Go.IntKind.wrap .i64 ((Go.IntKind.wrap .i64 (y17.1.2.1 + 1)) + 1)), ()), ((y17.2.1.1, y17.2.1.2.1, ()), ()))))) (
      ifd ((decide (((0 : Int) ≤ y16.1.2.2.1) ∧ (y16.1.2.2.1 < (((List.length y16.1.1) : Nat) : Int)))) = true) (
        bnd (bnd (ref1_In_c pc (Go.IntKind.wrap .i64 (List.getD y16.1.1 (Int.toNat y16.1.2.2.1) 0)) 32 126) fun (x18 : Bool) =>
        some x18) fun (x19 : Bool) =>
        ifd ((!x19) = true) (
          ifd ((decide (((0 : Int) ≤ y16.1.2.2.1) ∧ (y16.1.2.2.1 < (((List.length y16.1.1) : Nat) : Int)))) = true) (
            ifd ((!x19) = true) (
              ifd (((List.getD y16.1.1 (Int.toNat y16.1.2.2.1) 0) != 9) = true) (
                some (Sum.inl ((false, ()), ((y16.2.1.1, y16.2.1.2.1, ()), ())))) (
                ψ ((y16.1.1, (Go.IntKind.wrap .i64 (y16.1.2.1 + 1)), (Go.IntKind.wrap .i64 (y16.1.2.2.1 + 1)), ()), ((y16.2.1.1, y16.2.1.2.1, ()), ())))) (
              ψ ((y16.1.1, (Go.IntKind.wrap .i64 (y16.1.2.1 + 1)), (Go.IntKind.wrap .i64 (y16.1.2.2.1 + 1)), ()), ((y16.2.1.1, y16.2.1.2.1, ()), ())))) (
            none)) (
          ifd ((!x19) = true) (
            none) (
            ψ ((y16.1.1, (Go.IntKind.wrap .i64 (y16.1.2.1 + 1)), (Go.IntKind.wrap .i64 (y16.1.2.2.1 + 1)), ()), ((y16.2.1.1, y16.2.1.2.1, ()), ()))))) (
        none)))) (
    some (Sum.inr ((), ((d.2.1.1, d.2.1.2.1, ()), ()))))
noncomputable def law1_QuotedLines_L3 (pc : PC prog) (lp : LP) (d : law1_QuotedLines_L3_D) : Option law1_QuotedLines_L3_X := lp law1_QuotedLines_L3_D law1_QuotedLines_L3_X (law1_QuotedLines_L3_R pc lp) d
theorem law1_QuotedLines_L3_ap (E : AppE prog pcN pc lN lp) : ContR (fun N => law1_QuotedLines_L3_R (pcN N) (lN N)) (law1_QuotedLines_L3_R pc lp) := fun ψN ψ h d => by
  delta law1_QuotedLines_L3_R
  exact (Approx.ifd (Approx.bnd (law1_QuotedLines_C1_a E) (fun y16 => (Approx.ifd (Approx.bnd (law1_QuotedLines_C2_a E) (fun y17 => (Approx.ifd (Approx.const _) (h _)))) (Approx.ifd (Approx.bnd (Approx.bnd (ref1_In_ca E) fun x18 => (Approx.const _)) fun x19 => (Approx.ifd (Approx.ifd (Approx.ifd (Approx.ifd (Approx.const _) (h _)) (h _)) Approx.none) (Approx.ifd Approx.none (h _)))) Approx.none)))) (Approx.const _))
theorem law1_QuotedLines_L3_a (E : AppE prog pcN pc lN lp) {d : law1_QuotedLines_L3_D} : Approx (fun N => law1_QuotedLines_L3 (pcN N) (lN N) d) (law1_QuotedLines_L3 pc lp d) := E.loop (law1_QuotedLines_L3_ap E) d
theorem law1_QuotedLines_L3_of {d : law1_QuotedLines_L3_D} {x : law1_QuotedLines_L3_X} (h : law1_QuotedLines_L3_R (pcL prog cfg) lpL (law1_QuotedLines_L3 (pcL prog cfg) lpL) d = some x) : law1_QuotedLines_L3 (pcL prog cfg) lpL d = some x := lpL_step (law1_QuotedLines_L3_ap (appL prog cfg)) h

noncomputable def law1_QuotedLines_B (pc : PC prog) (lp : LP) (a0 : List Int) : Option Bool :=
  bnd (bnd (law1_quotedExample_c pc ) fun (x0 : Bool) =>
  some x0) fun (x1 : Bool) =>
  ifd ((!x1) = true) (
    some false) (
    bnd (bnd (quoted_Encode_c pc a0) fun (x2 : ((List Int) × ((Int × (Int × Unit)) × Unit))) =>
    some (x2.1, ((x2.2.1.1, (x2.2.1.2.1, ())), ()))) fun (x3 : ((List Int) × ((Int × (Int × Unit)) × Unit))) =>
    ifd ((x3.2.1.1 != 0) = true) (
      some ((((List.length x3.1) : Nat) : Int) == 0)) (
      bnd (law1_QuotedLines_L3 pc lp ((x3.1, 0, 0, ()), ((x3.2.1.1, x3.2.1.2.1, ()), ()))) (Sum.elim (fun (y20 : ((Bool × Unit) × ((Int × (Int × Unit)) × Unit))) =>
      some y20.1.1) (fun (y21 : (Unit × ((Int × (Int × Unit)) × Unit))) =>
      some true))))
theorem law1_QuotedLines_eq (a0 : List Int) (pc : PC prog) (lp : LP) : got law1_QuotedLines_t (pcall prog (runO prog cfg (hand prog cfg lp pc 6 tbl 5) pc 6) 7 [(.c (.slice .ro (.int .u8) a0))]) = law1_QuotedLines_B pc lp a0 := by kernel_rfl
theorem law1_QuotedLines_ap (E : AppE prog pcN pc lN lp) (a0 : List Int) : Approx (fun N => law1_QuotedLines_B (pcN N) (lN N) a0) (law1_QuotedLines_B pc lp a0) := by
  delta law1_QuotedLines_B
  exact (Approx.bnd (Approx.bnd (law1_quotedExample_ca E) fun x0 => (Approx.const _)) fun x1 => (Approx.ifd (Approx.const _) (Approx.bnd (Approx.bnd (quoted_Encode_ca E) fun x2 => (Approx.const _)) fun x3 => (Approx.ifd (Approx.const _) (Approx.bnd (law1_QuotedLines_L3_a E) (Approx.sum (fun y20 => (Approx.const _)) (fun y21 => (Approx.const _))))))))
theorem law1_QuotedLines_of {a0 : List Int} {y : Bool} (h : law1_QuotedLines_B (pcL prog cfg) lpL a0 = some y) : law1_QuotedLines_c (pcL prog cfg) a0 = some y := fn_of rfl (law1_QuotedLines_eq a0) (law1_QuotedLines_ap (appN prog cfg) a0) h

noncomputable def law1_quotedExample_B (pc : PC prog) (lp : LP)  : Option Bool :=
  bnd (bnd (quoted_Encode_c pc ([97, 61, 98, 32] : List Int)) fun (x0 : ((List Int) × ((Int × (Int × Unit)) × Unit))) =>
  some (x0.1, ((x0.2.1.1, (x0.2.1.2.1, ())), ()))) fun (x1 : ((List Int) × ((Int × (Int × Unit)) × Unit))) =>
  bnd (bnd (quoted_Decode_c pc ([97, 61, 51, 68, 98, 61, 50, 48] : List Int)) fun (x2 : ((List Int) × ((Int × (Int × Unit)) × Unit))) =>
  some (x2.1, ((x2.2.1.1, (x2.2.1.2.1, ())), ()))) fun (x3 : ((List Int) × ((Int × (Int × Unit)) × Unit))) =>
  bnd (bnd (quoted_Lenient_c pc ([97, 61, 51, 100, 61, 10, 98, 61, 122, 122] : List Int)) fun (x4 : ((List Int) × ((Int × (Int × Unit)) × Unit))) =>
  some (x4.1, ((x4.2.1.1, (x4.2.1.2.1, ())), ()))) fun (x5 : ((List Int) × ((Int × (Int × Unit)) × Unit))) =>
  ifd ((x1.2.1.1 == 0) = true) (
    ifd ((x1.2.1.1 == 0) = true) (
      ifd ((x3.2.1.1 == 0) = true) (
        ifd ((x3.2.1.1 == 0) = true) (
          ifd ((x5.2.1.1 == 0) = true) (
            ifd ((x5.2.1.1 == 0) = true) (
              ifd ((x1.1 == ([97, 61, 51, 68, 98, 61, 50, 48] : List Int)) = true) (
                ifd ((x1.1 == ([97, 61, 51, 68, 98, 61, 50, 48] : List Int)) = true) (
                  ifd ((x3.1 == ([97, 61, 98, 32] : List Int)) = true) (
                    ifd ((x3.1 == ([97, 61, 98, 32] : List Int)) = true) (
                      some (x5.1 == ([97, 61, 98, 61, 122, 122] : List Int))) (
                      some false)) (
                    ifd ((x3.1 == ([97, 61, 98, 32] : List Int)) = true) (
                      none) (
                      some false))) (
                  some false)) (
                ifd ((x1.1 == ([97, 61, 51, 68, 98, 61, 50, 48] : List Int)) = true) (
                  none) (
                  some false))) (
              some false)) (
            ifd ((x5.2.1.1 == 0) = true) (
              none) (
              some false))) (
          some false)) (
        ifd ((x3.2.1.1 == 0) = true) (
          none) (
          some false))) (
      some false)) (
    ifd ((x1.2.1.1 == 0) = true) (
      none) (
      some false))
theorem law1_quotedExample_eq  (pc : PC prog) (lp : LP) : got law1_quotedExample_t (pcall prog (runO prog cfg (hand prog cfg lp pc 6 tbl 5) pc 6) 8 []) = law1_quotedExample_B pc lp  := by kernel_rfl
theorem law1_quotedExample_ap (E : AppE prog pcN pc lN lp)  : Approx (fun N => law1_quotedExample_B (pcN N) (lN N) ) (law1_quotedExample_B pc lp ) := by
  delta law1_quotedExample_B
  exact (Approx.bnd (Approx.bnd (quoted_Encode_ca E) fun x0 => (Approx.const _)) fun x1 => (Approx.bnd (Approx.bnd (quoted_Decode_ca E) fun x2 => (Approx.const _)) fun x3 => (Approx.bnd (Approx.bnd (quoted_Lenient_ca E) fun x4 => (Approx.const _)) fun x5 => (Approx.ifd (Approx.ifd (Approx.ifd (Approx.ifd (Approx.ifd (Approx.ifd (Approx.ifd (Approx.ifd (Approx.ifd (Approx.ifd (Approx.const _) (Approx.const _)) (Approx.ifd Approx.none (Approx.const _))) (Approx.const _)) (Approx.ifd Approx.none (Approx.const _))) (Approx.const _)) (Approx.ifd Approx.none (Approx.const _))) (Approx.const _)) (Approx.ifd Approx.none (Approx.const _))) (Approx.const _)) (Approx.ifd Approx.none (Approx.const _))))))
theorem law1_quotedExample_of  {y : Bool} (h : law1_quotedExample_B (pcL prog cfg) lpL  = some y) : law1_quotedExample_c (pcL prog cfg)  = some y := fn_of rfl (law1_quotedExample_eq ) (law1_quotedExample_ap (appN prog cfg) ) h

noncomputable def quoted_Encode_B (pc : PC prog) (lp : LP) (a0 : List Int) : Option ((List Int) × ((Int × (Int × Unit)) × Unit)) :=
  ifd ((decide ((((List.length a0) : Nat) : Int) > 12000)) = true) (
    some (([] : List Int), ((1, ((-1), ())), ()))) (
    bnd (bnd (quoted_Bytes_c pc a0) fun (x0 : (List Int)) =>
    some x0) fun (x1 : (List Int)) =>
    some (x1, ((0, (0, ())), ())))
theorem quoted_Encode_eq (a0 : List Int) (pc : PC prog) (lp : LP) : got quoted_Encode_t (pcall prog (runO prog cfg (hand prog cfg lp pc 6 tbl 5) pc 6) 9 [(.c (.slice .ro (.int .u8) a0))]) = quoted_Encode_B pc lp a0 := by kernel_rfl
theorem quoted_Encode_ap (E : AppE prog pcN pc lN lp) (a0 : List Int) : Approx (fun N => quoted_Encode_B (pcN N) (lN N) a0) (quoted_Encode_B pc lp a0) := by
  delta quoted_Encode_B
  exact (Approx.ifd (Approx.const _) (Approx.bnd (Approx.bnd (quoted_Bytes_ca E) fun x0 => (Approx.const _)) fun x1 => (Approx.const _)))
theorem quoted_Encode_of {a0 : List Int} {y : ((List Int) × ((Int × (Int × Unit)) × Unit))} (h : quoted_Encode_B (pcL prog cfg) lpL a0 = some y) : quoted_Encode_c (pcL prog cfg) a0 = some y := fn_of rfl (quoted_Encode_eq a0) (quoted_Encode_ap (appN prog cfg) a0) h

noncomputable def ref1_At_B (pc : PC prog) (lp : LP) (a0 : Int) (a1 : Int) : Option (Int × (Int × Unit)) :=
  some (a0, (a1, ()))
theorem ref1_At_eq (a0 : Int) (a1 : Int) (pc : PC prog) (lp : LP) : got ref1_At_t (pcall prog (runO prog cfg (hand prog cfg lp pc 6 tbl 5) pc 6) 10 [(.c (.int .i64 a0)), (.c (.int .i64 a1))]) = ref1_At_B pc lp a0 a1 := by kernel_rfl
theorem ref1_At_ap (E : AppE prog pcN pc lN lp) (a0 : Int) (a1 : Int) : Approx (fun N => ref1_At_B (pcN N) (lN N) a0 a1) (ref1_At_B pc lp a0 a1) := by
  delta ref1_At_B
  exact (Approx.const _)
theorem ref1_At_of {a0 : Int} {a1 : Int} {y : (Int × (Int × Unit))} (h : ref1_At_B (pcL prog cfg) lpL a0 a1 = some y) : ref1_At_c (pcL prog cfg) a0 a1 = some y := fn_of rfl (ref1_At_eq a0 a1) (ref1_At_ap (appN prog cfg) a0 a1) h

-- ref1_Quoted, loop 3732
abbrev ref1_Quoted_L1_D := (((List Int) × ((List Int) × (Int × (Int × Unit)))) × Unit)
abbrev ref1_Quoted_L1_X := (((List Int) × ((List Int) × (Int × (Int × Unit)))) × Unit)
noncomputable def ref1_Quoted_L1_R (pc : PC prog) (lp : LP) (ψ : ref1_Quoted_L1_D → Option ref1_Quoted_L1_X) (d : ref1_Quoted_L1_D) : Option ref1_Quoted_L1_X :=
  ifd ((decide (d.1.2.2.2.1 < (((List.length d.1.1) : Nat) : Int))) = true) (
    bnd (bnd (ref1_Crlf_c pc d.1.1 d.1.2.2.2.1) fun (x4 : Bool) =>
    some x4) fun (x5 : Bool) =>
    ifd ((decide (d.1.2.2.2.1 < (((List.length d.1.1) : Nat) : Int))) = true) (
      ifd ((!x5) = true) (
        ψ ((d.1.1, d.1.2.1, d.1.2.2.1, (Go.IntKind.wrap .i64 (d.1.2.2.2.1 + 1)), ()), ())) (
        some ((d.1.1, d.1.2.1, d.1.2.2.1, d.1.2.2.2.1, ()), ()))) (
      some ((d.1.1, d.1.2.1, d.1.2.2.1, d.1.2.2.2.1, ()), ()))) (
    ifd ((decide (d.1.2.2.2.1 < (((List.length d.1.1) : Nat) : Int))) = true) (
      none) (
      some ((d.1.1, d.1.2.1, d.1.2.2.1, d.1.2.2.2.1, ()), ())))
noncomputable def ref1_Quoted_L1 (pc : PC prog) (lp : LP) (d : ref1_Quoted_L1_D) : Option ref1_Quoted_L1_X := lp ref1_Quoted_L1_D ref1_Quoted_L1_X (ref1_Quoted_L1_R pc lp) d
theorem ref1_Quoted_L1_ap (E : AppE prog pcN pc lN lp) : ContR (fun N => ref1_Quoted_L1_R (pcN N) (lN N)) (ref1_Quoted_L1_R pc lp) := fun ψN ψ h d => by
  delta ref1_Quoted_L1_R
  exact (Approx.ifd (Approx.bnd (Approx.bnd (ref1_Crlf_ca E) fun x4 => (Approx.const _)) fun x5 => (Approx.ifd (Approx.ifd (h _) (Approx.const _)) (Approx.const _))) (Approx.ifd Approx.none (Approx.const _)))
theorem ref1_Quoted_L1_a (E : AppE prog pcN pc lN lp) {d : ref1_Quoted_L1_D} : Approx (fun N => ref1_Quoted_L1 (pcN N) (lN N) d) (ref1_Quoted_L1 pc lp d) := E.loop (ref1_Quoted_L1_ap E) d
theorem ref1_Quoted_L1_of {d : ref1_Quoted_L1_D} {x : ref1_Quoted_L1_X} (h : ref1_Quoted_L1_R (pcL prog cfg) lpL (ref1_Quoted_L1 (pcL prog cfg) lpL) d = some x) : ref1_Quoted_L1 (pcL prog cfg) lpL d = some x := lpL_step (ref1_Quoted_L1_ap (appL prog cfg)) h

-- ref1_Quoted, part 1912649
abbrev ref1_Quoted_C2_D := (((List Int) × ((List Int) × (Int × ((List (List Int)) × (Int × (Int × (Int × Unit))))))) × Unit)
abbrev ref1_Quoted_C2_X := (((List Int) × ((List Int) × (Int × ((List (List Int)) × (Int × (Int × (Int × Unit))))))) × Unit)
noncomputable def ref1_Quoted_C2 (pc : PC prog) (lp : LP) (d : ref1_Quoted_C2_D) : Option ref1_Quoted_C2_X :=
  ifd (((Go.IntKind.wrap .i64 (d.1.2.2.2.2.2.1 + 1)) == (((List.length d.1.2.2.2.1) : Nat) : Int)) = true) (
    some ((d.1.1, d.1.2.1, d.1.2.2.1, d.1.2.2.2.1, d.1.2.2.2.2.1, d.1.2.2.2.2.2.1, 76, ()), ())) (
    some ((d.1.1, d.1.2.1, d.1.2.2.1, d.1.2.2.2.1, d.1.2.2.2.2.1, d.1.2.2.2.2.2.1, d.1.2.2.2.2.2.2.1, ()), ()))
theorem ref1_Quoted_C2_a (E : AppE prog pcN pc lN lp) {d : ref1_Quoted_C2_D} : Approx (fun N => ref1_Quoted_C2 (pcN N) (lN N) d) (ref1_Quoted_C2 pc lp d) := by
  delta ref1_Quoted_C2
  exact (Approx.ifd (Approx.const _) (Approx.const _))

-- ref1_Quoted, part 3825299
abbrev ref1_Quoted_C3_D := (((List Int) × ((List Int) × (Int × ((List (List Int)) × (Int × (Int × (Int × Unit))))))) × Unit)
abbrev ref1_Quoted_C3_X := (((List Int) × ((List Int) × (Int × ((List (List Int)) × (Int × (Int × Unit)))))) × Unit)
noncomputable def ref1_Quoted_C3 (pc : PC prog) (lp : LP) (d : ref1_Quoted_C3_D) : Option ref1_Quoted_C3_X :=
  ifd ((decide (((0 : Int) ≤ d.1.2.2.2.2.2.1) ∧ (d.1.2.2.2.2.2.1 < (((List.length d.1.2.2.2.1) : Nat) : Int)))) = true) (
    ifd ((decide ((Go.IntKind.wrap .i64 (d.1.2.2.2.2.1 + (((List.length (List.getD d.1.2.2.2.1 (Int.toNat d.1.2.2.2.2.2.1) ([] : List Int))) : Nat) : Int))) > d.1.2.2.2.2.2.2.1)) = true) (
      ifd ((decide (((List.length d.1.2.1) + (List.length ([61, 13, 10] : List Int))) ≤ 9223372036854775807)) = true) (
        some ((d.1.1, (d.1.2.1 ++ ([61, 13, 10] : List Int)), d.1.2.2.1, d.1.2.2.2.1, 0, d.1.2.2.2.2.2.1, ()), ())) (
        none)) (
      some ((d.1.1, d.1.2.1, d.1.2.2.1, d.1.2.2.2.1, d.1.2.2.2.2.1, d.1.2.2.2.2.2.1, ()), ()))) (
    none)
theorem ref1_Quoted_C3_a (E : AppE prog pcN pc lN lp) {d : ref1_Quoted_C3_D} : Approx (fun N => ref1_Quoted_C3 (pcN N) (lN N) d) (ref1_Quoted_C3 pc lp d) := by
  delta ref1_Quoted_C3
  exact (Approx.ifd (Approx.ifd (Approx.ifd (Approx.const _) Approx.none) (Approx.const _)) Approx.none)

-- ref1_Quoted, loop 59770
abbrev ref1_Quoted_L4_D := (((List Int) × ((List Int) × (Int × ((List (List Int)) × (Int × (Int × Unit)))))) × Unit)
abbrev ref1_Quoted_L4_X := (((List Int) × ((List Int) × (Int × Unit))) × Unit)
noncomputable def ref1_Quoted_L4_R (pc : PC prog) (lp : LP) (ψ : ref1_Quoted_L4_D → Option ref1_Quoted_L4_X) (d : ref1_Quoted_L4_D) : Option ref1_Quoted_L4_X :=
  ifd ((decide (d.1.2.2.2.2.2.1 < (((List.length d.1.2.2.2.1) : Nat) : Int))) = true) (
    bnd (ref1_Quoted_C2 pc lp ((d.1.1, d.1.2.1, d.1.2.2.1, d.1.2.2.2.1, d.1.2.2.2.2.1, d.1.2.2.2.2.2.1, 75, ()), ())) (fun (y11 : (((List Int) × ((List Int) × (Int × ((List (List Int)) × (Int × (Int × (Int × Unit))))))) × Unit)) =>
    bnd (ref1_Quoted_C3 pc lp ((y11.1.1, y11.1.2.1, y11.1.2.2.1, y11.1.2.2.2.1, y11.1.2.2.2.2.1, y11.1.2.2.2.2.2.1, y11.1.2.2.2.2.2.2.1, ()), ())) (fun (y12 : (((List Int) × ((List Int) × (Int × ((List (List Int)) × (Int × (Int × Unit)))))) × Unit)) =>
    ifd ((decide (((0 : Int) ≤ y12.1.2.2.2.2.2.1) ∧ (y12.1.2.2.2.2.2.1 < (((List.length y12.1.2.2.2.1) : Nat) : Int)))) = true) (
      ifd ((decide (((List.length y12.1.2.1) + (List.length (List.getD y12.1.2.2.2.1 (Int.toNat y12.1.2.2.2.2.2.1) ([] : List Int)))) ≤ 9223372036854775807)) = true) (
        ifd ((decide (((0 : Int) ≤ y12.1.2.2.2.2.2.1) ∧ (y12.1.2.2.2.2.2.1 < (((List.length y12.1.2.2.2.1) : Nat) : Int)))) = true) (
          ψ ((y12.1.1, (y12.1.2.1 ++ (List.getD y12.1.2.2.2.1 (Int.toNat y12.1.2.2.2.2.2.1) ([] : List Int))), y12.1.2.2.1, y12.1.2.2.2.1, (Go.IntKind.wrap .i64 (y12.1.2.2.2.2.1 + (((List.length (List.getD y12.1.2.2.2.1 (Int.toNat y12.1.2.2.2.2.2.1) ([] : List Int))) : Nat) : Int))), (Go.IntKind.wrap .i64 (y12.1.2.2.2.2.2.1 + 1)), ()), ())) (
          none)) (
        none)) (
      none)))) (
    some ((d.1.1, d.1.2.1, d.1.2.2.1, ()), ()))
noncomputable def ref1_Quoted_L4 (pc : PC prog) (lp : LP) (d : ref1_Quoted_L4_D) : Option ref1_Quoted_L4_X := lp ref1_Quoted_L4_D ref1_Quoted_L4_X (ref1_Quoted_L4_R pc lp) d
theorem ref1_Quoted_L4_ap (E : AppE prog pcN pc lN lp) : ContR (fun N => ref1_Quoted_L4_R (pcN N) (lN N)) (ref1_Quoted_L4_R pc lp) := fun ψN ψ h d => by
  delta ref1_Quoted_L4_R
  exact (Approx.ifd (Approx.bnd (ref1_Quoted_C2_a E) (fun y11 => (Approx.bnd (ref1_Quoted_C3_a E) (fun y12 => (Approx.ifd (Approx.ifd (Approx.ifd (h _) Approx.none) Approx.none) Approx.none))))) (Approx.const _))
theorem ref1_Quoted_L4_a (E : AppE prog pcN pc lN lp) {d : ref1_Quoted_L4_D} : Approx (fun N => ref1_Quoted_L4 (pcN N) (lN N) d) (ref1_Quoted_L4 pc lp d) := E.loop (ref1_Quoted_L4_ap E) d
theorem ref1_Quoted_L4_of {d : ref1_Quoted_L4_D} {x : ref1_Quoted_L4_X} (h : ref1_Quoted_L4_R (pcL prog cfg) lpL (ref1_Quoted_L4 (pcL prog cfg) lpL) d = some x) : ref1_Quoted_L4 (pcL prog cfg) lpL d = some x := lpL_step (ref1_Quoted_L4_ap (appL prog cfg)) h

-- ref1_Quoted, loop 58
abbrev ref1_Quoted_L5_D := (((List Int) × ((List Int) × (Int × Unit))) × Unit)
abbrev ref1_Quoted_L5_X := (((List Int) × Unit) × Unit)
noncomputable def ref1_Quoted_L5_R (pc : PC prog) (lp : LP) (ψ : ref1_Quoted_L5_D → Option ref1_Quoted_L5_X) (d : ref1_Quoted_L5_D) : Option ref1_Quoted_L5_X :=
  ifd ((decide (d.1.2.2.1 ≤ (((List.length d.1.1) : Nat) : Int))) = true) (
    bnd (ref1_Quoted_L1 pc lp ((d.1.1, d.1.2.1, d.1.2.2.1, d.1.2.2.1, ()), ())) (fun (y14 : (((List Int) × ((List Int) × (Int × (Int × Unit)))) × Unit)) =>
    ifd ((decide (((0 : Int) ≤ y14.1.2.2.1) ∧ ((y14.1.2.2.1 ≤ y14.1.2.2.2.1) ∧ (y14.1.2.2.2.1 ≤ (((List.length y14.1.1) : Nat) : Int))))) = true) (
      bnd (bnd (ref1_LineUnits_c pc (List.drop (Int.toNat y14.1.2.2.1) (List.take (Int.toNat y14.1.2.2.2.1) y14.1.1))) fun (x15 : (List (List Int))) =>
      some x15) fun (x16 : (List (List Int))) =>
      bnd (ref1_Quoted_L4 pc lp ((y14.1.1, y14.1.2.1, y14.1.2.2.2.1, x16, 0, 0, ()), ())) (fun (y17 : (((List Int) × ((List Int) × (Int × Unit))) × Unit)) =>
      ifd ((y17.1.2.2.1 == (((List.length y17.1.1) : Nat) : Int)) = true) (
        some ((y17.1.2.1, ()), ())) (
        ifd ((decide (((List.length y17.1.2.1) + (List.length ([13, 10] : List Int))) ≤ 9223372036854775807)) = true) (
          ψ ((y17.1.1, (y17.1.2.1 ++ ([13, 10] : List Int)), (Go.IntKind.wrap .i64 (y17.1.2.2.1 + 2)), ()), ())) (
          none)))) (
      none))) (
    some ((d.1.2.1, ()), ()))
noncomputable def ref1_Quoted_L5 (pc : PC prog) (lp : LP) (d : ref1_Quoted_L5_D) : Option ref1_Quoted_L5_X := lp ref1_Quoted_L5_D ref1_Quoted_L5_X (ref1_Quoted_L5_R pc lp) d
theorem ref1_Quoted_L5_ap (E : AppE prog pcN pc lN lp) : ContR (fun N => ref1_Quoted_L5_R (pcN N) (lN N)) (ref1_Quoted_L5_R pc lp) := fun ψN ψ h d => by
  delta ref1_Quoted_L5_R
  exact (Approx.ifd (Approx.bnd (ref1_Quoted_L1_a E) (fun y14 => (Approx.ifd (Approx.bnd (Approx.bnd (ref1_LineUnits_ca E) fun x15 => (Approx.const _)) fun x16 => (Approx.bnd (ref1_Quoted_L4_a E) (fun y17 => (Approx.ifd (Approx.const _) (Approx.ifd (h _) Approx.none))))) Approx.none))) (Approx.const _))
theorem ref1_Quoted_L5_a (E : AppE prog pcN pc lN lp) {d : ref1_Quoted_L5_D} : Approx (fun N => ref1_Quoted_L5 (pcN N) (lN N) d) (ref1_Quoted_L5 pc lp d) := E.loop (ref1_Quoted_L5_ap E) d
theorem ref1_Quoted_L5_of {d : ref1_Quoted_L5_D} {x : ref1_Quoted_L5_X} (h : ref1_Quoted_L5_R (pcL prog cfg) lpL (ref1_Quoted_L5 (pcL prog cfg) lpL) d = some x) : ref1_Quoted_L5 (pcL prog cfg) lpL d = some x := lpL_step (ref1_Quoted_L5_ap (appL prog cfg)) h

noncomputable def ref1_Quoted_B (pc : PC prog) (lp : LP) (a0 : List Int) : Option (List Int) :=
  bnd (ref1_Quoted_L5 pc lp ((a0, ([] : List Int), 0, ()), ())) (fun (y18 : (((List Int) × Unit) × Unit)) =>
  ifd ((decide ((List.length y18.1.1) ≤ 140737488355328)) = true) (
    some y18.1.1) (
    none))
theorem ref1_Quoted_eq (a0 : List Int) (pc : PC prog) (lp : LP) : got ref1_Quoted_t (pcall prog (runO prog cfg (hand prog cfg lp pc 6 tbl 5) pc 6) 12 [(.c (.slice .ro (.int .u8) a0))]) = ref1_Quoted_B pc lp a0 := by kernel_rfl
theorem ref1_Quoted_ap (E : AppE prog pcN pc lN lp) (a0 : List Int) : Approx (fun N => ref1_Quoted_B (pcN N) (lN N) a0) (ref1_Quoted_B pc lp a0) := by
  delta ref1_Quoted_B
  exact (Approx.bnd (ref1_Quoted_L5_a E) (fun y18 => (Approx.ifd (Approx.const _) Approx.none)))
theorem ref1_Quoted_of {a0 : List Int} {y : (List Int)} (h : ref1_Quoted_B (pcL prog cfg) lpL a0 = some y) : ref1_Quoted_c (pcL prog cfg) a0 = some y := fn_of rfl (ref1_Quoted_eq a0) (ref1_Quoted_ap (appN prog cfg) a0) h

noncomputable def ref1_Bytes_B (pc : PC prog) (lp : LP) (a0 : List Int) (a1 : List Int) : Option Bool :=
  some (a0 == a1)
theorem ref1_Bytes_eq (a0 : List Int) (a1 : List Int) (pc : PC prog) (lp : LP) : got ref1_Bytes_t (pcall prog (runO prog cfg (hand prog cfg lp pc 6 tbl 5) pc 6) 11 [(.c (.slice .ro (.int .u8) a0)), (.c (.slice .ro (.int .u8) a1))]) = ref1_Bytes_B pc lp a0 a1 := by kernel_rfl
theorem ref1_Bytes_ap (E : AppE prog pcN pc lN lp) (a0 : List Int) (a1 : List Int) : Approx (fun N => ref1_Bytes_B (pcN N) (lN N) a0 a1) (ref1_Bytes_B pc lp a0 a1) := by
  delta ref1_Bytes_B
  exact (Approx.const _)
theorem ref1_Bytes_of {a0 : List Int} {a1 : List Int} {y : Bool} (h : ref1_Bytes_B (pcL prog cfg) lpL a0 a1 = some y) : ref1_Bytes_c (pcL prog cfg) a0 a1 = some y := fn_of rfl (ref1_Bytes_eq a0 a1) (ref1_Bytes_ap (appN prog cfg) a0 a1) h

noncomputable def quoted_Lenient_B (pc : PC prog) (lp : LP) (a0 : List Int) : Option ((List Int) × ((Int × (Int × Unit)) × Unit)) :=
  ifd ((decide ((((List.length a0) : Nat) : Int) > 48000)) = true) (
    some (([] : List Int), ((1, ((-1), ())), ()))) (
    bnd (bnd (quoted_Loose_c pc a0) fun (x0 : (List Int)) =>
    some x0) fun (x1 : (List Int)) =>
    some (x1, ((0, (0, ())), ())))
theorem quoted_Lenient_eq (a0 : List Int) (pc : PC prog) (lp : LP) : got quoted_Lenient_t (pcall prog (runO prog cfg (hand prog cfg lp pc 6 tbl 5) pc 6) 13 [(.c (.slice .ro (.int .u8) a0))]) = quoted_Lenient_B pc lp a0 := by kernel_rfl
theorem quoted_Lenient_ap (E : AppE prog pcN pc lN lp) (a0 : List Int) : Approx (fun N => quoted_Lenient_B (pcN N) (lN N) a0) (quoted_Lenient_B pc lp a0) := by
  delta quoted_Lenient_B
  exact (Approx.ifd (Approx.const _) (Approx.bnd (Approx.bnd (quoted_Loose_ca E) fun x0 => (Approx.const _)) fun x1 => (Approx.const _)))
theorem quoted_Lenient_of {a0 : List Int} {y : ((List Int) × ((Int × (Int × Unit)) × Unit))} (h : quoted_Lenient_B (pcL prog cfg) lpL a0 = some y) : quoted_Lenient_c (pcL prog cfg) a0 = some y := fn_of rfl (quoted_Lenient_eq a0) (quoted_Lenient_ap (appN prog cfg) a0) h

-- ref1_LooseQuoted, loop 3732
abbrev ref1_LooseQuoted_L1_D := (((List Int) × (Unit × (Int × (Int × Unit)))) × Unit)
abbrev ref1_LooseQuoted_L1_X := (((List Int) × (Unit × (Int × (Int × Unit)))) × Unit)
noncomputable def ref1_LooseQuoted_L1_R (pc : PC prog) (lp : LP) (ψ : ref1_LooseQuoted_L1_D → Option ref1_LooseQuoted_L1_X) (d : ref1_LooseQuoted_L1_D) : Option ref1_LooseQuoted_L1_X :=
  ifd ((decide (d.1.2.2.2.1 < (((List.length d.1.1) : Nat) : Int))) = true) (
    ifd ((decide (((0 : Int) ≤ d.1.2.2.2.1) ∧ (d.1.2.2.2.1 < (((List.length d.1.1) : Nat) : Int)))) = true) (
      ifd ((decide (d.1.2.2.2.1 < (((List.length d.1.1) : Nat) : Int))) = true) (
        ifd (((List.getD d.1.1 (Int.toNat d.1.2.2.2.1) 0) != 10) = true) (
          ψ ((d.1.1, (), d.1.2.2.1, (Go.IntKind.wrap .i64 (d.1.2.2.2.1 + 1)), ()), ())) (
          some ((d.1.1, (), d.1.2.2.1, d.1.2.2.2.1, ()), ()))) (
        some ((d.1.1, (), d.1.2.2.1, d.1.2.2.2.1, ()), ()))) (
      none)) (
    ifd ((decide (d.1.2.2.2.1 < (((List.length d.1.1) : Nat) : Int))) = true) (
      none) (
      some ((d.1.1, (), d.1.2.2.1, d.1.2.2.2.1, ()), ())))
noncomputable def ref1_LooseQuoted_L1 (pc : PC prog) (lp : LP) (d : ref1_LooseQuoted_L1_D) : Option ref1_LooseQuoted_L1_X := lp ref1_LooseQuoted_L1_D ref1_LooseQuoted_L1_X (ref1_LooseQuoted_L1_R pc lp) d
theorem ref1_LooseQuoted_L1_ap (E : AppE prog pcN pc lN lp) : ContR (fun N => ref1_LooseQuoted_L1_R (pcN N) (lN N)) (ref1_LooseQuoted_L1_R pc lp) := fun ψN ψ h d => by
  delta ref1_LooseQuoted_L1_R
  exact (Approx.ifd (Approx.ifd (Approx.ifd (Approx.ifd (h _) (Approx.const _)) (Approx.const _)) Approx.none) (Approx.ifd Approx.none (Approx.const _)))
theorem ref1_LooseQuoted_L1_a (E : AppE prog pcN pc lN lp) {d : ref1_LooseQuoted_L1_D} : Approx (fun N => ref1_LooseQuoted_L1 (pcN N) (lN N) d) (ref1_LooseQuoted_L1 pc lp d) := E.loop (ref1_LooseQuoted_L1_ap E) d
theorem ref1_LooseQuoted_L1_of {d : ref1_LooseQuoted_L1_D} {x : ref1_LooseQuoted_L1_X} (h : ref1_LooseQuoted_L1_R (pcL prog cfg) lpL (ref1_LooseQuoted_L1 (pcL prog cfg) lpL) d = some x) : ref1_LooseQuoted_L1 (pcL prog cfg) lpL d = some x := lpL_step (ref1_LooseQuoted_L1_ap (appL prog cfg)) h

-- ref1_LooseQuoted, part 7470
abbrev ref1_LooseQuoted_C2_D := (((List Int) × (Unit × (Int × (Int × (Int × Unit))))) × Unit)
abbrev ref1_LooseQuoted_C2_X := (((List Int) × (Unit × (Int × (Int × (Int × (Bool × Unit)))))) × Unit)
noncomputable def ref1_LooseQuoted_C2 (pc : PC prog) (lp : LP) (d : ref1_LooseQuoted_C2_D) : Option ref1_LooseQuoted_C2_X :=
  ifd ((decide (d.1.2.2.2.1 < (((List.length d.1.1) : Nat) : Int))) = true) (
    ifd ((decide (d.1.2.2.2.1 < (((List.length d.1.1) : Nat) : Int))) = true) (
      ifd ((decide (d.1.2.2.2.2.1 > d.1.2.2.1)) = true) (
        ifd ((decide (((0 : Int) ≤ (Go.IntKind.wrap .i64 (d.1.2.2.2.2.1 - 1))) ∧ ((Go.IntKind.wrap .i64 (d.1.2.2.2.2.1 - 1)) < (((List.length d.1.1) : Nat) : Int)))) = true) (
          ifd ((decide (d.1.2.2.2.2.1 > d.1.2.2.1)) = true) (
            some ((d.1.1, (), d.1.2.2.1, d.1.2.2.2.1, d.1.2.2.2.2.1, ((List.getD d.1.1 (Int.toNat (Go.IntKind.wrap .i64 (d.1.2.2.2.2.1 - 1))) 0) == 13), ()), ())) (
            some ((d.1.1, (), d.1.2.2.1, d.1.2.2.2.1, d.1.2.2.2.2.1, false, ()), ()))) (
          none)) (
        ifd ((decide (d.1.2.2.2.2.1 > d.1.2.2.1)) = true) (
          none) (
          some ((d.1.1, (), d.1.2.2.1, d.1.2.2.2.1, d.1.2.2.2.2.1, false, ()), ())))) (
      some ((d.1.1, (), d.1.2.2.1, d.1.2.2.2.1, d.1.2.2.2.2.1, false, ()), ()))) (
    ifd ((decide (d.1.2.2.2.1 < (((List.length d.1.1) : Nat) : Int))) = true) (
      none) (
      some ((d.1.1, (), d.1.2.2.1, d.1.2.2.2.1, d.1.2.2.2.2.1, false, ()), ())))
theorem ref1_LooseQuoted_C2_a (E : AppE prog pcN pc lN lp) {d : ref1_LooseQuoted_C2_D} : Approx (fun N => ref1_LooseQuoted_C2 (pcN N) (lN N) d) (ref1_LooseQuoted_C2 pc lp d) := by
  delta ref1_LooseQuoted_C2
  exact (Approx.ifd (Approx.ifd (Approx.ifd (Approx.ifd (Approx.ifd (Approx.const _) (Approx.const _)) Approx.none) (Approx.ifd Approx.none (Approx.const _))) (Approx.const _)) (Approx.ifd Approx.none (Approx.const _)))

-- ref1_LooseQuoted, part 3735
abbrev ref1_LooseQuoted_C3_D := (((List Int) × (Unit × (Int × (Int × (Int × Unit))))) × Unit)
abbrev ref1_LooseQuoted_C3_X := (((List Int) × (Unit × (Int × (Int × (Int × Unit))))) × Unit)
noncomputable def ref1_LooseQuoted_C3 (pc : PC prog) (lp : LP) (d : ref1_LooseQuoted_C3_D) : Option ref1_LooseQuoted_C3_X :=
  bnd (ref1_LooseQuoted_C2 pc lp ((d.1.1, (), d.1.2.2.1, d.1.2.2.2.1, d.1.2.2.2.2.1, ()), ())) (fun (y2 : (((List Int) × (Unit × (Int × (Int × (Int × (Bool × Unit)))))) × Unit)) =>
  ifd (y2.1.2.2.2.2.2.1 = true) (
    some ((y2.1.1, (), y2.1.2.2.1, y2.1.2.2.2.1, (Go.IntKind.wrap .i64 (y2.1.2.2.2.2.1 - 1)), ()), ())) (
    some ((y2.1.1, (), y2.1.2.2.1, y2.1.2.2.2.1, y2.1.2.2.2.2.1, ()), ())))
theorem ref1_LooseQuoted_C3_a (E : AppE prog pcN pc lN lp) {d : ref1_LooseQuoted_C3_D} : Approx (fun N => ref1_LooseQuoted_C3 (pcN N) (lN N) d) (ref1_LooseQuoted_C3 pc lp d) := by
  delta ref1_LooseQuoted_C3
  exact (Approx.bnd (ref1_LooseQuoted_C2_a E) (fun y2 => (Approx.ifd (Approx.const _) (Approx.const _))))

-- ref1_LooseQuoted, loop 59772
abbrev ref1_LooseQuoted_L4_D := (((List Int) × (Unit × (Int × (Int × (Int × (Int × Unit)))))) × Unit)
abbrev ref1_LooseQuoted_L4_X := (((List Int) × (Unit × (Int × (Int × (Int × (Int × Unit)))))) × Unit)
noncomputable def ref1_LooseQuoted_L4_R (pc : PC prog) (lp : LP) (ψ : ref1_LooseQuoted_L4_D → Option ref1_LooseQuoted_L4_X) (d : ref1_LooseQuoted_L4_D) : Option ref1_LooseQuoted_L4_X :=
  ifd ((decide (d.1.2.2.2.2.2.1 > d.1.2.2.1)) = true) (
    ifd ((decide (((0 : Int) ≤ (Go.IntKind.wrap .i64 (d.1.2.2.2.2.2.1 - 1))) ∧ ((Go.IntKind.wrap .i64 (d.1.2.2.2.2.2.1 - 1)) < (((List.length d.1.1) : Nat) : Int)))) = true) (
      bnd (bnd (ref1_Blank_c pc (List.getD d.1.1 (Int.toNat (Go.IntKind.wrap .i64 (d.1.2.2.2.2.2.1 - 1))) 0)) fun (x8 : Bool) =>
      some x8) fun (x9 : Bool) =>
      ifd ((decide (d.1.2.2.2.2.2.1 > d.1.2.2.1)) = true) (
        ifd (x9 = true) (
          ψ ((d.1.1, (), d.1.2.2.1, d.1.2.2.2.1, d.1.2.2.2.2.1, (Go.IntKind.wrap .i64 (d.1.2.2.2.2.2.1 - 1)), ()), ())) (
          some ((d.1.1, (), d.1.2.2.1, d.1.2.2.2.1, d.1.2.2.2.2.1, d.1.2.2.2.2.2.1, ()), ()))) (
        some ((d.1.1, (), d.1.2.2.1, d.1.2.2.2.1, d.1.2.2.2.2.1, d.1.2.2.2.2.2.1, ()), ()))) (
      none)) (
    ifd ((decide (d.1.2.2.2.2.2.1 > d.1.2.2.1)) = true) (
      none) (
      some ((d.1.1, (), d.1.2.2.1, d.1.2.2.2.1, d.1.2.2.2.2.1, d.1.2.2.2.2.2.1, ()), ())))
noncomputable def ref1_LooseQuoted_L4 (pc : PC prog) (lp : LP) (d : ref1_LooseQuoted_L4_D) : Option ref1_LooseQuoted_L4_X := lp ref1_LooseQuoted_L4_D ref1_LooseQuoted_L4_X (ref1_LooseQuoted_L4_R pc lp) d
theorem ref1_LooseQuoted_L4_ap (E : AppE prog pcN pc lN lp) : ContR (fun N => ref1_LooseQuoted_L4_R (pcN N) (lN N)) (ref1_LooseQuoted_L4_R pc lp) := fun ψN ψ h d => by
  delta ref1_LooseQuoted_L4_R
  exact (Approx.ifd (Approx.ifd (Approx.bnd (Approx.bnd (ref1_Blank_ca E) fun x8 => (Approx.const _)) fun x9 => (Approx.ifd (Approx.ifd (h _) (Approx.const _)) (Approx.const _))) Approx.none) (Approx.ifd Approx.none (Approx.const _)))
theorem ref1_LooseQuoted_L4_a (E : AppE prog pcN pc lN lp) {d : ref1_LooseQuoted_L4_D} : Approx (fun N => ref1_LooseQuoted_L4 (pcN N) (lN N) d) (ref1_LooseQuoted_L4 pc lp d) := E.loop (ref1_LooseQuoted_L4_ap E) d
theorem ref1_LooseQuoted_L4_of {d : ref1_LooseQuoted_L4_D} {x : ref1_LooseQuoted_L4_X} (h : ref1_LooseQuoted_L4_R (pcL prog cfg) lpL (ref1_LooseQuoted_L4 (pcL prog cfg) lpL) d = some x) : ref1_LooseQuoted_L4 (pcL prog cfg) lpL d = some x := lpL_step (ref1_LooseQuoted_L4_ap (appL prog cfg)) h

-- ref1_LooseQuoted, part 29887
abbrev ref1_LooseQuoted_C5_D := (((List Int) × (Unit × (Int × (Int × (Int × (Int × Unit)))))) × Unit)
abbrev ref1_LooseQuoted_C5_X := (((List Int) × (Unit × (Int × (Int × (Int × (Int × (Bool × Unit))))))) × Unit)
noncomputable def ref1_LooseQuoted_C5 (pc : PC prog) (lp : LP) (d : ref1_LooseQuoted_C5_D) : Option ref1_LooseQuoted_C5_X :=
  ifd ((decide (d.1.2.2.2.2.2.1 > d.1.2.2.1)) = true) (
    ifd ((decide (((0 : Int) ≤ (Go.IntKind.wrap .i64 (d.1.2.2.2.2.2.1 - 1))) ∧ ((Go.IntKind.wrap .i64 (d.1.2.2.2.2.2.1 - 1)) < (((List.length d.1.1) : Nat) : Int)))) = true) (
      ifd ((decide (d.1.2.2.2.2.2.1 > d.1.2.2.1)) = true) (
        some ((d.1.1, (), d.1.2.2.1, d.1.2.2.2.1, d.1.2.2.2.2.1, d.1.2.2.2.2.2.1, ((List.getD d.1.1 (Int.toNat (Go.IntKind.wrap .i64 (d.1.2.2.2.2.2.1 - 1))) 0) == 61), ()), ())) (
        some ((d.1.1, (), d.1.2.2.1, d.1.2.2.2.1, d.1.2.2.2.2.1, d.1.2.2.2.2.2.1, false, ()), ()))) (
      none)) (
    ifd ((decide (d.1.2.2.2.2.2.1 > d.1.2.2.1)) = true) (
      none) (
      some ((d.1.1, (), d.1.2.2.1, d.1.2.2.2.1, d.1.2.2.2.2.1, d.1.2.2.2.2.2.1, false, ()), ())))
theorem ref1_LooseQuoted_C5_a (E : AppE prog pcN pc lN lp) {d : ref1_LooseQuoted_C5_D} : Approx (fun N => ref1_LooseQuoted_C5 (pcN N) (lN N) d) (ref1_LooseQuoted_C5 pc lp d) := by
  delta ref1_LooseQuoted_C5
  exact (Approx.ifd (Approx.ifd (Approx.ifd (Approx.const _) (Approx.const _)) Approx.none) (Approx.ifd Approx.none (Approx.const _)))

-- ref1_LooseQuoted, part 59775
abbrev ref1_LooseQuoted_C6_D := (((List Int) × (Unit × (Int × (Int × (Int × (Int × (Bool × Unit))))))) × Unit)
abbrev ref1_LooseQuoted_C6_X := (((List Int) × (Unit × (Int × (Int × (Int × (Int × (Bool × Unit))))))) × Unit)
noncomputable def ref1_LooseQuoted_C6 (pc : PC prog) (lp : LP) (d : ref1_LooseQuoted_C6_D) : Option ref1_LooseQuoted_C6_X :=
  ifd (d.1.2.2.2.2.2.2.1 = true) (
    some ((d.1.1, (), d.1.2.2.1, d.1.2.2.2.1, d.1.2.2.2.2.1, (Go.IntKind.wrap .i64 (d.1.2.2.2.2.2.1 - 1)), d.1.2.2.2.2.2.2.1, ()), ())) (
    some ((d.1.1, (), d.1.2.2.1, d.1.2.2.2.1, d.1.2.2.2.2.1, d.1.2.2.2.2.2.1, d.1.2.2.2.2.2.2.1, ()), ()))
theorem ref1_LooseQuoted_C6_a (E : AppE prog pcN pc lN lp) {d : ref1_LooseQuoted_C6_D} : Approx (fun N => ref1_LooseQuoted_C6 (pcN N) (lN N) d) (ref1_LooseQuoted_C6 pc lp d) := by
  delta ref1_LooseQuoted_C6
  exact (Approx.ifd (Approx.const _) (Approx.const _))

-- ref1_LooseQuoted, part 15302564
abbrev ref1_LooseQuoted_C7_D := (((List Int) × (Unit × (Int × (Int × (Int × (Bool × (Int × Unit))))))) × Unit)
abbrev ref1_LooseQuoted_C7_X := (((List Int) × (Unit × (Int × (Int × (Int × (Bool × (Int × (Bool × Unit)))))))) × Unit)
noncomputable def ref1_LooseQuoted_C7 (pc : PC prog) (lp : LP) (d : ref1_LooseQuoted_C7_D) : Option ref1_LooseQuoted_C7_X :=
  ifd ((decide (((0 : Int) ≤ d.1.2.2.2.2.2.2.1) ∧ (d.1.2.2.2.2.2.2.1 < (((List.length d.1.1) : Nat) : Int)))) = true) (
    ifd (((List.getD d.1.1 (Int.toNat d.1.2.2.2.2.2.2.1) 0) == 61) = true) (
      ifd (((List.getD d.1.1 (Int.toNat d.1.2.2.2.2.2.2.1) 0) == 61) = true) (
        ifd ((decide ((Go.IntKind.wrap .i64 (d.1.2.2.2.2.2.2.1 + 2)) < d.1.2.2.2.2.1)) = true) (
          ifd ((decide (((0 : Int) ≤ (Go.IntKind.wrap .i64 (d.1.2.2.2.2.2.2.1 + 1))) ∧ ((Go.IntKind.wrap .i64 (d.1.2.2.2.2.2.2.1 + 1)) < (((List.length d.1.1) : Nat) : Int)))) = true) (
            bnd (bnd (ref1_Hex_c pc (List.getD d.1.1 (Int.toNat (Go.IntKind.wrap .i64 (d.1.2.2.2.2.2.2.1 + 1))) 0)) fun (x21 : Int) =>
            some x21) fun (x22 : Int) =>
            ifd ((decide ((Go.IntKind.wrap .i64 (d.1.2.2.2.2.2.2.1 + 2)) < d.1.2.2.2.2.1)) = true) (
              ifd ((decide (x22 ≥ 0)) = true) (
                ifd ((decide (((0 : Int) ≤ (Go.IntKind.wrap .i64 (d.1.2.2.2.2.2.2.1 + 2))) ∧ ((Go.IntKind.wrap .i64 (d.1.2.2.2.2.2.2.1 + 2)) < (((List.length d.1.1) : Nat) : Int)))) = true) (
                  bnd (bnd (ref1_Hex_c pc (List.getD d.1.1 (Int.toNat (Go.IntKind.wrap .i64 (d.1.2.2.2.2.2.2.1 + 2))) 0)) fun (x23 : Int) =>
                  some x23) fun (x24 : Int) =>
                  ifd ((decide (x22 ≥ 0)) = true) (
                    some ((d.1.1, (), d.1.2.2.1, d.1.2.2.2.1, d.1.2.2.2.2.1, d.1.2.2.2.2.2.1, d.1.2.2.2.2.2.2.1, (decide (x24 ≥ 0)), ()), ())) (
                    some ((d.1.1, (), d.1.2.2.1, d.1.2.2.2.1, d.1.2.2.2.2.1, d.1.2.2.2.2.2.1, d.1.2.2.2.2.2.2.1, false, ()), ()))) (
                  none)) (
                ifd ((decide (x22 ≥ 0)) = true) (
                  none) (
                  some ((d.1.1, (), d.1.2.2.1, d.1.2.2.2.1, d.1.2.2.2.2.1, d.1.2.2.2.2.2.1, d.1.2.2.2.2.2.2.1, false, ()), ())))) (
              some ((d.1.1, (), d.1.2.2.1, d.1.2.2.2.1, d.1.2.2.2.2.1, d.1.2.2.2.2.2.1, d.1.2.2.2.2.2.2.1, false, ()), ()))) (
            none)) (
          ifd ((decide ((Go.IntKind.wrap .i64 (d.1.2.2.2.2.2.2.1 + 2)) < d.1.2.2.2.2.1)) = true) (
            none) (
            some ((d.1.1, (), d.1.2.2.1, d.1.2.2.2.1, d.1.2.2.2.2.1, d.1.2.2.2.2.2.1, d.1.2.2.2.2.2.2.1, false, ()), ())))) (
        some ((d.1.1, (), d.1.2.2.1, d.1.2.2.2.1, d.1.2.2.2.2.1, d.1.2.2.2.2.2.1, d.1.2.2.2.2.2.2.1, false, ()), ()))) (
      ifd (((List.getD d.1.1 (Int.toNat d.1.2.2.2.2.2.2.1) 0) == 61) = true) (
        none) (
        some ((d.1.1, (), d.1.2.2.1, d.1.2.2.2.1, d.1.2.2.2.2.1, d.1.2.2.2.2.2.1, d.1.2.2.2.2.2.2.1, false, ()), ())))) (
    none)
theorem ref1_LooseQuoted_C7_a (E : AppE prog pcN pc lN lp) {d : ref1_LooseQuoted_C7_D} : Approx (fun N => ref1_LooseQuoted_C7 (pcN N) (lN N) d) (ref1_LooseQuoted_C7 pc lp d) := by
  delta ref1_LooseQuoted_C7
  exact (Approx.ifd (Approx.ifd (Approx.ifd (Approx.ifd (Approx.ifd (Approx.bnd (Approx.bnd (ref1_Hex_ca E) fun x21 => (Approx.const _)) fun x22 => (Approx.ifd (Approx.ifd (Approx.ifd (Approx.bnd (Approx.bnd (ref1_Hex_ca E) fun x23 => (Approx.const _)) fun x24 => (Approx.ifd (Approx.const _) (Approx.const _))) Approx.none) (Approx.ifd Approx.none (Approx.const _))) (Approx.const _))) Approx.none) (Approx.ifd Approx.none (Approx.const _))) (Approx.const _)) (Approx.ifd Approx.none (Approx.const _))) Approx.none)

-- ref1_LooseQuoted, part 15302564
abbrev ref1_LooseQuoted_C8_D := (((List Int) × ((List Int) × (Int × (Int × (Int × (Bool × (Int × Unit))))))) × Unit)
abbrev ref1_LooseQuoted_C8_X := (((List Int) × ((List Int) × (Int × (Int × (Int × (Bool × (Int × (Bool × Unit)))))))) × Unit)
noncomputable def ref1_LooseQuoted_C8 (pc : PC prog) (lp : LP) (d : ref1_LooseQuoted_C8_D) : Option ref1_LooseQuoted_C8_X :=
  ifd ((decide (((0 : Int) ≤ d.1.2.2.2.2.2.2.1) ∧ (d.1.2.2.2.2.2.2.1 < (((List.length d.1.1) : Nat) : Int)))) = true) (
    ifd (((List.getD d.1.1 (Int.toNat d.1.2.2.2.2.2.2.1) 0) == 61) = true) (
      ifd (((List.getD d.1.1 (Int.toNat d.1.2.2.2.2.2.2.1) 0) == 61) = true) (
        ifd ((decide ((Go.IntKind.wrap .i64 (d.1.2.2.2.2.2.2.1 + 2)) < d.1.2.2.2.2.1)) = true) (
          ifd ((decide (((0 : Int) ≤ (Go.IntKind.wrap .i64 (d.1.2.2.2.2.2.2.1 + 1))) ∧ ((Go.IntKind.wrap .i64 (d.1.2.2.2.2.2.2.1 + 1)) < (((List.length d.1.1) : Nat) : Int)))) = true) (
            bnd (bnd (ref1_Hex_c pc (List.getD d.1.1 (Int.toNat (Go.IntKind.wrap .i64 (d.1.2.2.2.2.2.2.1 + 1))) 0)) fun (x34 : Int) =>
            some x34) fun (x35 : Int) =>
            ifd ((decide ((Go.IntKind.wrap .i64 (d.1.2.2.2.2.2.2.1 + 2)) < d.1.2.2.2.2.1)) = true) (
              ifd ((decide (x35 ≥ 0)) = true) (
                ifd ((decide (((0 : Int) ≤ (Go.IntKind.wrap .i64 (d.1.2.2.2.2.2.2.1 + 2))) ∧ ((Go.IntKind.wrap .i64 (d.1.2.2.2.2.2.2.1 + 2)) < (((List.length d.1.1) : Nat) : Int)))) = true) (
                  bnd (bnd (ref1_Hex_c pc (List.getD d.1.1 (Int.toNat (Go.IntKind.wrap .i64 (d.1.2.2.2.2.2.2.1 + 2))) 0)) fun (x36 : Int) =>
                  some x36) fun (x37 : Int) =>
                  ifd ((decide (x35 ≥ 0)) = true) (
                    some ((d.1.1, d.1.2.1, d.1.2.2.1, d.1.2.2.2.1, d.1.2.2.2.2.1, d.1.2.2.2.2.2.1, d.1.2.2.2.2.2.2.1, (decide (x37 ≥ 0)), ()), ())) (
                    some ((d.1.1, d.1.2.1, d.1.2.2.1, d.1.2.2.2.1, d.1.2.2.2.2.1, d.1.2.2.2.2.2.1, d.1.2.2.2.2.2.2.1, false, ()), ()))) (
                  none)) (
                ifd ((decide (x35 ≥ 0)) = true) (
                  none) (
                  some ((d.1.1, d.1.2.1, d.1.2.2.1, d.1.2.2.2.1, d.1.2.2.2.2.1, d.1.2.2.2.2.2.1, d.1.2.2.2.2.2.2.1, false, ()), ())))) (
              some ((d.1.1, d.1.2.1, d.1.2.2.1, d.1.2.2.2.1, d.1.2.2.2.2.1, d.1.2.2.2.2.2.1, d.1.2.2.2.2.2.2.1, false, ()), ()))) (
            none)) (
          ifd ((decide ((Go.IntKind.wrap .i64 (d.1.2.2.2.2.2.2.1 + 2)) < d.1.2.2.2.2.1)) = true) (
            none) (
            some ((d.1.1, d.1.2.1, d.1.2.2.1, d.1.2.2.2.1, d.1.2.2.2.2.1, d.1.2.2.2.2.2.1, d.1.2.2.2.2.2.2.1, false, ()), ())))) (
        some ((d.1.1, d.1.2.1, d.1.2.2.1, d.1.2.2.2.1, d.1.2.2.2.2.1, d.1.2.2.2.2.2.1, d.1.2.2.2.2.2.2.1, false, ()), ()))) (
      ifd (((List.getD d.1.1 (Int.toNat d.1.2.2.2.2.2.2.1) 0) == 61) = true) (
        none) (
        some ((d.1.1, d.1.2.1, d.1.2.2.1, d.1.2.2.2.1, d.1.2.2.2.2.1, d.1.2.2.2.2.2.1, d.1.2.2.2.2.2.2.1, false, ()), ())))) (
    none)
theorem ref1_LooseQuoted_C8_a (E : AppE prog pcN pc lN lp) {d : ref1_LooseQuoted_C8_D} : Approx (fun N => ref1_LooseQuoted_C8 (pcN N) (lN N) d) (ref1_LooseQuoted_C8 pc lp d) := by
  delta ref1_LooseQuoted_C8
  exact (Approx.ifd (Approx.ifd (Approx.ifd (Approx.ifd (Approx.ifd (Approx.bnd (Approx.bnd (ref1_Hex_ca E) fun x34 => (Approx.const _)) fun x35 => (Approx.ifd (Approx.ifd (Approx.ifd (Approx.bnd (Approx.bnd (ref1_Hex_ca E) fun x36 => (Approx.const _)) fun x37 => (Approx.ifd (Approx.const _) (Approx.const _))) Approx.none) (Approx.ifd Approx.none (Approx.const _))) (Approx.const _))) Approx.none) (Approx.ifd Approx.none (Approx.const _))) (Approx.const _)) (Approx.ifd Approx.none (Approx.const _))) Approx.none)

-- ref1_LooseQuoted, loop 956410
abbrev ref1_LooseQuoted_L9_D := (((List Int) × ((List Int) × (Int × (Int × (Int × (Bool × (Int × Unit))))))) × Unit)
abbrev ref1_LooseQuoted_L9_X := (((List Int) × ((List Int) × (Int × (Int × (Bool × Unit))))) × Unit)
noncomputable def ref1_LooseQuoted_L9_R (pc : PC prog) (lp : LP) (ψ : ref1_LooseQuoted_L9_D → Option ref1_LooseQuoted_L9_X) (d : ref1_LooseQuoted_L9_D) : Option ref1_LooseQuoted_L9_X :=
  ifd ((decide (d.1.2.2.2.2.2.2.1 < d.1.2.2.2.2.1)) = true) (
    bnd (ref1_LooseQuoted_C8 pc lp ((d.1.1, d.1.2.1, d.1.2.2.1, d.1.2.2.2.1, d.1.2.2.2.2.1, d.1.2.2.2.2.2.1, d.1.2.2.2.2.2.2.1, ()), ())) (fun (y48 : (((List Int) × ((List Int) × (Int × (Int × (Int × (Bool × (Int × (Bool × Unit)))))))) × Unit)) =>
    ifd (y48.1.2.2.2.2.2.2.2.1 = true) (
      ifd ((decide (((0 : Int) ≤ (Go.IntKind.wrap .i64 (y48.1.2.2.2.2.2.2.1 + 1))) ∧ ((Go.IntKind.wrap .i64 (y48.1.2.2.2.2.2.2.1 + 1)) < (((List.length y48.1.1) : Nat) : Int)))) = true) (
        bnd (bnd (ref1_Hex_c pc (List.getD y48.1.1 (Int.toNat (Go.IntKind.wrap .i64 (y48.1.2.2.2.2.2.2.1 + 1))) 0)) fun (x49 : Int) =>
        some x49) fun (x50 : Int) =>
        ifd ((decide (((0 : Int) ≤ (Go.IntKind.wrap .i64 (y48.1.2.2.2.2.2.2.1 + 2))) ∧ ((Go.IntKind.wrap .i64 (y48.1.2.2.2.2.2.2.1 + 2)) < (((List.length y48.1.1) : Nat) : Int)))) = true) (
          bnd (bnd (ref1_Hex_c pc (List.getD y48.1.1 (Int.toNat (Go.IntKind.wrap .i64 (y48.1.2.2.2.2.2.2.1 + 2))) 0)) fun (x51 : Int) =>
          some x51) fun (x52 : Int) =>
          ifd ((decide ((((List.length y48.1.2.1) + (List.length ([(Go.IntKind.wrap .u8 (Go.IntKind.wrap .i64 ((Go.IntKind.wrap .i64 (16 * x50)) + x52)))] : List Int))) * 1) ≤ 140737488355328)) = true) (
            ψ ((y48.1.1, (y48.1.2.1 ++ ([(Go.IntKind.wrap .u8 (Go.IntKind.wrap .i64 ((Go.IntKind.wrap .i64 (16 * x50)) + x52)))] : List Int)), y48.1.2.2.1, y48.1.2.2.2.1, y48.1.2.2.2.2.1, y48.1.2.2.2.2.2.1, (Go.IntKind.wrap .i64 ((Go.IntKind.wrap .i64 (y48.1.2.2.2.2.2.2.1 + 2)) + 1)), ()), ())) (
            none)) (
          none)) (
        none)) (
      ifd ((decide (((0 : Int) ≤ y48.1.2.2.2.2.2.2.1) ∧ (y48.1.2.2.2.2.2.2.1 < (((List.length y48.1.1) : Nat) : Int)))) = true) (
        ifd ((decide ((((List.length y48.1.2.1) + (List.length ([(List.getD y48.1.1 (Int.toNat y48.1.2.2.2.2.2.2.1) 0)] : List Int))) * 1) ≤ 140737488355328)) = true) (
          ψ ((y48.1.1, (y48.1.2.1 ++ ([(List.getD y48.1.1 (Int.toNat y48.1.2.2.2.2.2.2.1) 0)] : List Int)), y48.1.2.2.1, y48.1.2.2.2.1, y48.1.2.2.2.2.1, y48.1.2.2.2.2.2.1, (Go.IntKind.wrap .i64 (y48.1.2.2.2.2.2.2.1 + 1)), ()), ())) (
          none)) (
        none)))) (
    some ((d.1.1, d.1.2.1, d.1.2.2.1, d.1.2.2.2.1, d.1.2.2.2.2.2.1, ()), ()))
noncomputable def ref1_LooseQuoted_L9 (pc : PC prog) (lp : LP) (d : ref1_LooseQuoted_L9_D) : Option ref1_LooseQuoted_L9_X := lp ref1_LooseQuoted_L9_D ref1_LooseQuoted_L9_X (ref1_LooseQuoted_L9_R pc lp) d
theorem ref1_LooseQuoted_L9_ap (E : AppE prog pcN pc lN lp) : ContR (fun N => ref1_LooseQuoted_L9_R (pcN N) (lN N)) (ref1_LooseQuoted_L9_R pc lp) := fun ψN ψ h d => by
  delta ref1_LooseQuoted_L9_R
  exact (Approx.ifd (Approx.bnd (ref1_LooseQuoted_C8_a E) (fun y48 => (Approx.ifd (Approx.ifd (Approx.bnd (Approx.bnd (ref1_Hex_ca E) fun x49 => (Approx.const _)) fun x50 => (Approx.ifd (Approx.bnd (Approx.bnd (ref1_Hex_ca E) fun x51 => (Approx.const _)) fun x52 => (Approx.ifd (h _) Approx.none)) Approx.none)) Approx.none) (Approx.ifd (Approx.ifd (h _) Approx.none) Approx.none)))) (Approx.const _))
theorem ref1_LooseQuoted_L9_a (E : AppE prog pcN pc lN lp) {d : ref1_LooseQuoted_L9_D} : Approx (fun N => ref1_LooseQuoted_L9 (pcN N) (lN N) d) (ref1_LooseQuoted_L9 pc lp d) := E.loop (ref1_LooseQuoted_L9_ap E) d
theorem ref1_LooseQuoted_L9_of {d : ref1_LooseQuoted_L9_D} {x : ref1_LooseQuoted_L9_X} (h : ref1_LooseQuoted_L9_R (pcL prog cfg) lpL (ref1_LooseQuoted_L9 (pcL prog cfg) lpL) d = some x) : ref1_LooseQuoted_L9 (pcL prog cfg) lpL d = some x := lpL_step (ref1_LooseQuoted_L9_ap (appL prog cfg)) h

-- ref1_LooseQuoted, loop 3732
abbrev ref1_LooseQuoted_L10_D := (((List Int) × ((List Int) × (Int × (Int × Unit)))) × Unit)
abbrev ref1_LooseQuoted_L10_X := (((List Int) × ((List Int) × (Int × (Int × Unit)))) × Unit)
noncomputable def ref1_LooseQuoted_L10_R (pc : PC prog) (lp : LP) (ψ : ref1_LooseQuoted_L10_D → Option ref1_LooseQuoted_L10_X) (d : ref1_LooseQuoted_L10_D) : Option ref1_LooseQuoted_L10_X :=
  ifd ((decide (d.1.2.2.2.1 < (((List.length d.1.1) : Nat) : Int))) = true) (
    ifd ((decide (((0 : Int) ≤ d.1.2.2.2.1) ∧ (d.1.2.2.2.1 < (((List.length d.1.1) : Nat) : Int)))) = true) (
      ifd ((decide (d.1.2.2.2.1 < (((List.length d.1.1) : Nat) : Int))) = true) (
        ifd (((List.getD d.1.1 (Int.toNat d.1.2.2.2.1) 0) != 10) = true) (
          ψ ((d.1.1, d.1.2.1, d.1.2.2.1, (Go.IntKind.wrap .i64 (d.1.2.2.2.1 + 1)), ()), ())) (
          some ((d.1.1, d.1.2.1, d.1.2.2.1, d.1.2.2.2.1, ()), ()))) (
        some ((d.1.1, d.1.2.1, d.1.2.2.1, d.1.2.2.2.1, ()), ()))) (
      none)) (
    ifd ((decide (d.1.2.2.2.1 < (((List.length d.1.1) : Nat) : Int))) = true) (
      none) (
      some ((d.1.1, d.1.2.1, d.1.2.2.1, d.1.2.2.2.1, ()), ())))
noncomputable def ref1_LooseQuoted_L10 (pc : PC prog) (lp : LP) (d : ref1_LooseQuoted_L10_D) : Option ref1_LooseQuoted_L10_X := lp ref1_LooseQuoted_L10_D ref1_LooseQuoted_L10_X (ref1_LooseQuoted_L10_R pc lp) d
theorem ref1_LooseQuoted_L10_ap (E : AppE prog pcN pc lN lp) : ContR (fun N => ref1_LooseQuoted_L10_R (pcN N) (lN N)) (ref1_LooseQuoted_L10_R pc lp) := fun ψN ψ h d => by
  delta ref1_LooseQuoted_L10_R
  exact (Approx.ifd (Approx.ifd (Approx.ifd (Approx.ifd (h _) (Approx.const _)) (Approx.const _)) Approx.none) (Approx.ifd Approx.none (Approx.const _)))
theorem ref1_LooseQuoted_L10_a (E : AppE prog pcN pc lN lp) {d : ref1_LooseQuoted_L10_D} : Approx (fun N => ref1_LooseQuoted_L10 (pcN N) (lN N) d) (ref1_LooseQuoted_L10 pc lp d) := E.loop (ref1_LooseQuoted_L10_ap E) d
theorem ref1_LooseQuoted_L10_of {d : ref1_LooseQuoted_L10_D} {x : ref1_LooseQuoted_L10_X} (h : ref1_LooseQuoted_L10_R (pcL prog cfg) lpL (ref1_LooseQuoted_L10 (pcL prog cfg) lpL) d = some x) : ref1_LooseQuoted_L10 (pcL prog cfg) lpL d = some x := lpL_step (ref1_LooseQuoted_L10_ap (appL prog cfg)) h

-- ref1_LooseQuoted, part 7470
abbrev ref1_LooseQuoted_C11_D := (((List Int) × ((List Int) × (Int × (Int × (Int × Unit))))) × Unit)
abbrev ref1_LooseQuoted_C11_X := (((List Int) × ((List Int) × (Int × (Int × (Int × (Bool × Unit)))))) × Unit)
noncomputable def ref1_LooseQuoted_C11 (pc : PC prog) (lp : LP) (d : ref1_LooseQuoted_C11_D) : Option ref1_LooseQuoted_C11_X :=
  ifd ((decide (d.1.2.2.2.1 < (((List.length d.1.1) : Nat) : Int))) = true) (
    ifd ((decide (d.1.2.2.2.1 < (((List.length d.1.1) : Nat) : Int))) = true) (
      ifd ((decide (d.1.2.2.2.2.1 > d.1.2.2.1)) = true) (
        ifd ((decide (((0 : Int) ≤ (Go.IntKind.wrap .i64 (d.1.2.2.2.2.1 - 1))) ∧ ((Go.IntKind.wrap .i64 (d.1.2.2.2.2.1 - 1)) < (((List.length d.1.1) : Nat) : Int)))) = true) (
          ifd ((decide (d.1.2.2.2.2.1 > d.1.2.2.1)) = true) (
            some ((d.1.1, d.1.2.1, d.1.2.2.1, d.1.2.2.2.1, d.1.2.2.2.2.1, ((List.getD d.1.1 (Int.toNat (Go.IntKind.wrap .i64 (d.1.2.2.2.2.1 - 1))) 0) == 13), ()), ())) (
            some ((d.1.1, d.1.2.1, d.1.2.2.1, d.1.2.2.2.1, d.1.2.2.2.2.1, false, ()), ()))) (
          none)) (
        ifd ((decide (d.1.2.2.2.2.1 > d.1.2.2.1)) = true) (
          none) (
          some ((d.1.1, d.1.2.1, d.1.2.2.1, d.1.2.2.2.1, d.1.2.2.2.2.1, false, ()), ())))) (
      some ((d.1.1, d.1.2.1, d.1.2.2.1, d.1.2.2.2.1, d.1.2.2.2.2.1, false, ()), ()))) (
    ifd ((decide (d.1.2.2.2.1 < (((List.length d.1.1) : Nat) : Int))) = true) (
      none) (
      some ((d.1.1, d.1.2.1, d.1.2.2.1, d.1.2.2.2.1, d.1.2.2.2.2.1, false, ()), ())))
theorem ref1_LooseQuoted_C11_a (E : AppE prog pcN pc lN lp) {d : ref1_LooseQuoted_C11_D} : Approx (fun N => ref1_LooseQuoted_C11 (pcN N) (lN N) d) (ref1_LooseQuoted_C11 pc lp d) := by
  delta ref1_LooseQuoted_C11
  exact (Approx.ifd (Approx.ifd (Approx.ifd (Approx.ifd (Approx.ifd (Approx.const _) (Approx.const _)) Approx.none) (Approx.ifd Approx.none (Approx.const _))) (Approx.const _)) (Approx.ifd Approx.none (Approx.const _)))

-- ref1_LooseQuoted, part 3735
abbrev ref1_LooseQuoted_C12_D := (((List Int) × ((List Int) × (Int × (Int × (Int × Unit))))) × Unit)
abbrev ref1_LooseQuoted_C12_X := (((List Int) × ((List Int) × (Int × (Int × (Int × Unit))))) × Unit)
noncomputable def ref1_LooseQuoted_C12 (pc : PC prog) (lp : LP) (d : ref1_LooseQuoted_C12_D) : Option ref1_LooseQuoted_C12_X :=
  bnd (ref1_LooseQuoted_C11 pc lp ((d.1.1, d.1.2.1, d.1.2.2.1, d.1.2.2.2.1, d.1.2.2.2.2.1, ()), ())) (fun (y56 : (((List Int) × ((List Int) × (Int × (Int × (Int × (Bool × Unit)))))) × Unit)) =>
  ifd (y56.1.2.2.2.2.2.1 = true) (
    some ((y56.1.1, y56.1.2.1, y56.1.2.2.1, y56.1.2.2.2.1, (Go.IntKind.wrap .i64 (y56.1.2.2.2.2.1 - 1)), ()), ())) (
    some ((y56.1.1, y56.1.2.1, y56.1.2.2.1, y56.1.2.2.2.1, y56.1.2.2.2.2.1, ()), ())))
theorem ref1_LooseQuoted_C12_a (E : AppE prog pcN pc lN lp) {d : ref1_LooseQuoted_C12_D} : Approx (fun N => ref1_LooseQuoted_C12 (pcN N) (lN N) d) (ref1_LooseQuoted_C12 pc lp d) := by
  delta ref1_LooseQuoted_C12
  exact (Approx.bnd (ref1_LooseQuoted_C11_a E) (fun y56 => (Approx.ifd (Approx.const _) (Approx.const _))))

-- ref1_LooseQuoted, loop 59772
abbrev ref1_LooseQuoted_L13_D := (((List Int) × ((List Int) × (Int × (Int × (Int × (Int × Unit)))))) × Unit)
abbrev ref1_LooseQuoted_L13_X := (((List Int) × ((List Int) × (Int × (Int × (Int × (Int × Unit)))))) × Unit)
noncomputable def ref1_LooseQuoted_L13_R (pc : PC prog) (lp : LP) (ψ : ref1_LooseQuoted_L13_D → Option ref1_LooseQuoted_L13_X) (d : ref1_LooseQuoted_L13_D) : Option ref1_LooseQuoted_L13_X :=
  ifd ((decide (d.1.2.2.2.2.2.1 > d.1.2.2.1)) = true) (
    ifd ((decide (((0 : Int) ≤ (Go.IntKind.wrap .i64 (d.1.2.2.2.2.2.1 - 1))) ∧ ((Go.IntKind.wrap .i64 (d.1.2.2.2.2.2.1 - 1)) < (((List.length d.1.1) : Nat) : Int)))) = true) (
      bnd (bnd (ref1_Blank_c pc (List.getD d.1.1 (Int.toNat (Go.IntKind.wrap .i64 (d.1.2.2.2.2.2.1 - 1))) 0)) fun (x60 : Bool) =>
      some x60) fun (x61 : Bool) =>
      ifd ((decide (d.1.2.2.2.2.2.1 > d.1.2.2.1)) = true) (
        ifd (x61 = true) (
          ψ ((d.1.1, d.1.2.1, d.1.2.2.1, d.1.2.2.2.1, d.1.2.2.2.2.1, (Go.IntKind.wrap .i64 (d.1.2.2.2.2.2.1 - 1)), ()), ())) (
          some ((d.1.1, d.1.2.1, d.1.2.2.1, d.1.2.2.2.1, d.1.2.2.2.2.1, d.1.2.2.2.2.2.1, ()), ()))) (
        some ((d.1.1, d.1.2.1, d.1.2.2.1, d.1.2.2.2.1, d.1.2.2.2.2.1, d.1.2.2.2.2.2.1, ()), ()))) (
      none)) (
    ifd ((decide (d.1.2.2.2.2.2.1 > d.1.2.2.1)) = true) (
      none) (
      some ((d.1.1, d.1.2.1, d.1.2.2.1, d.1.2.2.2.1, d.1.2.2.2.2.1, d.1.2.2.2.2.2.1, ()), ())))
noncomputable def ref1_LooseQuoted_L13 (pc : PC prog) (lp : LP) (d : ref1_LooseQuoted_L13_D) : Option ref1_LooseQuoted_L13_X := lp ref1_LooseQuoted_L13_D ref1_LooseQuoted_L13_X (ref1_LooseQuoted_L13_R pc lp) d
theorem ref1_LooseQuoted_L13_ap (E : AppE prog pcN pc lN lp) : ContR (fun N => ref1_LooseQuoted_L13_R (pcN N) (lN N)) (ref1_LooseQuoted_L13_R pc lp) := fun ψN ψ h d => by
  delta ref1_LooseQuoted_L13_R
  exact (Approx.ifd (Approx.ifd (Approx.bnd (Approx.bnd (ref1_Blank_ca E) fun x60 => (Approx.const _)) fun x61 => (Approx.ifd (Approx.ifd (h _) (Approx.const _)) (Approx.const _))) Approx.none) (Approx.ifd Approx.none (Approx.const _)))
theorem ref1_LooseQuoted_L13_a (E : AppE prog pcN pc lN lp) {d : ref1_LooseQuoted_L13_D} : Approx (fun N => ref1_LooseQuoted_L13 (pcN N) (lN N) d) (ref1_LooseQuoted_L13 pc lp d) := E.loop (ref1_LooseQuoted_L13_ap E) d
theorem ref1_LooseQuoted_L13_of {d : ref1_LooseQuoted_L13_D} {x : ref1_LooseQuoted_L13_X} (h : ref1_LooseQuoted_L13_R (pcL prog cfg) lpL (ref1_LooseQuoted_L13 (pcL prog cfg) lpL) d = some x) : ref1_LooseQuoted_L13 (pcL prog cfg) lpL d = some x := lpL_step (ref1_LooseQuoted_L13_ap (appL prog cfg)) h

-- ref1_LooseQuoted, part 29887
abbrev ref1_LooseQuoted_C14_D := (((List Int) × ((List Int) × (Int × (Int × (Int × (Int × Unit)))))) × Unit)
abbrev ref1_LooseQuoted_C14_X := (((List Int) × ((List Int) × (Int × (Int × (Int × (Int × (Bool × Unit))))))) × Unit)
noncomputable def ref1_LooseQuoted_C14 (pc : PC prog) (lp : LP) (d : ref1_LooseQuoted_C14_D) : Option ref1_LooseQuoted_C14_X :=
  ifd ((decide (d.1.2.2.2.2.2.1 > d.1.2.2.1)) = true) (
    ifd ((decide (((0 : Int) ≤ (Go.IntKind.wrap .i64 (d.1.2.2.2.2.2.1 - 1))) ∧ ((Go.IntKind.wrap .i64 (d.1.2.2.2.2.2.1 - 1)) < (((List.length d.1.1) : Nat) : Int)))) = true) (
      ifd ((decide (d.1.2.2.2.2.2.1 > d.1.2.2.1)) = true) (
        some ((d.1.1, d.1.2.1, d.1.2.2.1, d.1.2.2.2.1, d.1.2.2.2.2.1, d.1.2.2.2.2.2.1, ((List.getD d.1.1 (Int.toNat (Go.IntKind.wrap .i64 (d.1.2.2.2.2.2.1 - 1))) 0) == 61), ()), ())) (
        some ((d.1.1, d.1.2.1, d.1.2.2.1, d.1.2.2.2.1, d.1.2.2.2.2.1, d.1.2.2.2.2.2.1, false, ()), ()))) (
      none)) (
    ifd ((decide (d.1.2.2.2.2.2.1 > d.1.2.2.1)) = true) (
      none) (
      some ((d.1.1, d.1.2.1, d.1.2.2.1, d.1.2.2.2.1, d.1.2.2.2.2.1, d.1.2.2.2.2.2.1, false, ()), ())))
theorem ref1_LooseQuoted_C14_a (E : AppE prog pcN pc lN lp) {d : ref1_LooseQuoted_C14_D} : Approx (fun N => ref1_LooseQuoted_C14 (pcN N) (lN N) d) (ref1_LooseQuoted_C14 pc lp d) := by
  delta ref1_LooseQuoted_C14
  exact (Approx.ifd (Approx.ifd (Approx.ifd (Approx.const _) (Approx.const _)) Approx.none) (Approx.ifd Approx.none (Approx.const _)))

-- ref1_LooseQuoted, part 59775
abbrev ref1_LooseQuoted_C15_D := (((List Int) × ((List Int) × (Int × (Int × (Int × (Int × (Bool × Unit))))))) × Unit)
abbrev ref1_LooseQuoted_C15_X := (((List Int) × ((List Int) × (Int × (Int × (Int × (Int × (Bool × Unit))))))) × Unit)
noncomputable def ref1_LooseQuoted_C15 (pc : PC prog) (lp : LP) (d : ref1_LooseQuoted_C15_D) : Option ref1_LooseQuoted_C15_X :=
  ifd (d.1.2.2.2.2.2.2.1 = true) (
    some ((d.1.1, d.1.2.1, d.1.2.2.1, d.1.2.2.2.1, d.1.2.2.2.2.1, (Go.IntKind.wrap .i64 (d.1.2.2.2.2.2.1 - 1)), d.1.2.2.2.2.2.2.1, ()), ())) (
    some ((d.1.1, d.1.2.1, d.1.2.2.1, d.1.2.2.2.1, d.1.2.2.2.2.1, d.1.2.2.2.2.2.1, d.1.2.2.2.2.2.2.1, ()), ()))
theorem ref1_LooseQuoted_C15_a (E : AppE prog pcN pc lN lp) {d : ref1_LooseQuoted_C15_D} : Approx (fun N => ref1_LooseQuoted_C15 (pcN N) (lN N) d) (ref1_LooseQuoted_C15 pc lp d) := by
  delta ref1_LooseQuoted_C15
  exact (Approx.ifd (Approx.const _) (Approx.const _))

-- ref1_LooseQuoted, loop 58
abbrev ref1_LooseQuoted_L16_D := (((List Int) × ((List Int) × (Int × Unit))) × Unit)
abbrev ref1_LooseQuoted_L16_X := (((List Int) × Unit) × Unit)
noncomputable def ref1_LooseQuoted_L16_R (pc : PC prog) (lp : LP) (ψ : ref1_LooseQuoted_L16_D → Option ref1_LooseQuoted_L16_X) (d : ref1_LooseQuoted_L16_D) : Option ref1_LooseQuoted_L16_X :=
  ifd ((decide (d.1.2.2.1 < (((List.length d.1.1) : Nat) : Int))) = true) (
    bnd (ref1_LooseQuoted_L10 pc lp ((d.1.1, d.1.2.1, d.1.2.2.1, d.1.2.2.1, ()), ())) (fun (y72 : (((List Int) × ((List Int) × (Int × (Int × Unit)))) × Unit)) =>
    bnd (ref1_LooseQuoted_C12 pc lp ((y72.1.1, y72.1.2.1, y72.1.2.2.1, y72.1.2.2.2.1, y72.1.2.2.2.1, ()), ())) (fun (y73 : (((List Int) × ((List Int) × (Int × (Int × (Int × Unit))))) × Unit)) =>
    bnd (ref1_LooseQuoted_L13 pc lp ((y73.1.1, y73.1.2.1, y73.1.2.2.1, y73.1.2.2.2.1, y73.1.2.2.2.2.1, y73.1.2.2.2.2.1, ()), ())) (fun (y74 : (((List Int) × ((List Int) × (Int × (Int × (Int × (Int × Unit)))))) × Unit)) =>
    bnd (ref1_LooseQuoted_C14 pc lp ((y74.1.1, y74.1.2.1, y74.1.2.2.1, y74.1.2.2.2.1, y74.1.2.2.2.2.1, y74.1.2.2.2.2.2.1, ()), ())) (fun (y75 : (((List Int) × ((List Int) × (Int × (Int × (Int × (Int × (Bool × Unit))))))) × Unit)) =>
    bnd (ref1_LooseQuoted_C15 pc lp ((y75.1.1, y75.1.2.1, y75.1.2.2.1, y75.1.2.2.2.1, y75.1.2.2.2.2.1, y75.1.2.2.2.2.2.1, y75.1.2.2.2.2.2.2.1, ()), ())) (fun (y76 : (((List Int) × ((List Int) × (Int × (Int × (Int × (Int × (Bool × Unit))))))) × Unit)) =>
    bnd (ref1_LooseQuoted_L9 pc lp ((y76.1.1, y76.1.2.1, y76.1.2.2.2.1, y76.1.2.2.2.2.1, y76.1.2.2.2.2.2.1, y76.1.2.2.2.2.2.2.1, y76.1.2.2.1, ()), ())) (fun (y77 : (((List Int) × ((List Int) × (Int × (Int × (Bool × Unit))))) × Unit)) =>
    ifd ((decide (y77.1.2.2.1 < (((List.length y77.1.1) : Nat) : Int))) = true) (
      ifd ((decide (y77.1.2.2.1 < (((List.length y77.1.1) : Nat) : Int))) = true) (
        ifd ((!y77.1.2.2.2.2.1) = true) (
          ifd ((decide (((0 : Int) ≤ y77.1.2.2.2.1) ∧ ((y77.1.2.2.2.1 ≤ (Go.IntKind.wrap .i64 (y77.1.2.2.1 + 1))) ∧ ((Go.IntKind.wrap .i64 (y77.1.2.2.1 + 1)) ≤ (((List.length y77.1.1) : Nat) : Int))))) = true) (
            ifd ((decide ((((List.length y77.1.2.1) + (List.length (List.drop (Int.toNat y77.1.2.2.2.1) (List.take (Int.toNat (Go.IntKind.wrap .i64 (y77.1.2.2.1 + 1))) y77.1.1)))) * 1) ≤ 140737488355328)) = true) (
              ψ ((y77.1.1, (y77.1.2.1 ++ (List.drop (Int.toNat y77.1.2.2.2.1) (List.take (Int.toNat (Go.IntKind.wrap .i64 (y77.1.2.2.1 + 1))) y77.1.1))), (Go.IntKind.wrap .i64 (y77.1.2.2.1 + 1)), ()), ())) (
              none)) (
            none)) (
          ψ ((y77.1.1, y77.1.2.1, (Go.IntKind.wrap .i64 (y77.1.2.2.1 + 1)), ()), ()))) (
        ψ ((y77.1.1, y77.1.2.1, (Go.IntKind.wrap .i64 (y77.1.2.2.1 + 1)), ()), ()))) (
      ifd ((decide (y77.1.2.2.1 < (((List.length y77.1.1) : Nat) : Int))) = true) (
        none) (
        ψ ((y77.1.1, y77.1.2.1, (Go.IntKind.wrap .i64 (y77.1.2.2.1 + 1)), ()), ())))))))))) (
    some ((d.1.2.1, ()), ()))
noncomputable def ref1_LooseQuoted_L16 (pc : PC prog) (lp : LP) (d : ref1_LooseQuoted_L16_D) : Option ref1_LooseQuoted_L16_X := lp ref1_LooseQuoted_L16_D ref1_LooseQuoted_L16_X (ref1_LooseQuoted_L16_R pc lp) d
theorem ref1_LooseQuoted_L16_ap (E : AppE prog pcN pc lN lp) : ContR (fun N => ref1_LooseQuoted_L16_R (pcN N) (lN N)) (ref1_LooseQuoted_L16_R pc lp) := fun ψN ψ h d => by
  delta ref1_LooseQuoted_L16_R
  exact (Approx.ifd (Approx.bnd (ref1_LooseQuoted_L10_a E) (fun y72 => (Approx.bnd (ref1_LooseQuoted_C12_a E) (fun y73 => (Approx.bnd (ref1_LooseQuoted_L13_a E) (fun y74 => (Approx.bnd (ref1_LooseQuoted_C14_a E) (fun y75 => (Approx.bnd (ref1_LooseQuoted_C15_a E) (fun y76 => (Approx.bnd (ref1_LooseQuoted_L9_a E) (fun y77 => (Approx.ifd (Approx.ifd (Approx.ifd (Approx.ifd (Approx.ifd (h _) Approx.none) Approx.none) (h _)) (h _)) (Approx.ifd Approx.none (h _))))))))))))))) (Approx.const _))
theorem ref1_LooseQuoted_L16_a (E : AppE prog pcN pc lN lp) {d : ref1_LooseQuoted_L16_D} : Approx (fun N => ref1_LooseQuoted_L16 (pcN N) (lN N) d) (ref1_LooseQuoted_L16 pc lp d) := E.loop (ref1_LooseQuoted_L16_ap E) d
theorem ref1_LooseQuoted_L16_of {d : ref1_LooseQuoted_L16_D} {x : ref1_LooseQuoted_L16_X} (h : ref1_LooseQuoted_L16_R (pcL prog cfg) lpL (ref1_LooseQuoted_L16 (pcL prog cfg) lpL) d = some x) : ref1_LooseQuoted_L16 (pcL prog cfg) lpL d = some x := lpL_step (ref1_LooseQuoted_L16_ap (appL prog cfg)) h

noncomputable def ref1_LooseQuoted_B (pc : PC prog) (lp : LP) (a0 : List Int) : Option (List Int) :=
  bnd (ref1_LooseQuoted_L16 pc lp ((a0, ([] : List Int), 0, ()), ())) (fun (y78 : (((List Int) × Unit) × Unit)) =>
  some y78.1.1)
theorem ref1_LooseQuoted_eq (a0 : List Int) (pc : PC prog) (lp : LP) : got ref1_LooseQuoted_t (pcall prog (runO prog cfg (hand prog cfg lp pc 6 tbl 5) pc 6) 14 [(.c (.slice .ro (.int .u8) a0))]) = ref1_LooseQuoted_B pc lp a0 := by kernel_rfl
theorem ref1_LooseQuoted_ap (E : AppE prog pcN pc lN lp) (a0 : List Int) : Approx (fun N => ref1_LooseQuoted_B (pcN N) (lN N) a0) (ref1_LooseQuoted_B pc lp a0) := by
  delta ref1_LooseQuoted_B
  exact (Approx.bnd (ref1_LooseQuoted_L16_a E) (fun y78 => (Approx.const _)))
theorem ref1_LooseQuoted_of {a0 : List Int} {y : (List Int)} (h : ref1_LooseQuoted_B (pcL prog cfg) lpL a0 = some y) : ref1_LooseQuoted_c (pcL prog cfg) a0 = some y := fn_of rfl (ref1_LooseQuoted_eq a0) (ref1_LooseQuoted_ap (appN prog cfg) a0) h

noncomputable def quoted_Decode_B (pc : PC prog) (lp : LP) (a0 : List Int) : Option ((List Int) × ((Int × (Int × Unit)) × Unit)) :=
  ifd ((decide ((((List.length a0) : Nat) : Int) > 48000)) = true) (
    some (([] : List Int), ((1, ((-1), ())), ()))) (
    bnd (bnd (quoted_Loose_c pc a0) fun (x0 : (List Int)) =>
    some x0) fun (x1 : (List Int)) =>
    ifd ((decide ((((List.length x1) : Nat) : Int) > 12000)) = true) (
      ifd ((decide ((((List.length x1) : Nat) : Int) > 12000)) = true) (
        some (([] : List Int), ((11, ((-2), ())), ()))) (
        none)) (
      bnd (bnd (quoted_Bytes_c pc x1) fun (x2 : (List Int)) =>
      some x2) fun (x3 : (List Int)) =>
      bnd (bnd (bytes_Equal_c pc x3 a0) fun (x4 : Bool) =>
      some x4) fun (x5 : Bool) =>
      ifd ((decide ((((List.length x1) : Nat) : Int) > 12000)) = true) (
        some (([] : List Int), ((11, ((-2), ())), ()))) (
        ifd ((!x5) = true) (
          some (([] : List Int), ((11, ((-2), ())), ()))) (
          some (x1, ((0, (0, ())), ()))))))
theorem quoted_Decode_eq (a0 : List Int) (pc : PC prog) (lp : LP) : got quoted_Decode_t (pcall prog (runO prog cfg (hand prog cfg lp pc 6 tbl 5) pc 6) 15 [(.c (.slice .ro (.int .u8) a0))]) = quoted_Decode_B pc lp a0 := by kernel_rfl
theorem quoted_Decode_ap (E : AppE prog pcN pc lN lp) (a0 : List Int) : Approx (fun N => quoted_Decode_B (pcN N) (lN N) a0) (quoted_Decode_B pc lp a0) := by
  delta quoted_Decode_B
  exact (Approx.ifd (Approx.const _) (Approx.bnd (Approx.bnd (quoted_Loose_ca E) fun x0 => (Approx.const _)) fun x1 => (Approx.ifd (Approx.ifd (Approx.const _) Approx.none) (Approx.bnd (Approx.bnd (quoted_Bytes_ca E) fun x2 => (Approx.const _)) fun x3 => (Approx.bnd (Approx.bnd (bytes_Equal_ca E) fun x4 => (Approx.const _)) fun x5 => (Approx.ifd (Approx.const _) (Approx.ifd (Approx.const _) (Approx.const _))))))))
theorem quoted_Decode_of {a0 : List Int} {y : ((List Int) × ((Int × (Int × Unit)) × Unit))} (h : quoted_Decode_B (pcL prog cfg) lpL a0 = some y) : quoted_Decode_c (pcL prog cfg) a0 = some y := fn_of rfl (quoted_Decode_eq a0) (quoted_Decode_ap (appN prog cfg) a0) h

noncomputable def ref1_Crlf_B (pc : PC prog) (lp : LP) (a0 : List Int) (a1 : Int) : Option Bool :=
  ifd ((decide ((Go.IntKind.wrap .i64 (a1 + 1)) < (((List.length a0) : Nat) : Int))) = true) (
    ifd ((decide (((0 : Int) ≤ a1) ∧ (a1 < (((List.length a0) : Nat) : Int)))) = true) (
      ifd ((decide ((Go.IntKind.wrap .i64 (a1 + 1)) < (((List.length a0) : Nat) : Int))) = true) (
        ifd (((List.getD a0 (Int.toNat a1) 0) == 13) = true) (
          ifd ((decide (((0 : Int) ≤ (Go.IntKind.wrap .i64 (a1 + 1))) ∧ ((Go.IntKind.wrap .i64 (a1 + 1)) < (((List.length a0) : Nat) : Int)))) = true) (
            ifd (((List.getD a0 (Int.toNat a1) 0) == 13) = true) (
              some ((List.getD a0 (Int.toNat (Go.IntKind.wrap .i64 (a1 + 1))) 0) == 10)) (
              some false)) (
            none)) (
          ifd (((List.getD a0 (Int.toNat a1) 0) == 13) = true) (
            none) (
            some false))) (
        some false)) (
      none)) (
    ifd ((decide ((Go.IntKind.wrap .i64 (a1 + 1)) < (((List.length a0) : Nat) : Int))) = true) (
      none) (
      some false))
theorem ref1_Crlf_eq (a0 : List Int) (a1 : Int) (pc : PC prog) (lp : LP) : got ref1_Crlf_t (pcall prog (runO prog cfg (hand prog cfg lp pc 6 tbl 5) pc 6) 16 [(.c (.slice .ro (.int .u8) a0)), (.c (.int .i64 a1))]) = ref1_Crlf_B pc lp a0 a1 := by kernel_rfl
theorem ref1_Crlf_ap (E : AppE prog pcN pc lN lp) (a0 : List Int) (a1 : Int) : Approx (fun N => ref1_Crlf_B (pcN N) (lN N) a0 a1) (ref1_Crlf_B pc lp a0 a1) := by
  delta ref1_Crlf_B
  exact (Approx.ifd (Approx.ifd (Approx.ifd (Approx.ifd (Approx.ifd (Approx.ifd (Approx.const _) (Approx.const _)) Approx.none) (Approx.ifd Approx.none (Approx.const _))) (Approx.const _)) Approx.none) (Approx.ifd Approx.none (Approx.const _)))
theorem ref1_Crlf_of {a0 : List Int} {a1 : Int} {y : Bool} (h : ref1_Crlf_B (pcL prog cfg) lpL a0 a1 = some y) : ref1_Crlf_c (pcL prog cfg) a0 a1 = some y := fn_of rfl (ref1_Crlf_eq a0 a1) (ref1_Crlf_ap (appN prog cfg) a0 a1) h

noncomputable def ref1_Blank_B (pc : PC prog) (lp : LP) (a0 : Int) : Option Bool :=
  ifd ((a0 == 32) = true) (
    ifd ((a0 == 32) = true) (
      some true) (
      none)) (
    ifd ((a0 == 32) = true) (
      some true) (
      some (a0 == 9)))
theorem ref1_Blank_eq (a0 : Int) (pc : PC prog) (lp : LP) : got ref1_Blank_t (pcall prog (runO prog cfg (hand prog cfg lp pc 6 tbl 5) pc 6) 17 [(.c (.int .u8 a0))]) = ref1_Blank_B pc lp a0 := by kernel_rfl
theorem ref1_Blank_ap (E : AppE prog pcN pc lN lp) (a0 : Int) : Approx (fun N => ref1_Blank_B (pcN N) (lN N) a0) (ref1_Blank_B pc lp a0) := by
  delta ref1_Blank_B
  exact (Approx.ifd (Approx.ifd (Approx.const _) Approx.none) (Approx.ifd (Approx.const _) (Approx.const _)))
theorem ref1_Blank_of {a0 : Int} {y : Bool} (h : ref1_Blank_B (pcL prog cfg) lpL a0 = some y) : ref1_Blank_c (pcL prog cfg) a0 = some y := fn_of rfl (ref1_Blank_eq a0) (ref1_Blank_ap (appN prog cfg) a0) h

noncomputable def ref1_In_B (pc : PC prog) (lp : LP) (a0 : Int) (a1 : Int) (a2 : Int) : Option Bool :=
  ifd ((decide (a0 ≥ a1)) = true) (
    ifd ((decide (a0 ≥ a1)) = true) (
      some (decide (a0 ≤ a2))) (
      some false)) (
    ifd ((decide (a0 ≥ a1)) = true) (
      none) (
      some false))
theorem ref1_In_eq (a0 : Int) (a1 : Int) (a2 : Int) (pc : PC prog) (lp : LP) : got ref1_In_t (pcall prog (runO prog cfg (hand prog cfg lp pc 6 tbl 5) pc 6) 18 [(.c (.int .i64 a0)), (.c (.int .i64 a1)), (.c (.int .i64 a2))]) = ref1_In_B pc lp a0 a1 a2 := by kernel_rfl
theorem ref1_In_ap (E : AppE prog pcN pc lN lp) (a0 : Int) (a1 : Int) (a2 : Int) : Approx (fun N => ref1_In_B (pcN N) (lN N) a0 a1 a2) (ref1_In_B pc lp a0 a1 a2) := by
  delta ref1_In_B
  exact (Approx.ifd (Approx.ifd (Approx.const _) (Approx.const _)) (Approx.ifd Approx.none (Approx.const _)))
theorem ref1_In_of {a0 : Int} {a1 : Int} {a2 : Int} {y : Bool} (h : ref1_In_B (pcL prog cfg) lpL a0 a1 a2 = some y) : ref1_In_c (pcL prog cfg) a0 a1 a2 = some y := fn_of rfl (ref1_In_eq a0 a1 a2) (ref1_In_ap (appN prog cfg) a0 a1 a2) h

-- quoted_Bytes, part 7831
abbrev quoted_Bytes_C1_D := (((List Int) × (Unit × (Int × (Int × ((List Int) × (Int × Unit)))))) × Unit)
abbrev quoted_Bytes_C1_X := (((List Int) × (Unit × (Int × (Int × ((List Int) × (Int × Unit)))))) × Unit)
noncomputable def quoted_Bytes_C1 (pc : PC prog) (lp : LP) (d : quoted_Bytes_C1_D) : Option quoted_Bytes_C1_X :=
  bnd (bnd (quoted_atLineEnd_c pc d.1.1 (Go.IntKind.wrap .i64 (d.1.2.2.2.1 + 1))) fun (x6 : Bool) =>
  some x6) fun (x7 : Bool) =>
  ifd ((!x7) = true) (
    some ((d.1.1, (), d.1.2.2.1, d.1.2.2.2.1, d.1.2.2.2.2.1, (Go.IntKind.wrap .i64 (d.1.2.2.2.2.2.1 - 1)), ()), ())) (
    some ((d.1.1, (), d.1.2.2.1, d.1.2.2.2.1, d.1.2.2.2.2.1, d.1.2.2.2.2.2.1, ()), ()))
theorem quoted_Bytes_C1_a (E : AppE prog pcN pc lN lp) {d : quoted_Bytes_C1_D} : Approx (fun N => quoted_Bytes_C1 (pcN N) (lN N) d) (quoted_Bytes_C1 pc lp d) := by
  delta quoted_Bytes_C1
  exact (Approx.bnd (Approx.bnd (quoted_atLineEnd_ca E) fun x6 => (Approx.const _)) fun x7 => (Approx.ifd (Approx.const _) (Approx.const _)))

-- quoted_Bytes, part 15663
abbrev quoted_Bytes_C2_D := (((List Int) × (Unit × (Int × (Int × ((List Int) × (Int × Unit)))))) × Unit)
abbrev quoted_Bytes_C2_X := (((List Int) × ((List Int) × (Int × (Int × ((List Int) × Unit))))) × Unit)
noncomputable def quoted_Bytes_C2 (pc : PC prog) (lp : LP) (d : quoted_Bytes_C2_D) : Option quoted_Bytes_C2_X :=
  ifd ((decide ((Go.IntKind.wrap .i64 (d.1.2.2.1 + (((List.length d.1.2.2.2.2.1) : Nat) : Int))) > d.1.2.2.2.2.2.1)) = true) (
    some ((d.1.1, (([] : List Int) ++ ([61, 13, 10] : List Int)), 0, d.1.2.2.2.1, d.1.2.2.2.2.1, ()), ())) (
    some ((d.1.1, ([] : List Int), d.1.2.2.1, d.1.2.2.2.1, d.1.2.2.2.2.1, ()), ()))
theorem quoted_Bytes_C2_a (E : AppE prog pcN pc lN lp) {d : quoted_Bytes_C2_D} : Approx (fun N => quoted_Bytes_C2 (pcN N) (lN N) d) (quoted_Bytes_C2 pc lp d) := by
  delta quoted_Bytes_C2
  exact (Approx.ifd (Approx.const _) (Approx.const _))

-- quoted_Bytes, part 7831
abbrev quoted_Bytes_C3_D := (((List Int) × ((List Int) × (Int × (Int × ((List Int) × (Int × Unit)))))) × Unit)
abbrev quoted_Bytes_C3_X := (((List Int) × ((List Int) × (Int × (Int × ((List Int) × (Int × Unit)))))) × Unit)
noncomputable def quoted_Bytes_C3 (pc : PC prog) (lp : LP) (d : quoted_Bytes_C3_D) : Option quoted_Bytes_C3_X :=
  bnd (bnd (quoted_atLineEnd_c pc d.1.1 (Go.IntKind.wrap .i64 (d.1.2.2.2.1 + 1))) fun (x16 : Bool) =>
  some x16) fun (x17 : Bool) =>
  ifd ((!x17) = true) (
    some ((d.1.1, d.1.2.1, d.1.2.2.1, d.1.2.2.2.1, d.1.2.2.2.2.1, (Go.IntKind.wrap .i64 (d.1.2.2.2.2.2.1 - 1)), ()), ())) (
    some ((d.1.1, d.1.2.1, d.1.2.2.1, d.1.2.2.2.1, d.1.2.2.2.2.1, d.1.2.2.2.2.2.1, ()), ()))
theorem quoted_Bytes_C3_a (E : AppE prog pcN pc lN lp) {d : quoted_Bytes_C3_D} : Approx (fun N => quoted_Bytes_C3 (pcN N) (lN N) d) (quoted_Bytes_C3 pc lp d) := by
  delta quoted_Bytes_C3
  exact (Approx.bnd (Approx.bnd (quoted_atLineEnd_ca E) fun x16 => (Approx.const _)) fun x17 => (Approx.ifd (Approx.const _) (Approx.const _)))

-- quoted_Bytes, part 15663
abbrev quoted_Bytes_C4_D := (((List Int) × ((List Int) × (Int × (Int × ((List Int) × (Int × Unit)))))) × Unit)
abbrev quoted_Bytes_C4_X := (((List Int) × ((List Int) × (Int × (Int × ((List Int) × Unit))))) × Unit)
noncomputable def quoted_Bytes_C4 (pc : PC prog) (lp : LP) (d : quoted_Bytes_C4_D) : Option quoted_Bytes_C4_X :=
  ifd ((decide ((Go.IntKind.wrap .i64 (d.1.2.2.1 + (((List.length d.1.2.2.2.2.1) : Nat) : Int))) > d.1.2.2.2.2.2.1)) = true) (
    ifd ((decide ((((List.length d.1.2.1) + (List.length ([61, 13, 10] : List Int))) * 1) ≤ 140737488355328)) = true) (
      some ((d.1.1, (d.1.2.1 ++ ([61, 13, 10] : List Int)), 0, d.1.2.2.2.1, d.1.2.2.2.2.1, ()), ())) (
      none)) (
    some ((d.1.1, d.1.2.1, d.1.2.2.1, d.1.2.2.2.1, d.1.2.2.2.2.1, ()), ()))
theorem quoted_Bytes_C4_a (E : AppE prog pcN pc lN lp) {d : quoted_Bytes_C4_D} : Approx (fun N => quoted_Bytes_C4 (pcN N) (lN N) d) (quoted_Bytes_C4 pc lp d) := by
  delta quoted_Bytes_C4
  exact (Approx.ifd (Approx.ifd (Approx.const _) Approx.none) (Approx.const _))

-- quoted_Bytes, loop 122
abbrev quoted_Bytes_L5_D := (((List Int) × ((List Int) × (Int × (Int × Unit)))) × Unit)
abbrev quoted_Bytes_L5_X := (((List Int) × Unit) × Unit)
noncomputable def quoted_Bytes_L5_R (pc : PC prog) (lp : LP) (ψ : quoted_Bytes_L5_D → Option quoted_Bytes_L5_X) (d : quoted_Bytes_L5_D) : Option quoted_Bytes_L5_X :=
  ifd ((decide (d.1.2.2.2.1 < (((List.length d.1.1) : Nat) : Int))) = true) (
    bnd (bnd (quoted_atLineEnd_c pc d.1.1 d.1.2.2.2.1) fun (x26 : Bool) =>
    some x26) fun (x27 : Bool) =>
    ifd (x27 = true) (
      ifd ((decide ((((List.length d.1.2.1) + (List.length ([13, 10] : List Int))) * 1) ≤ 140737488355328)) = true) (
        ψ ((d.1.1, (d.1.2.1 ++ ([13, 10] : List Int)), 0, (Go.IntKind.wrap .i64 (d.1.2.2.2.1 + 2)), ()), ())) (
        none)) (
      bnd (bnd (quoted_token_c pc d.1.1 d.1.2.2.2.1) fun (x28 : (List Int)) =>
      some x28) fun (x29 : (List Int)) =>
      bnd (quoted_Bytes_C3 pc lp ((d.1.1, d.1.2.1, d.1.2.2.1, d.1.2.2.2.1, x29, 76, ()), ())) (fun (y30 : (((List Int) × ((List Int) × (Int × (Int × ((List Int) × (Int × Unit)))))) × Unit)) =>
      bnd (quoted_Bytes_C4 pc lp ((y30.1.1, y30.1.2.1, y30.1.2.2.1, y30.1.2.2.2.1, y30.1.2.2.2.2.1, y30.1.2.2.2.2.2.1, ()), ())) (fun (y31 : (((List Int) × ((List Int) × (Int × (Int × ((List Int) × Unit))))) × Unit)) =>
      ifd ((decide ((((List.length y31.1.2.1) + (List.length y31.1.2.2.2.2.1)) * 1) ≤ 140737488355328)) = true) (
        ψ ((y31.1.1, (y31.1.2.1 ++ y31.1.2.2.2.2.1), (Go.IntKind.wrap .i64 (y31.1.2.2.1 + (((List.length y31.1.2.2.2.2.1) : Nat) : Int))), (Go.IntKind.wrap .i64 (y31.1.2.2.2.1 + 1)), ()), ())) (
        none))))) (
    some ((d.1.2.1, ()), ()))
noncomputable def quoted_Bytes_L5 (pc : PC prog) (lp : LP) (d : quoted_Bytes_L5_D) : Option quoted_Bytes_L5_X := lp quoted_Bytes_L5_D quoted_Bytes_L5_X (quoted_Bytes_L5_R pc lp) d
theorem quoted_Bytes_L5_ap (E : AppE prog pcN pc lN lp) : ContR (fun N => quoted_Bytes_L5_R (pcN N) (lN N)) (quoted_Bytes_L5_R pc lp) := fun ψN ψ h d => by
  delta quoted_Bytes_L5_R
  exact (Approx.ifd (Approx.bnd (Approx.bnd (quoted_atLineEnd_ca E) fun x26 => (Approx.const _)) fun x27 => (Approx.ifd (Approx.ifd (h _) Approx.none) (Approx.bnd (Approx.bnd (quoted_token_ca E) fun x28 => (Approx.const _)) fun x29 => (Approx.bnd (quoted_Bytes_C3_a E) (fun y30 => (Approx.bnd (quoted_Bytes_C4_a E) (fun y31 => (Approx.ifd (h _) Approx.none)))))))) (Approx.const _))
theorem quoted_Bytes_L5_a (E : AppE prog pcN pc lN lp) {d : quoted_Bytes_L5_D} : Approx (fun N => quoted_Bytes_L5 (pcN N) (lN N) d) (quoted_Bytes_L5 pc lp d) := E.loop (quoted_Bytes_L5_ap E) d
theorem quoted_Bytes_L5_of {d : quoted_Bytes_L5_D} {x : quoted_Bytes_L5_X} (h : quoted_Bytes_L5_R (pcL prog cfg) lpL (quoted_Bytes_L5 (pcL prog cfg) lpL) d = some x) : quoted_Bytes_L5 (pcL prog cfg) lpL d = some x := lpL_step (quoted_Bytes_L5_ap (appL prog cfg)) h

noncomputable def quoted_Bytes_B (pc : PC prog) (lp : LP) (a0 : List Int) : Option (List Int) :=
  bnd (quoted_Bytes_L5 pc lp ((a0, ([] : List Int), 0, 0, ()), ())) (fun (y32 : (((List Int) × Unit) × Unit)) =>
  some y32.1.1)
theorem quoted_Bytes_eq (a0 : List Int) (pc : PC prog) (lp : LP) : got quoted_Bytes_t (pcall prog (runO prog cfg (hand prog cfg lp pc 6 tbl 5) pc 6) 19 [(.c (.slice .ro (.int .u8) a0))]) = quoted_Bytes_B pc lp a0 := by kernel_rfl
theorem quoted_Bytes_ap (E : AppE prog pcN pc lN lp) (a0 : List Int) : Approx (fun N => quoted_Bytes_B (pcN N) (lN N) a0) (quoted_Bytes_B pc lp a0) := by
  delta quoted_Bytes_B
  exact (Approx.bnd (quoted_Bytes_L5_a E) (fun y32 => (Approx.const _)))
theorem quoted_Bytes_of {a0 : List Int} {y : (List Int)} (h : quoted_Bytes_B (pcL prog cfg) lpL a0 = some y) : quoted_Bytes_c (pcL prog cfg) a0 = some y := fn_of rfl (quoted_Bytes_eq a0) (quoted_Bytes_ap (appN prog cfg) a0) h

-- ref1_LineUnits, part 1865
abbrev ref1_LineUnits_C1_D := (((List Int) × (Unit × (Int × (Int × Unit)))) × Unit)
abbrev ref1_LineUnits_C1_X := (((List Int) × (Unit × (Int × (Int × (Bool × Unit))))) × Unit)
noncomputable def ref1_LineUnits_C1 (pc : PC prog) (lp : LP) (d : ref1_LineUnits_C1_D) : Option ref1_LineUnits_C1_X :=
  bnd (bnd (ref1_In_c pc (Go.IntKind.wrap .i64 d.1.2.2.2.1) 33 126) fun (x8 : Bool) =>
  some x8) fun (x9 : Bool) =>
  ifd (x9 = true) (
    ifd (x9 = true) (
      ifd ((d.1.2.2.2.1 != 61) = true) (
        ifd ((d.1.2.2.2.1 != 61) = true) (
          ifd ((d.1.2.2.2.1 != 61) = true) (
            some ((d.1.1, (), d.1.2.2.1, d.1.2.2.2.1, true, ()), ())) (
            none)) (
          none)) (
        bnd (bnd (ref1_Blank_c pc d.1.2.2.2.1) fun (x10 : Bool) =>
        some x10) fun (x11 : Bool) =>
        ifd (x11 = true) (
          ifd ((d.1.2.2.2.1 != 61) = true) (
            ifd ((d.1.2.2.2.1 != 61) = true) (
              some ((d.1.1, (), d.1.2.2.1, d.1.2.2.2.1, true, ()), ())) (
              none)) (
            ifd (x11 = true) (
              ifd ((d.1.2.2.2.1 != 61) = true) (
                some ((d.1.1, (), d.1.2.2.1, d.1.2.2.2.1, true, ()), ())) (
                some ((d.1.1, (), d.1.2.2.1, d.1.2.2.2.1, (decide ((Go.IntKind.wrap .i64 (d.1.2.2.1 + 1)) < (((List.length d.1.1) : Nat) : Int))), ()), ()))) (
              ifd ((d.1.2.2.2.1 != 61) = true) (
                some ((d.1.1, (), d.1.2.2.1, d.1.2.2.2.1, true, ()), ())) (
                some ((d.1.1, (), d.1.2.2.1, d.1.2.2.2.1, false, ()), ()))))) (
          ifd ((d.1.2.2.2.1 != 61) = true) (
            ifd ((d.1.2.2.2.1 != 61) = true) (
              some ((d.1.1, (), d.1.2.2.1, d.1.2.2.2.1, true, ()), ())) (
              none)) (
            ifd (x11 = true) (
              ifd ((d.1.2.2.2.1 != 61) = true) (
                some ((d.1.1, (), d.1.2.2.1, d.1.2.2.2.1, true, ()), ())) (
                none)) (
              ifd ((d.1.2.2.2.1 != 61) = true) (
                some ((d.1.1, (), d.1.2.2.1, d.1.2.2.2.1, true, ()), ())) (
                some ((d.1.1, (), d.1.2.2.1, d.1.2.2.2.1, false, ()), ()))))))) (
      bnd (bnd (ref1_Blank_c pc d.1.2.2.2.1) fun (x12 : Bool) =>
      some x12) fun (x13 : Bool) =>
      ifd (x13 = true) (
        ifd (x13 = true) (
          some ((d.1.1, (), d.1.2.2.1, d.1.2.2.2.1, (decide ((Go.IntKind.wrap .i64 (d.1.2.2.1 + 1)) < (((List.length d.1.1) : Nat) : Int))), ()), ())) (
          some ((d.1.1, (), d.1.2.2.1, d.1.2.2.2.1, false, ()), ()))) (
        ifd (x13 = true) (
          none) (
          some ((d.1.1, (), d.1.2.2.1, d.1.2.2.2.1, false, ()), ()))))) (
    ifd (x9 = true) (
      none) (
      bnd (bnd (ref1_Blank_c pc d.1.2.2.2.1) fun (x14 : Bool) =>
      some x14) fun (x15 : Bool) =>
      ifd (x15 = true) (
        ifd (x15 = true) (
          some ((d.1.1, (), d.1.2.2.1, d.1.2.2.2.1, (decide ((Go.IntKind.wrap .i64 (d.1.2.2.1 + 1)) < (((List.length d.1.1) : Nat) : Int))), ()), ())) (
          some ((d.1.1, (), d.1.2.2.1, d.1.2.2.2.1, false, ()), ()))) (
        ifd (x15 = true) (
          none) (
          some ((d.1.1, (), d.1.2.2.1, d.1.2.2.2.1, false, ()), ())))))
theorem ref1_LineUnits_C1_a (E : AppE prog pcN pc lN lp) {d : ref1_LineUnits_C1_D} : Approx (fun N => ref1_LineUnits_C1 (pcN N) (lN N) d) (ref1_LineUnits_C1 pc lp d) := by
  delta ref1_LineUnits_C1
  exact (Approx.bnd (Approx.bnd (ref1_In_ca E) fun x8 => (Approx.const _)) fun x9 => (Approx.ifd (Approx.ifd (Approx.ifd (Approx.ifd (Approx.ifd (Approx.const _) Approx.none) Approx.none) (Approx.bnd (Approx.bnd (ref1_Blank_ca E) fun x10 => (Approx.const _)) fun x11 => (Approx.ifd (Approx.ifd (Approx.ifd (Approx.const _) Approx.none) (Approx.ifd (Approx.ifd (Approx.const _) (Approx.const _)) (Approx.ifd (Approx.const _) (Approx.const _)))) (Approx.ifd (Approx.ifd (Approx.const _) Approx.none) (Approx.ifd (Approx.ifd (Approx.const _) Approx.none) (Approx.ifd (Approx.const _) (Approx.const _))))))) (Approx.bnd (Approx.bnd (ref1_Blank_ca E) fun x12 => (Approx.const _)) fun x13 => (Approx.ifd (Approx.ifd (Approx.const _) (Approx.const _)) (Approx.ifd Approx.none (Approx.const _))))) (Approx.ifd Approx.none (Approx.bnd (Approx.bnd (ref1_Blank_ca E) fun x14 => (Approx.const _)) fun x15 => (Approx.ifd (Approx.ifd (Approx.const _) (Approx.const _)) (Approx.ifd Approx.none (Approx.const _)))))))

-- ref1_LineUnits, part 1865
abbrev ref1_LineUnits_C2_D := (((List Int) × ((List (List Int)) × (Int × (Int × Unit)))) × Unit)
abbrev ref1_LineUnits_C2_X := (((List Int) × ((List (List Int)) × (Int × (Int × (Bool × Unit))))) × Unit)
noncomputable def ref1_LineUnits_C2 (pc : PC prog) (lp : LP) (d : ref1_LineUnits_C2_D) : Option ref1_LineUnits_C2_X :=
  bnd (bnd (ref1_In_c pc (Go.IntKind.wrap .i64 d.1.2.2.2.1) 33 126) fun (x27 : Bool) =>
  some x27) fun (x28 : Bool) =>
  ifd (x28 = true) (
    ifd (x28 = true) (
      ifd ((d.1.2.2.2.1 != 61) = true) (
        ifd ((d.1.2.2.2.1 != 61) = true) (
          ifd ((d.1.2.2.2.1 != 61) = true) (
            some ((d.1.1, d.1.2.1, d.1.2.2.1, d.1.2.2.2.1, true, ()), ())) (
            none)) (
          none)) (
        bnd (bnd (ref1_Blank_c pc d.1.2.2.2.1) fun (x29 : Bool) =>
        some x29) fun (x30 : Bool) =>
        ifd (x30 = true) (
          ifd ((d.1.2.2.2.1 != 61) = true) (
            ifd ((d.1.2.2.2.1 != 61) = true) (
              some ((d.1.1, d.1.2.1, d.1.2.2.1, d.1.2.2.2.1, true, ()), ())) (
              none)) (
            ifd (x30 = true) (
              ifd ((d.1.2.2.2.1 != 61) = true) (
                some ((d.1.1, d.1.2.1, d.1.2.2.1, d.1.2.2.2.1, true, ()), ())) (
                some ((d.1.1, d.1.2.1, d.1.2.2.1, d.1.2.2.2.1, (decide ((Go.IntKind.wrap .i64 (d.1.2.2.1 + 1)) < (((List.length d.1.1) : Nat) : Int))), ()), ()))) (
              ifd ((d.1.2.2.2.1 != 61) = true) (
                some ((d.1.1, d.1.2.1, d.1.2.2.1, d.1.2.2.2.1, true, ()), ())) (
                some ((d.1.1, d.1.2.1, d.1.2.2.1, d.1.2.2.2.1, false, ()), ()))))) (
          ifd ((d.1.2.2.2.1 != 61) = true) (
            ifd ((d.1.2.2.2.1 != 61) = true) (
              some ((d.1.1, d.1.2.1, d.1.2.2.1, d.1.2.2.2.1, true, ()), ())) (
              none)) (
            ifd (x30 = true) (
              ifd ((d.1.2.2.2.1 != 61) = true) (
                some ((d.1.1, d.1.2.1, d.1.2.2.1, d.1.2.2.2.1, true, ()), ())) (
                none)) (
              ifd ((d.1.2.2.2.1 != 61) = true) (
                some ((d.1.1, d.1.2.1, d.1.2.2.1, d.1.2.2.2.1, true, ()), ())) (
                some ((d.1.1, d.1.2.1, d.1.2.2.1, d.1.2.2.2.1, false, ()), ()))))))) (
      bnd (bnd (ref1_Blank_c pc d.1.2.2.2.1) fun (x31 : Bool) =>
      some x31) fun (x32 : Bool) =>
      ifd (x32 = true) (
        ifd (x32 = true) (
          some ((d.1.1, d.1.2.1, d.1.2.2.1, d.1.2.2.2.1, (decide ((Go.IntKind.wrap .i64 (d.1.2.2.1 + 1)) < (((List.length d.1.1) : Nat) : Int))), ()), ())) (
          some ((d.1.1, d.1.2.1, d.1.2.2.1, d.1.2.2.2.1, false, ()), ()))) (
        ifd (x32 = true) (
          none) (
          some ((d.1.1, d.1.2.1, d.1.2.2.1, d.1.2.2.2.1, false, ()), ()))))) (
    ifd (x28 = true) (
      none) (
      bnd (bnd (ref1_Blank_c pc d.1.2.2.2.1) fun (x33 : Bool) =>
      some x33) fun (x34 : Bool) =>
      ifd (x34 = true) (
        ifd (x34 = true) (
          some ((d.1.1, d.1.2.1, d.1.2.2.1, d.1.2.2.2.1, (decide ((Go.IntKind.wrap .i64 (d.1.2.2.1 + 1)) < (((List.length d.1.1) : Nat) : Int))), ()), ())) (
          some ((d.1.1, d.1.2.1, d.1.2.2.1, d.1.2.2.2.1, false, ()), ()))) (
        ifd (x34 = true) (
          none) (
          some ((d.1.1, d.1.2.1, d.1.2.2.1, d.1.2.2.2.1, false, ()), ())))))
theorem ref1_LineUnits_C2_a (E : AppE prog pcN pc lN lp) {d : ref1_LineUnits_C2_D} : Approx (fun N => ref1_LineUnits_C2 (pcN N) (lN N) d) (ref1_LineUnits_C2 pc lp d) := by
  delta ref1_LineUnits_C2
  exact (Approx.bnd (Approx.bnd (ref1_In_ca E) fun x27 => (Approx.const _)) fun x28 => (Approx.ifd (Approx.ifd (Approx.ifd (Approx.ifd (Approx.ifd (Approx.const _) Approx.none) Approx.none) (Approx.bnd (Approx.bnd (ref1_Blank_ca E) fun x29 => (Approx.const _)) fun x30 => (Approx.ifd (Approx.ifd (Approx.ifd (Approx.const _) Approx.none) (Approx.ifd (Approx.ifd (Approx.const _) (Approx.const _)) (Approx.ifd (Approx.const _) (Approx.const _)))) (Approx.ifd (Approx.ifd (Approx.const _) Approx.none) (Approx.ifd (Approx.ifd (Approx.const _) Approx.none) (Approx.ifd (Approx.const _) (Approx.const _))))))) (Approx.bnd (Approx.bnd (ref1_Blank_ca E) fun x31 => (Approx.const _)) fun x32 => (Approx.ifd (Approx.ifd (Approx.const _) (Approx.const _)) (Approx.ifd Approx.none (Approx.const _))))) (Approx.ifd Approx.none (Approx.bnd (Approx.bnd (ref1_Blank_ca E) fun x33 => (Approx.const _)) fun x34 => (Approx.ifd (Approx.ifd (Approx.const _) (Approx.const _)) (Approx.ifd Approx.none (Approx.const _)))))))

-- ref1_LineUnits, loop 58
abbrev ref1_LineUnits_L3_D := (((List Int) × ((List (List Int)) × (Int × Unit))) × Unit)
abbrev ref1_LineUnits_L3_X := (((List (List Int)) × Unit) × Unit)
noncomputable def ref1_LineUnits_L3_R (pc : PC prog) (lp : LP) (ψ : ref1_LineUnits_L3_D → Option ref1_LineUnits_L3_X) (d : ref1_LineUnits_L3_D) : Option ref1_LineUnits_L3_X :=
  ifd ((decide (d.1.2.2.1 < (((List.length d.1.1) : Nat) : Int))) = true) (
    ifd ((decide (((0 : Int) ≤ d.1.2.2.1) ∧ (d.1.2.2.1 < (((List.length d.1.1) : Nat) : Int)))) = true) (
      bnd (ref1_LineUnits_C2 pc lp ((d.1.1, d.1.2.1, d.1.2.2.1, (List.getD d.1.1 (Int.toNat d.1.2.2.1) 0), ()), ())) (fun (y41 : (((List Int) × ((List (List Int)) × (Int × (Int × (Bool × Unit))))) × Unit)) =>
      ifd (y41.1.2.2.2.2.1 = true) (
        ifd ((decide ((((List.length y41.1.2.1) + (List.length ([([y41.1.2.2.2.1] : List Int)] : List (List Int)))) * 16) ≤ 140737488355328)) = true) (
          ψ ((y41.1.1, (y41.1.2.1 ++ ([([y41.1.2.2.2.1] : List Int)] : List (List Int))), (Go.IntKind.wrap .i64 (y41.1.2.2.1 + 1)), ()), ())) (
          none)) (
        bnd (bnd (ref1_Two_c pc y41.1.2.2.2.1) fun (x42 : (List Int)) =>
        some x42) fun (x43 : (List Int)) =>
        ifd ((decide (((List.length ([61] : List Int)) + (List.length x43)) ≤ 9223372036854775807)) = true) (
          ifd ((decide ((((List.length y41.1.2.1) + (List.length ([(([61] : List Int) ++ x43)] : List (List Int)))) * 16) ≤ 140737488355328)) = true) (
            ψ ((y41.1.1, (y41.1.2.1 ++ ([(([61] : List Int) ++ x43)] : List (List Int))), (Go.IntKind.wrap .i64 (y41.1.2.2.1 + 1)), ()), ())) (
            none)) (
          none)))) (
      none)) (
    some ((d.1.2.1, ()), ()))
noncomputable def ref1_LineUnits_L3 (pc : PC prog) (lp : LP) (d : ref1_LineUnits_L3_D) : Option ref1_LineUnits_L3_X := lp ref1_LineUnits_L3_D ref1_LineUnits_L3_X (ref1_LineUnits_L3_R pc lp) d
theorem ref1_LineUnits_L3_ap (E : AppE prog pcN pc lN lp) : ContR (fun N => ref1_LineUnits_L3_R (pcN N) (lN N)) (ref1_LineUnits_L3_R pc lp) := fun ψN ψ h d => by
  delta ref1_LineUnits_L3_R
  exact (Approx.ifd (Approx.ifd (Approx.bnd (ref1_LineUnits_C2_a E) (fun y41 => (Approx.ifd (Approx.ifd (h _) Approx.none) (Approx.bnd (Approx.bnd (ref1_Two_ca E) fun x42 => (Approx.const _)) fun x43 => (Approx.ifd (Approx.ifd (h _) Approx.none) Approx.none))))) Approx.none) (Approx.const _))
theorem ref1_LineUnits_L3_a (E : AppE prog pcN pc lN lp) {d : ref1_LineUnits_L3_D} : Approx (fun N => ref1_LineUnits_L3 (pcN N) (lN N) d) (ref1_LineUnits_L3 pc lp d) := E.loop (ref1_LineUnits_L3_ap E) d
theorem ref1_LineUnits_L3_of {d : ref1_LineUnits_L3_D} {x : ref1_LineUnits_L3_X} (h : ref1_LineUnits_L3_R (pcL prog cfg) lpL (ref1_LineUnits_L3 (pcL prog cfg) lpL) d = some x) : ref1_LineUnits_L3 (pcL prog cfg) lpL d = some x := lpL_step (ref1_LineUnits_L3_ap (appL prog cfg)) h

noncomputable def ref1_LineUnits_B (pc : PC prog) (lp : LP) (a0 : List Int) : Option (List (List Int)) :=
  bnd (ref1_LineUnits_L3 pc lp ((a0, ([] : List (List Int)), 0, ()), ())) (fun (y44 : (((List (List Int)) × Unit) × Unit)) =>
  some y44.1.1)
theorem ref1_LineUnits_eq (a0 : List Int) (pc : PC prog) (lp : LP) : got ref1_LineUnits_t (pcall prog (runO prog cfg (hand prog cfg lp pc 6 tbl 5) pc 6) 20 [(.c (.slice .ro (.int .u8) a0))]) = ref1_LineUnits_B pc lp a0 := by kernel_rfl
theorem ref1_LineUnits_ap (E : AppE prog pcN pc lN lp) (a0 : List Int) : Approx (fun N => ref1_LineUnits_B (pcN N) (lN N) a0) (ref1_LineUnits_B pc lp a0) := by
  delta ref1_LineUnits_B
  exact (Approx.bnd (ref1_LineUnits_L3_a E) (fun y44 => (Approx.const _)))
theorem ref1_LineUnits_of {a0 : List Int} {y : (List (List Int))} (h : ref1_LineUnits_B (pcL prog cfg) lpL a0 = some y) : ref1_LineUnits_c (pcL prog cfg) a0 = some y := fn_of rfl (ref1_LineUnits_eq a0) (ref1_LineUnits_ap (appN prog cfg) a0) h

-- quoted_Loose, part 1814
abbrev quoted_Loose_C1_D := ((Unit × ((List Int) × ((List Int) × (Bool × ((List Int) × Unit))))) × Unit)
abbrev quoted_Loose_C1_X := ((Unit × ((List Int) × ((List Int) × (Bool × ((List Int) × (Bool × Unit)))))) × Unit)
noncomputable def quoted_Loose_C1 (pc : PC prog) (lp : LP) (d : quoted_Loose_C1_D) : Option quoted_Loose_C1_X :=
  ifd (d.1.2.2.2.1 = true) (
    ifd (d.1.2.2.2.1 = true) (
      ifd ((decide ((((List.length d.1.2.1) : Nat) : Int) > 0)) = true) (
        ifd ((decide (((0 : Int) ≤ (Go.IntKind.wrap .i64 ((((List.length d.1.2.1) : Nat) : Int) - 1))) ∧ ((Go.IntKind.wrap .i64 ((((List.length d.1.2.1) : Nat) : Int) - 1)) < (((List.length d.1.2.1) : Nat) : Int)))) = true) (
          ifd ((decide ((((List.length d.1.2.1) : Nat) : Int) > 0)) = true) (
            some (((), d.1.2.1, d.1.2.2.1, d.1.2.2.2.1, d.1.2.2.2.2.1, ((List.getD d.1.2.1 (Int.toNat (Go.IntKind.wrap .i64 ((((List.length d.1.2.1) : Nat) : Int) - 1))) 0) == 13), ()), ())) (
            some (((), d.1.2.1, d.1.2.2.1, d.1.2.2.2.1, d.1.2.2.2.2.1, false, ()), ()))) (
          none)) (
        ifd ((decide ((((List.length d.1.2.1) : Nat) : Int) > 0)) = true) (
          none) (
          some (((), d.1.2.1, d.1.2.2.1, d.1.2.2.2.1, d.1.2.2.2.2.1, false, ()), ())))) (
      some (((), d.1.2.1, d.1.2.2.1, d.1.2.2.2.1, d.1.2.2.2.2.1, false, ()), ()))) (
    ifd (d.1.2.2.2.1 = true) (
      none) (
      some (((), d.1.2.1, d.1.2.2.1, d.1.2.2.2.1, d.1.2.2.2.2.1, false, ()), ())))
theorem quoted_Loose_C1_a (E : AppE prog pcN pc lN lp) {d : quoted_Loose_C1_D} : Approx (fun N => quoted_Loose_C1 (pcN N) (lN N) d) (quoted_Loose_C1 pc lp d) := by
  delta quoted_Loose_C1
  exact (Approx.ifd (Approx.ifd (Approx.ifd (Approx.ifd (Approx.ifd (Approx.const _) (Approx.const _)) Approx.none) (Approx.ifd Approx.none (Approx.const _))) (Approx.const _)) (Approx.ifd Approx.none (Approx.const _)))

-- quoted_Loose, part 907
abbrev quoted_Loose_C2_D := ((Unit × ((List Int) × ((List Int) × (Bool × ((List Int) × Unit))))) × Unit)
abbrev quoted_Loose_C2_X := ((Unit × ((List Int) × ((List Int) × (Bool × ((List Int) × Unit))))) × Unit)
noncomputable def quoted_Loose_C2 (pc : PC prog) (lp : LP) (d : quoted_Loose_C2_D) : Option quoted_Loose_C2_X :=
  bnd (quoted_Loose_C1 pc lp (((), d.1.2.1, d.1.2.2.1, d.1.2.2.2.1, d.1.2.2.2.2.1, ()), ())) (fun (y3 : ((Unit × ((List Int) × ((List Int) × (Bool × ((List Int) × (Bool × Unit)))))) × Unit)) =>
  ifd (y3.1.2.2.2.2.2.1 = true) (
    ifd ((decide (((0 : Int) ≤ 0) ∧ (((0 : Int) ≤ (Go.IntKind.wrap .i64 ((((List.length y3.1.2.1) : Nat) : Int) - 1))) ∧ ((Go.IntKind.wrap .i64 ((((List.length y3.1.2.1) : Nat) : Int) - 1)) ≤ (((List.length y3.1.2.1) : Nat) : Int))))) = true) (
      some (((), (List.drop (Int.toNat 0) (List.take (Int.toNat (Go.IntKind.wrap .i64 ((((List.length y3.1.2.1) : Nat) : Int) - 1))) y3.1.2.1)), y3.1.2.2.1, y3.1.2.2.2.1, ([13, 10] : List Int), ()), ())) (
      none)) (
    some (((), y3.1.2.1, y3.1.2.2.1, y3.1.2.2.2.1, y3.1.2.2.2.2.1, ()), ())))
theorem quoted_Loose_C2_a (E : AppE prog pcN pc lN lp) {d : quoted_Loose_C2_D} : Approx (fun N => quoted_Loose_C2 (pcN N) (lN N) d) (quoted_Loose_C2 pc lp d) := by
  delta quoted_Loose_C2
  exact (Approx.bnd (quoted_Loose_C1_a E) (fun y3 => (Approx.ifd (Approx.ifd (Approx.const _) Approx.none) (Approx.const _))))

-- quoted_Loose, part 1814
abbrev quoted_Loose_C3_D := (((List Int) × ((List Int) × ((List Int) × (Bool × ((List Int) × Unit))))) × Unit)
abbrev quoted_Loose_C3_X := (((List Int) × ((List Int) × ((List Int) × (Bool × ((List Int) × (Bool × Unit)))))) × Unit)
noncomputable def quoted_Loose_C3 (pc : PC prog) (lp : LP) (d : quoted_Loose_C3_D) : Option quoted_Loose_C3_X :=
  ifd (d.1.2.2.2.1 = true) (
    ifd (d.1.2.2.2.1 = true) (
      ifd ((decide ((((List.length d.1.2.1) : Nat) : Int) > 0)) = true) (
        ifd ((decide (((0 : Int) ≤ (Go.IntKind.wrap .i64 ((((List.length d.1.2.1) : Nat) : Int) - 1))) ∧ ((Go.IntKind.wrap .i64 ((((List.length d.1.2.1) : Nat) : Int) - 1)) < (((List.length d.1.2.1) : Nat) : Int)))) = true) (
          ifd ((decide ((((List.length d.1.2.1) : Nat) : Int) > 0)) = true) (
            some ((d.1.1, d.1.2.1, d.1.2.2.1, d.1.2.2.2.1, d.1.2.2.2.2.1, ((List.getD d.1.2.1 (Int.toNat (Go.IntKind.wrap .i64 ((((List.length d.1.2.1) : Nat) : Int) - 1))) 0) == 13), ()), ())) (
            some ((d.1.1, d.1.2.1, d.1.2.2.1, d.1.2.2.2.1, d.1.2.2.2.2.1, false, ()), ()))) (
          none)) (
        ifd ((decide ((((List.length d.1.2.1) : Nat) : Int) > 0)) = true) (
          none) (
          some ((d.1.1, d.1.2.1, d.1.2.2.1, d.1.2.2.2.1, d.1.2.2.2.2.1, false, ()), ())))) (
      some ((d.1.1, d.1.2.1, d.1.2.2.1, d.1.2.2.2.1, d.1.2.2.2.2.1, false, ()), ()))) (
    ifd (d.1.2.2.2.1 = true) (
      none) (
      some ((d.1.1, d.1.2.1, d.1.2.2.1, d.1.2.2.2.1, d.1.2.2.2.2.1, false, ()), ())))
theorem quoted_Loose_C3_a (E : AppE prog pcN pc lN lp) {d : quoted_Loose_C3_D} : Approx (fun N => quoted_Loose_C3 (pcN N) (lN N) d) (quoted_Loose_C3 pc lp d) := by
  delta quoted_Loose_C3
  exact (Approx.ifd (Approx.ifd (Approx.ifd (Approx.ifd (Approx.ifd (Approx.const _) (Approx.const _)) Approx.none) (Approx.ifd Approx.none (Approx.const _))) (Approx.const _)) (Approx.ifd Approx.none (Approx.const _)))

-- quoted_Loose, part 907
abbrev quoted_Loose_C4_D := (((List Int) × ((List Int) × ((List Int) × (Bool × ((List Int) × Unit))))) × Unit)
abbrev quoted_Loose_C4_X := (((List Int) × ((List Int) × ((List Int) × (Bool × ((List Int) × Unit))))) × Unit)
noncomputable def quoted_Loose_C4 (pc : PC prog) (lp : LP) (d : quoted_Loose_C4_D) : Option quoted_Loose_C4_X :=
  bnd (quoted_Loose_C3 pc lp ((d.1.1, d.1.2.1, d.1.2.2.1, d.1.2.2.2.1, d.1.2.2.2.2.1, ()), ())) (fun (y10 : (((List Int) × ((List Int) × ((List Int) × (Bool × ((List Int) × (Bool × Unit)))))) × Unit)) =>
  ifd (y10.1.2.2.2.2.2.1 = true) (
    ifd ((decide (((0 : Int) ≤ 0) ∧ (((0 : Int) ≤ (Go.IntKind.wrap .i64 ((((List.length y10.1.2.1) : Nat) : Int) - 1))) ∧ ((Go.IntKind.wrap .i64 ((((List.length y10.1.2.1) : Nat) : Int) - 1)) ≤ (((List.length y10.1.2.1) : Nat) : Int))))) = true) (
      some ((y10.1.1, (List.drop (Int.toNat 0) (List.take (Int.toNat (Go.IntKind.wrap .i64 ((((List.length y10.1.2.1) : Nat) : Int) - 1))) y10.1.2.1)), y10.1.2.2.1, y10.1.2.2.2.1, ([13, 10] : List Int), ()), ())) (
      none)) (
    some ((y10.1.1, y10.1.2.1, y10.1.2.2.1, y10.1.2.2.2.1, y10.1.2.2.2.2.1, ()), ())))
theorem quoted_Loose_C4_a (E : AppE prog pcN pc lN lp) {d : quoted_Loose_C4_D} : Approx (fun N => quoted_Loose_C4 (pcN N) (lN N) d) (quoted_Loose_C4 pc lp d) := by
  delta quoted_Loose_C4
  exact (Approx.bnd (quoted_Loose_C3_a E) (fun y10 => (Approx.ifd (Approx.ifd (Approx.const _) Approx.none) (Approx.const _))))

-- quoted_Loose, loop 28
abbrev quoted_Loose_L5_D := (((List Int) × ((List Int) × Unit)) × Unit)
abbrev quoted_Loose_L5_X := (((List Int) × Unit) × Unit)
noncomputable def quoted_Loose_L5_R (pc : PC prog) (lp : LP) (ψ : quoted_Loose_L5_D → Option quoted_Loose_L5_X) (d : quoted_Loose_L5_D) : Option quoted_Loose_L5_X :=
  ifd ((decide ((((List.length d.1.1) : Nat) : Int) > 0)) = true) (
    bnd (bnd (bytes_Cut_c pc d.1.1 ([10] : List Int)) fun (x19 : ((List Int) × ((List Int) × (Bool × Unit)))) =>
    some (x19.1, (x19.2.1, (x19.2.2.1, ())))) fun (x20 : ((List Int) × ((List Int) × (Bool × Unit)))) =>
    bnd (quoted_Loose_C4 pc lp ((d.1.2.1, x20.1, x20.2.1, x20.2.2.1, ([10] : List Int), ()), ())) (fun (y21 : (((List Int) × ((List Int) × ((List Int) × (Bool × ((List Int) × Unit))))) × Unit)) =>
    bnd (bnd (quoted_line_c pc y21.1.2.1) fun (x22 : ((List Int) × (Bool × Unit))) =>
    some (x22.1, (x22.2.1, ()))) fun (x23 : ((List Int) × (Bool × Unit))) =>
    ifd ((decide ((((List.length y21.1.1) + (List.length x23.1)) * 1) ≤ 140737488355328)) = true) (
      ifd (y21.1.2.2.2.1 = true) (
        ifd (y21.1.2.2.2.1 = true) (
          ifd ((!x23.2.1) = true) (
            ifd ((decide ((((List.length (y21.1.1 ++ x23.1)) + (List.length y21.1.2.2.2.2.1)) * 1) ≤ 140737488355328)) = true) (
              ψ ((y21.1.2.2.1, ((y21.1.1 ++ x23.1) ++ y21.1.2.2.2.2.1), ()), ())) (
              none)) (
            ψ ((y21.1.2.2.1, (y21.1.1 ++ x23.1), ()), ()))) (
          ψ ((y21.1.2.2.1, (y21.1.1 ++ x23.1), ()), ()))) (
        ifd (y21.1.2.2.2.1 = true) (
          none) (
          ψ ((y21.1.2.2.1, (y21.1.1 ++ x23.1), ()), ())))) (
      none))) (
    some ((d.1.2.1, ()), ()))
noncomputable def quoted_Loose_L5 (pc : PC prog) (lp : LP) (d : quoted_Loose_L5_D) : Option quoted_Loose_L5_X := lp quoted_Loose_L5_D quoted_Loose_L5_X (quoted_Loose_L5_R pc lp) d
theorem quoted_Loose_L5_ap (E : AppE prog pcN pc lN lp) : ContR (fun N => quoted_Loose_L5_R (pcN N) (lN N)) (quoted_Loose_L5_R pc lp) := fun ψN ψ h d => by
  delta quoted_Loose_L5_R
  exact (Approx.ifd (Approx.bnd (Approx.bnd (bytes_Cut_ca E) fun x19 => (Approx.const _)) fun x20 => (Approx.bnd (quoted_Loose_C4_a E) (fun y21 => (Approx.bnd (Approx.bnd (quoted_line_ca E) fun x22 => (Approx.const _)) fun x23 => (Approx.ifd (Approx.ifd (Approx.ifd (Approx.ifd (Approx.ifd (h _) Approx.none) (h _)) (h _)) (Approx.ifd Approx.none (h _))) Approx.none))))) (Approx.const _))
theorem quoted_Loose_L5_a (E : AppE prog pcN pc lN lp) {d : quoted_Loose_L5_D} : Approx (fun N => quoted_Loose_L5 (pcN N) (lN N) d) (quoted_Loose_L5 pc lp d) := E.loop (quoted_Loose_L5_ap E) d
theorem quoted_Loose_L5_of {d : quoted_Loose_L5_D} {x : quoted_Loose_L5_X} (h : quoted_Loose_L5_R (pcL prog cfg) lpL (quoted_Loose_L5 (pcL prog cfg) lpL) d = some x) : quoted_Loose_L5 (pcL prog cfg) lpL d = some x := lpL_step (quoted_Loose_L5_ap (appL prog cfg)) h

noncomputable def quoted_Loose_B (pc : PC prog) (lp : LP) (a0 : List Int) : Option (List Int) :=
  bnd (quoted_Loose_L5 pc lp ((a0, ([] : List Int), ()), ())) (fun (y24 : (((List Int) × Unit) × Unit)) =>
  some y24.1.1)
theorem quoted_Loose_eq (a0 : List Int) (pc : PC prog) (lp : LP) : got quoted_Loose_t (pcall prog (runO prog cfg (hand prog cfg lp pc 6 tbl 5) pc 6) 21 [(.c (.slice .ro (.int .u8) a0))]) = quoted_Loose_B pc lp a0 := by kernel_rfl
theorem quoted_Loose_ap (E : AppE prog pcN pc lN lp) (a0 : List Int) : Approx (fun N => quoted_Loose_B (pcN N) (lN N) a0) (quoted_Loose_B pc lp a0) := by
  delta quoted_Loose_B
  exact (Approx.bnd (quoted_Loose_L5_a E) (fun y24 => (Approx.const _)))
theorem quoted_Loose_of {a0 : List Int} {y : (List Int)} (h : quoted_Loose_B (pcL prog cfg) lpL a0 = some y) : quoted_Loose_c (pcL prog cfg) a0 = some y := fn_of rfl (quoted_Loose_eq a0) (quoted_Loose_ap (appN prog cfg) a0) h

-- ref1_Hex, loop 26
abbrev ref1_Hex_L1_D := ((Int × (Int × Unit)) × Unit)
abbrev ref1_Hex_L1_X := (((Int × Unit) × Unit) ⊕ (Unit × Unit))
noncomputable def ref1_Hex_L1_R (pc : PC prog) (lp : LP) (ψ : ref1_Hex_L1_D → Option ref1_Hex_L1_X) (d : ref1_Hex_L1_D) : Option ref1_Hex_L1_X :=
  ifd ((decide (d.1.2.1 < 16)) = true) (
    ifd ((decide (((0 : Int) ≤ d.1.2.1) ∧ (d.1.2.1 < (((List.length ([48, 49, 50, 51, 52, 53, 54, 55, 56, 57, 65, 66, 67, 68, 69, 70] : List Int)) : Nat) : Int)))) = true) (
      ifd (((List.getD ([48, 49, 50, 51, 52, 53, 54, 55, 56, 57, 65, 66, 67, 68, 69, 70] : List Int) (Int.toNat d.1.2.1) 0) == d.1.1) = true) (
        ifd (((List.getD ([48, 49, 50, 51, 52, 53, 54, 55, 56, 57, 65, 66, 67, 68, 69, 70] : List Int) (Int.toNat d.1.2.1) 0) == d.1.1) = true) (
          some (Sum.inl ((d.1.2.1, ()), ()))) (
          none)) (
        bnd (bnd (ref1_Lower_c pc ([48, 49, 50, 51, 52, 53, 54, 55, 56, 57, 65, 66, 67, 68, 69, 70] : List Int)) fun (x2 : (List Int)) =>
        some x2) fun (x3 : (List Int)) =>
        ifd ((decide (((0 : Int) ≤ d.1.2.1) ∧ (d.1.2.1 < (((List.length x3) : Nat) : Int)))) = true) (
          ifd (((List.getD ([48, 49, 50, 51, 52, 53, 54, 55, 56, 57, 65, 66, 67, 68, 69, 70] : List Int) (Int.toNat d.1.2.1) 0) == d.1.1) = true) (
            some (Sum.inl ((d.1.2.1, ()), ()))) (
            ifd (((List.getD x3 (Int.toNat d.1.2.1) 0) == d.1.1) = true) (
              some (Sum.inl ((d.1.2.1, ()), ()))) (
              ψ ((d.1.1, (Go.IntKind.wrap .i64 (d.1.2.1 + 1)), ()), ())))) (
          none))) (
      none)) (
    some (Sum.inr ((), ())))
noncomputable def ref1_Hex_L1 (pc : PC prog) (lp : LP) (d : ref1_Hex_L1_D) : Option ref1_Hex_L1_X := lp ref1_Hex_L1_D ref1_Hex_L1_X (ref1_Hex_L1_R pc lp) d
theorem ref1_Hex_L1_ap (E : AppE prog pcN pc lN lp) : ContR (fun N => ref1_Hex_L1_R (pcN N) (lN N)) (ref1_Hex_L1_R pc lp) := fun ψN ψ h d => by
  delta ref1_Hex_L1_R
  exact (Approx.ifd (Approx.ifd (Approx.ifd (Approx.ifd (Approx.const _) Approx.none) (Approx.bnd (Approx.bnd (ref1_Lower_ca E) fun x2 => (Approx.const _)) fun x3 => (Approx.ifd (Approx.ifd (Approx.const _) (Approx.ifd (Approx.const _) (h _))) Approx.none))) Approx.none) (Approx.const _))
theorem ref1_Hex_L1_a (E : AppE prog pcN pc lN lp) {d : ref1_Hex_L1_D} : Approx (fun N => ref1_Hex_L1 (pcN N) (lN N) d) (ref1_Hex_L1 pc lp d) := E.loop (ref1_Hex_L1_ap E) d
theorem ref1_Hex_L1_of {d : ref1_Hex_L1_D} {x : ref1_Hex_L1_X} (h : ref1_Hex_L1_R (pcL prog cfg) lpL (ref1_Hex_L1 (pcL prog cfg) lpL) d = some x) : ref1_Hex_L1 (pcL prog cfg) lpL d = some x := lpL_step (ref1_Hex_L1_ap (appL prog cfg)) h

noncomputable def ref1_Hex_B (pc : PC prog) (lp : LP) (a0 : Int) : Option Int :=
  bnd (ref1_Hex_L1 pc lp ((a0, 0, ()), ())) (Sum.elim (fun (y4 : ((Int × Unit) × Unit)) =>
  some y4.1.1) (fun (y5 : (Unit × Unit)) =>
  some (-1)))
theorem ref1_Hex_eq (a0 : Int) (pc : PC prog) (lp : LP) : got ref1_Hex_t (pcall prog (runO prog cfg (hand prog cfg lp pc 6 tbl 5) pc 6) 22 [(.c (.int .u8 a0))]) = ref1_Hex_B pc lp a0 := by kernel_rfl
theorem ref1_Hex_ap (E : AppE prog pcN pc lN lp) (a0 : Int) : Approx (fun N => ref1_Hex_B (pcN N) (lN N) a0) (ref1_Hex_B pc lp a0) := by
  delta ref1_Hex_B
  exact (Approx.bnd (ref1_Hex_L1_a E) (Approx.sum (fun y4 => (Approx.const _)) (fun y5 => (Approx.const _))))
theorem ref1_Hex_of {a0 : Int} {y : Int} (h : ref1_Hex_B (pcL prog cfg) lpL a0 = some y) : ref1_Hex_c (pcL prog cfg) a0 = some y := fn_of rfl (ref1_Hex_eq a0) (ref1_Hex_ap (appN prog cfg) a0) h

noncomputable def bytes_Equal_B (pc : PC prog) (lp : LP) (a0 : List Int) (a1 : List Int) : Option Bool :=
  some (a0 == a1)
theorem bytes_Equal_eq (a0 : List Int) (a1 : List Int) (pc : PC prog) (lp : LP) : got bytes_Equal_t (pcall prog (runO prog cfg (hand prog cfg lp pc 6 tbl 5) pc 6) 23 [(.c (.slice .ro (.int .u8) a0)), (.c (.slice .ro (.int .u8) a1))]) = bytes_Equal_B pc lp a0 a1 := by kernel_rfl
theorem bytes_Equal_ap (E : AppE prog pcN pc lN lp) (a0 : List Int) (a1 : List Int) : Approx (fun N => bytes_Equal_B (pcN N) (lN N) a0 a1) (bytes_Equal_B pc lp a0 a1) := by
  delta bytes_Equal_B
  exact (Approx.const _)
theorem bytes_Equal_of {a0 : List Int} {a1 : List Int} {y : Bool} (h : bytes_Equal_B (pcL prog cfg) lpL a0 a1 = some y) : bytes_Equal_c (pcL prog cfg) a0 a1 = some y := fn_of rfl (bytes_Equal_eq a0 a1) (bytes_Equal_ap (appN prog cfg) a0 a1) h

noncomputable def quoted_atLineEnd_B (pc : PC prog) (lp : LP) (a0 : List Int) (a1 : Int) : Option Bool :=
  ifd ((a1 == (((List.length a0) : Nat) : Int)) = true) (
    ifd ((a1 == (((List.length a0) : Nat) : Int)) = true) (
      ifd ((a1 == (((List.length a0) : Nat) : Int)) = true) (
        ifd ((a1 == (((List.length a0) : Nat) : Int)) = true) (
          some true) (
          none)) (
        none)) (
      none)) (
    ifd ((decide (((0 : Int) ≤ a1) ∧ (a1 < (((List.length a0) : Nat) : Int)))) = true) (
      ifd (((List.getD a0 (Int.toNat a1) 0) == 13) = true) (
        ifd ((a1 == (((List.length a0) : Nat) : Int)) = true) (
          ifd ((a1 == (((List.length a0) : Nat) : Int)) = true) (
            ifd ((a1 == (((List.length a0) : Nat) : Int)) = true) (
              some true) (
              none)) (
            none)) (
          ifd (((List.getD a0 (Int.toNat a1) 0) == 13) = true) (
            ifd ((decide ((Go.IntKind.wrap .i64 (a1 + 1)) < (((List.length a0) : Nat) : Int))) = true) (
              ifd ((decide (((0 : Int) ≤ (Go.IntKind.wrap .i64 (a1 + 1))) ∧ ((Go.IntKind.wrap .i64 (a1 + 1)) < (((List.length a0) : Nat) : Int)))) = true) (
                ifd ((a1 == (((List.length a0) : Nat) : Int)) = true) (
                  ifd ((a1 == (((List.length a0) : Nat) : Int)) = true) (
                    some true) (
                    none)) (
                  ifd ((decide ((Go.IntKind.wrap .i64 (a1 + 1)) < (((List.length a0) : Nat) : Int))) = true) (
                    ifd ((a1 == (((List.length a0) : Nat) : Int)) = true) (
                      some true) (
                      some ((List.getD a0 (Int.toNat (Go.IntKind.wrap .i64 (a1 + 1))) 0) == 10))) (
                    ifd ((a1 == (((List.length a0) : Nat) : Int)) = true) (
                      some true) (
                      some false)))) (
                none)) (
              ifd ((a1 == (((List.length a0) : Nat) : Int)) = true) (
                ifd ((a1 == (((List.length a0) : Nat) : Int)) = true) (
                  some true) (
                  none)) (
                ifd ((decide ((Go.IntKind.wrap .i64 (a1 + 1)) < (((List.length a0) : Nat) : Int))) = true) (
                  ifd ((a1 == (((List.length a0) : Nat) : Int)) = true) (
                    some true) (
                    none)) (
                  ifd ((a1 == (((List.length a0) : Nat) : Int)) = true) (
                    some true) (
                    some false))))) (
            ifd ((a1 == (((List.length a0) : Nat) : Int)) = true) (
              ifd ((a1 == (((List.length a0) : Nat) : Int)) = true) (
                some true) (
                none)) (
              ifd ((a1 == (((List.length a0) : Nat) : Int)) = true) (
                some true) (
                some false))))) (
        ifd ((a1 == (((List.length a0) : Nat) : Int)) = true) (
          ifd ((a1 == (((List.length a0) : Nat) : Int)) = true) (
            ifd ((a1 == (((List.length a0) : Nat) : Int)) = true) (
              some true) (
              none)) (
            none)) (
          ifd (((List.getD a0 (Int.toNat a1) 0) == 13) = true) (
            ifd ((a1 == (((List.length a0) : Nat) : Int)) = true) (
              ifd ((a1 == (((List.length a0) : Nat) : Int)) = true) (
                some true) (
                none)) (
              none)) (
            ifd ((a1 == (((List.length a0) : Nat) : Int)) = true) (
              ifd ((a1 == (((List.length a0) : Nat) : Int)) = true) (
                some true) (
                none)) (
              ifd ((a1 == (((List.length a0) : Nat) : Int)) = true) (
                some true) (
                some false)))))) (
      none))
theorem quoted_atLineEnd_eq (a0 : List Int) (a1 : Int) (pc : PC prog) (lp : LP) : got quoted_atLineEnd_t (pcall prog (runO prog cfg (hand prog cfg lp pc 6 tbl 5) pc 6) 24 [(.c (.slice .ro (.int .u8) a0)), (.c (.int .i64 a1))]) = quoted_atLineEnd_B pc lp a0 a1 := by kernel_rfl
theorem quoted_atLineEnd_ap (E : AppE prog pcN pc lN lp) (a0 : List Int) (a1 : Int) : Approx (fun N => quoted_atLineEnd_B (pcN N) (lN N) a0 a1) (quoted_atLineEnd_B pc lp a0 a1) := by
  delta quoted_atLineEnd_B
  exact (Approx.ifd (Approx.ifd (Approx.ifd (Approx.ifd (Approx.const _) Approx.none) Approx.none) Approx.none) (Approx.ifd (Approx.ifd (Approx.ifd (Approx.ifd (Approx.ifd (Approx.const _) Approx.none) Approx.none) (Approx.ifd (Approx.ifd (Approx.ifd (Approx.ifd (Approx.ifd (Approx.const _) Approx.none) (Approx.ifd (Approx.ifd (Approx.const _) (Approx.const _)) (Approx.ifd (Approx.const _) (Approx.const _)))) Approx.none) (Approx.ifd (Approx.ifd (Approx.const _) Approx.none) (Approx.ifd (Approx.ifd (Approx.const _) Approx.none) (Approx.ifd (Approx.const _) (Approx.const _))))) (Approx.ifd (Approx.ifd (Approx.const _) Approx.none) (Approx.ifd (Approx.const _) (Approx.const _))))) (Approx.ifd (Approx.ifd (Approx.ifd (Approx.const _) Approx.none) Approx.none) (Approx.ifd (Approx.ifd (Approx.ifd (Approx.const _) Approx.none) Approx.none) (Approx.ifd (Approx.ifd (Approx.const _) Approx.none) (Approx.ifd (Approx.const _) (Approx.const _)))))) Approx.none))
theorem quoted_atLineEnd_of {a0 : List Int} {a1 : Int} {y : Bool} (h : quoted_atLineEnd_B (pcL prog cfg) lpL a0 a1 = some y) : quoted_atLineEnd_c (pcL prog cfg) a0 a1 = some y := fn_of rfl (quoted_atLineEnd_eq a0 a1) (quoted_atLineEnd_ap (appN prog cfg) a0 a1) h

-- quoted_token, part 7
abbrev quoted_token_C1_D := (((List Int) × (Int × (Int × Unit))) × Unit)
abbrev quoted_token_C1_X := ((Int × (Bool × Unit)) × Unit)
noncomputable def quoted_token_C1 (pc : PC prog) (lp : LP) (d : quoted_token_C1_D) : Option quoted_token_C1_X :=
  ifd ((d.1.2.2.1 == 32) = true) (
    ifd ((d.1.2.2.1 == 32) = true) (
      bnd (bnd (quoted_atLineEnd_c pc d.1.1 (Go.IntKind.wrap .i64 (d.1.2.1 + 1))) fun (x6 : Bool) =>
      some x6) fun (x7 : Bool) =>
      some ((d.1.2.2.1, (!x7), ()), ())) (
      none)) (
    ifd ((d.1.2.2.1 == 32) = true) (
      bnd (bnd (quoted_atLineEnd_c pc d.1.1 (Go.IntKind.wrap .i64 (d.1.2.1 + 1))) fun (x8 : Bool) =>
      some x8) fun (x9 : Bool) =>
      some ((d.1.2.2.1, (!x9), ()), ())) (
      ifd ((d.1.2.2.1 == 9) = true) (
        bnd (bnd (quoted_atLineEnd_c pc d.1.1 (Go.IntKind.wrap .i64 (d.1.2.1 + 1))) fun (x10 : Bool) =>
        some x10) fun (x11 : Bool) =>
        ifd ((d.1.2.2.1 == 9) = true) (
          some ((d.1.2.2.1, (!x11), ()), ())) (
          some ((d.1.2.2.1, false, ()), ()))) (
        ifd ((d.1.2.2.1 == 9) = true) (
          none) (
          some ((d.1.2.2.1, false, ()), ())))))
theorem quoted_token_C1_a (E : AppE prog pcN pc lN lp) {d : quoted_token_C1_D} : Approx (fun N => quoted_token_C1 (pcN N) (lN N) d) (quoted_token_C1 pc lp d) := by
  delta quoted_token_C1
  exact (Approx.ifd (Approx.ifd (Approx.bnd (Approx.bnd (quoted_atLineEnd_ca E) fun x6 => (Approx.const _)) fun x7 => (Approx.const _)) Approx.none) (Approx.ifd (Approx.bnd (Approx.bnd (quoted_atLineEnd_ca E) fun x8 => (Approx.const _)) fun x9 => (Approx.const _)) (Approx.ifd (Approx.bnd (Approx.bnd (quoted_atLineEnd_ca E) fun x10 => (Approx.const _)) fun x11 => (Approx.ifd (Approx.const _) (Approx.const _))) (Approx.ifd Approx.none (Approx.const _)))))

noncomputable def quoted_token_B (pc : PC prog) (lp : LP) (a0 : List Int) (a1 : Int) : Option (List Int) :=
  ifd ((decide (((0 : Int) ≤ a1) ∧ (a1 < (((List.length a0) : Nat) : Int)))) = true) (
    bnd (quoted_token_C1 pc lp ((a0, a1, (List.getD a0 (Int.toNat a1) 0), ()), ())) (fun (y12 : ((Int × (Bool × Unit)) × Unit)) =>
    ifd (y12.1.2.1 = true) (
      ifd (y12.1.2.1 = true) (
        ifd (y12.1.2.1 = true) (
          ifd (y12.1.2.1 = true) (
            some ([y12.1.1] : List Int)) (
            none)) (
          none)) (
        none)) (
      ifd ((decide (y12.1.1 > 32)) = true) (
        ifd (y12.1.2.1 = true) (
          ifd (y12.1.2.1 = true) (
            ifd (y12.1.2.1 = true) (
              some ([y12.1.1] : List Int)) (
              none)) (
            none)) (
          ifd ((decide (y12.1.1 > 32)) = true) (
            ifd ((decide (y12.1.1 < 127)) = true) (
              ifd (y12.1.2.1 = true) (
                ifd (y12.1.2.1 = true) (
                  some ([y12.1.1] : List Int)) (
                  none)) (
                ifd ((decide (y12.1.1 < 127)) = true) (
                  ifd (y12.1.2.1 = true) (
                    some ([y12.1.1] : List Int)) (
                    ifd ((y12.1.1 != 61) = true) (
                      some ([y12.1.1] : List Int)) (
                      ifd ((decide (((0 : Int) ≤ (Int.fdiv y12.1.1 ((2 : Int) ^ (min (Int.toNat 4) 8)))) ∧ ((Int.fdiv y12.1.1 ((2 : Int) ^ (min (Int.toNat 4) 8))) < (((List.length ([48, 49, 50, 51, 52, 53, 54, 55, 56, 57, 65, 66, 67, 68, 69, 70] : List Int)) : Nat) : Int)))) = true) (
                        ifd ((decide (((0 : Int) ≤ (ibits .and .u8 y12.1.1 15)) ∧ ((ibits .and .u8 y12.1.1 15) < (((List.length ([48, 49, 50, 51, 52, 53, 54, 55, 56, 57, 65, 66, 67, 68, 69, 70] : List Int)) : Nat) : Int)))) = true) (
                          some ([61, (List.getD ([48, 49, 50, 51, 52, 53, 54, 55, 56, 57, 65, 66, 67, 68, 69, 70] : List Int) (Int.toNat (Int.fdiv y12.1.1 ((2 : Int) ^ (min (Int.toNat 4) 8)))) 0), (List.getD ([48, 49, 50, 51, 52, 53, 54, 55, 56, 57, 65, 66, 67, 68, 69, 70] : List Int) (Int.toNat (ibits .and .u8 y12.1.1 15)) 0)] : List Int)) (
                          none)) (
                        none)))) (
                  ifd (y12.1.2.1 = true) (
                    some ([y12.1.1] : List Int)) (
                    ifd ((decide (((0 : Int) ≤ (Int.fdiv y12.1.1 ((2 : Int) ^ (min (Int.toNat 4) 8)))) ∧ ((Int.fdiv y12.1.1 ((2 : Int) ^ (min (Int.toNat 4) 8))) < (((List.length ([48, 49, 50, 51, 52, 53, 54, 55, 56, 57, 65, 66, 67, 68, 69, 70] : List Int)) : Nat) : Int)))) = true) (
                      ifd ((decide (((0 : Int) ≤ (ibits .and .u8 y12.1.1 15)) ∧ ((ibits .and .u8 y12.1.1 15) < (((List.length ([48, 49, 50, 51, 52, 53, 54, 55, 56, 57, 65, 66, 67, 68, 69, 70] : List Int)) : Nat) : Int)))) = true) (
                        some ([61, (List.getD ([48, 49, 50, 51, 52, 53, 54, 55, 56, 57, 65, 66, 67, 68, 69, 70] : List Int) (Int.toNat (Int.fdiv y12.1.1 ((2 : Int) ^ (min (Int.toNat 4) 8)))) 0), (List.getD ([48, 49, 50, 51, 52, 53, 54, 55, 56, 57, 65, 66, 67, 68, 69, 70] : List Int) (Int.toNat (ibits .and .u8 y12.1.1 15)) 0)] : List Int)) (
                        none)) (
                      none))))) (
              ifd (y12.1.2.1 = true) (
                ifd (y12.1.2.1 = true) (
                  some ([y12.1.1] : List Int)) (
                  none)) (
                ifd ((decide (y12.1.1 < 127)) = true) (
                  ifd (y12.1.2.1 = true) (
                    some ([y12.1.1] : List Int)) (
                    none)) (
                  ifd (y12.1.2.1 = true) (
                    some ([y12.1.1] : List Int)) (
                    ifd ((decide (((0 : Int) ≤ (Int.fdiv y12.1.1 ((2 : Int) ^ (min (Int.toNat 4) 8)))) ∧ ((Int.fdiv y12.1.1 ((2 : Int) ^ (min (Int.toNat 4) 8))) < (((List.length ([48, 49, 50, 51, 52, 53, 54, 55, 56, 57, 65, 66, 67, 68, 69, 70] : List Int)) : Nat) : Int)))) = true) (
                      ifd ((decide (((0 : Int) ≤ (ibits .and .u8 y12.1.1 15)) ∧ ((ibits .and .u8 y12.1.1 15) < (((List.length ([48, 49, 50, 51, 52, 53, 54, 55, 56, 57, 65, 66, 67, 68, 69, 70] : List Int)) : Nat) : Int)))) = true) (
                        some ([61, (List.getD ([48, 49, 50, 51, 52, 53, 54, 55, 56, 57, 65, 66, 67, 68, 69, 70] : List Int) (Int.toNat (Int.fdiv y12.1.1 ((2 : Int) ^ (min (Int.toNat 4) 8)))) 0), (List.getD ([48, 49, 50, 51, 52, 53, 54, 55, 56, 57, 65, 66, 67, 68, 69, 70] : List Int) (Int.toNat (ibits .and .u8 y12.1.1 15)) 0)] : List Int)) (
                        none)) (
                      none)))))) (
            ifd (y12.1.2.1 = true) (
              ifd (y12.1.2.1 = true) (
                some ([y12.1.1] : List Int)) (
                none)) (
              ifd (y12.1.2.1 = true) (
                some ([y12.1.1] : List Int)) (
                ifd ((decide (((0 : Int) ≤ (Int.fdiv y12.1.1 ((2 : Int) ^ (min (Int.toNat 4) 8)))) ∧ ((Int.fdiv y12.1.1 ((2 : Int) ^ (min (Int.toNat 4) 8))) < (((List.length ([48, 49, 50, 51, 52, 53, 54, 55, 56, 57, 65, 66, 67, 68, 69, 70] : List Int)) : Nat) : Int)))) = true) (
                  ifd ((decide (((0 : Int) ≤ (ibits .and .u8 y12.1.1 15)) ∧ ((ibits .and .u8 y12.1.1 15) < (((List.length ([48, 49, 50, 51, 52, 53, 54, 55, 56, 57, 65, 66, 67, 68, 69, 70] : List Int)) : Nat) : Int)))) = true) (
                    some ([61, (List.getD ([48, 49, 50, 51, 52, 53, 54, 55, 56, 57, 65, 66, 67, 68, 69, 70] : List Int) (Int.toNat (Int.fdiv y12.1.1 ((2 : Int) ^ (min (Int.toNat 4) 8)))) 0), (List.getD ([48, 49, 50, 51, 52, 53, 54, 55, 56, 57, 65, 66, 67, 68, 69, 70] : List Int) (Int.toNat (ibits .and .u8 y12.1.1 15)) 0)] : List Int)) (
                    none)) (
                  none)))))) (
        ifd (y12.1.2.1 = true) (
          ifd (y12.1.2.1 = true) (
            ifd (y12.1.2.1 = true) (
              some ([y12.1.1] : List Int)) (
              none)) (
            none)) (
          ifd ((decide (y12.1.1 > 32)) = true) (
            ifd (y12.1.2.1 = true) (
              ifd (y12.1.2.1 = true) (
                some ([y12.1.1] : List Int)) (
                none)) (
              none)) (
            ifd (y12.1.2.1 = true) (
              ifd (y12.1.2.1 = true) (
                some ([y12.1.1] : List Int)) (
                none)) (
              ifd (y12.1.2.1 = true) (
                some ([y12.1.1] : List Int)) (
                ifd ((decide (((0 : Int) ≤ (Int.fdiv y12.1.1 ((2 : Int) ^ (min (Int.toNat 4) 8)))) ∧ ((Int.fdiv y12.1.1 ((2 : Int) ^ (min (Int.toNat 4) 8))) < (((List.length ([48, 49, 50, 51, 52, 53, 54, 55, 56, 57, 65, 66, 67, 68, 69, 70] : List Int)) : Nat) : Int)))) = true) (
                  ifd ((decide (((0 : Int) ≤ (ibits .and .u8 y12.1.1 15)) ∧ ((ibits .and .u8 y12.1.1 15) < (((List.length ([48, 49, 50, 51, 52, 53, 54, 55, 56, 57, 65, 66, 67, 68, 69, 70] : List Int)) : Nat) : Int)))) = true) (
                    some ([61, (List.getD ([48, 49, 50, 51, 52, 53, 54, 55, 56, 57, 65, 66, 67, 68, 69, 70] : List Int) (Int.toNat (Int.fdiv y12.1.1 ((2 : Int) ^ (min (Int.toNat 4) 8)))) 0), (List.getD ([48, 49, 50, 51, 52, 53, 54, 55, 56, 57, 65, 66, 67, 68, 69, 70] : List Int) (Int.toNat (ibits .and .u8 y12.1.1 15)) 0)] : List Int)) (
                    none)) (
                  none))))))))) (
    none)
theorem quoted_token_eq (a0 : List Int) (a1 : Int) (pc : PC prog) (lp : LP) : got quoted_token_t (pcall prog (runO prog cfg (hand prog cfg lp pc 6 tbl 5) pc 6) 25 [(.c (.slice .ro (.int .u8) a0)), (.c (.int .i64 a1))]) = quoted_token_B pc lp a0 a1 := by kernel_rfl
theorem quoted_token_ap (E : AppE prog pcN pc lN lp) (a0 : List Int) (a1 : Int) : Approx (fun N => quoted_token_B (pcN N) (lN N) a0 a1) (quoted_token_B pc lp a0 a1) := by
  delta quoted_token_B
  exact (Approx.ifd (Approx.bnd (quoted_token_C1_a E) (fun y12 => (Approx.ifd (Approx.ifd (Approx.ifd (Approx.ifd (Approx.const _) Approx.none) Approx.none) Approx.none) (Approx.ifd (Approx.ifd (Approx.ifd (Approx.ifd (Approx.const _) Approx.none) Approx.none) (Approx.ifd (Approx.ifd (Approx.ifd (Approx.ifd (Approx.const _) Approx.none) (Approx.ifd (Approx.ifd (Approx.const _) (Approx.ifd (Approx.const _) (Approx.ifd (Approx.ifd (Approx.const _) Approx.none) Approx.none))) (Approx.ifd (Approx.const _) (Approx.ifd (Approx.ifd (Approx.const _) Approx.none) Approx.none)))) (Approx.ifd (Approx.ifd (Approx.const _) Approx.none) (Approx.ifd (Approx.ifd (Approx.const _) Approx.none) (Approx.ifd (Approx.const _) (Approx.ifd (Approx.ifd (Approx.const _) Approx.none) Approx.none))))) (Approx.ifd (Approx.ifd (Approx.const _) Approx.none) (Approx.ifd (Approx.const _) (Approx.ifd (Approx.ifd (Approx.const _) Approx.none) Approx.none))))) (Approx.ifd (Approx.ifd (Approx.ifd (Approx.const _) Approx.none) Approx.none) (Approx.ifd (Approx.ifd (Approx.ifd (Approx.const _) Approx.none) Approx.none) (Approx.ifd (Approx.ifd (Approx.const _) Approx.none) (Approx.ifd (Approx.const _) (Approx.ifd (Approx.ifd (Approx.const _) Approx.none) Approx.none))))))))) Approx.none)
theorem quoted_token_of {a0 : List Int} {a1 : Int} {y : (List Int)} (h : quoted_token_B (pcL prog cfg) lpL a0 a1 = some y) : quoted_token_c (pcL prog cfg) a0 a1 = some y := fn_of rfl (quoted_token_eq a0 a1) (quoted_token_ap (appN prog cfg) a0 a1) h

noncomputable def ref1_Two_B (pc : PC prog) (lp : LP) (a0 : Int) : Option (List Int) :=
  ifd ((decide (((0 : Int) ≤ (Go.IntKind.wrap .u8 (Int.tdiv a0 16))) ∧ (((Go.IntKind.wrap .u8 (Int.tdiv a0 16)) ≤ (Go.IntKind.wrap .u8 ((Go.IntKind.wrap .u8 (Int.tdiv a0 16)) + 1))) ∧ ((Go.IntKind.wrap .u8 ((Go.IntKind.wrap .u8 (Int.tdiv a0 16)) + 1)) ≤ (((List.length ([48, 49, 50, 51, 52, 53, 54, 55, 56, 57, 65, 66, 67, 68, 69, 70] : List Int)) : Nat) : Int))))) = true) (
    ifd ((decide (((0 : Int) ≤ (Int.tmod a0 16)) ∧ (((Int.tmod a0 16) ≤ (Go.IntKind.wrap .u8 ((Int.tmod a0 16) + 1))) ∧ ((Go.IntKind.wrap .u8 ((Int.tmod a0 16) + 1)) ≤ (((List.length ([48, 49, 50, 51, 52, 53, 54, 55, 56, 57, 65, 66, 67, 68, 69, 70] : List Int)) : Nat) : Int))))) = true) (
      ifd ((decide (((List.length (List.drop (Int.toNat (Go.IntKind.wrap .u8 (Int.tdiv a0 16))) (List.take (Int.toNat (Go.IntKind.wrap .u8 ((Go.IntKind.wrap .u8 (Int.tdiv a0 16)) + 1))) ([48, 49, 50, 51, 52, 53, 54, 55, 56, 57, 65, 66, 67, 68, 69, 70] : List Int)))) + (List.length (List.drop (Int.toNat (Int.tmod a0 16)) (List.take (Int.toNat (Go.IntKind.wrap .u8 ((Int.tmod a0 16) + 1))) ([48, 49, 50, 51, 52, 53, 54, 55, 56, 57, 65, 66, 67, 68, 69, 70] : List Int))))) ≤ 9223372036854775807)) = true) (
        some ((List.drop (Int.toNat (Go.IntKind.wrap .u8 (Int.tdiv a0 16))) (List.take (Int.toNat (Go.IntKind.wrap .u8 ((Go.IntKind.wrap .u8 (Int.tdiv a0 16)) + 1))) ([48, 49, 50, 51, 52, 53, 54, 55, 56, 57, 65, 66, 67, 68, 69, 70] : List Int))) ++ (List.drop (Int.toNat (Int.tmod a0 16)) (List.take (Int.toNat (Go.IntKind.wrap .u8 ((Int.tmod a0 16) + 1))) ([48, 49, 50, 51, 52, 53, 54, 55, 56, 57, 65, 66, 67, 68, 69, 70] : List Int))))) (
        none)) (
      none)) (
    none)
theorem ref1_Two_eq (a0 : Int) (pc : PC prog) (lp : LP) : got ref1_Two_t (pcall prog (runO prog cfg (hand prog cfg lp pc 6 tbl 5) pc 6) 26 [(.c (.int .u8 a0))]) = ref1_Two_B pc lp a0 := by kernel_rfl
theorem ref1_Two_ap (E : AppE prog pcN pc lN lp) (a0 : Int) : Approx (fun N => ref1_Two_B (pcN N) (lN N) a0) (ref1_Two_B pc lp a0) := by
  delta ref1_Two_B
  exact (Approx.ifd (Approx.ifd (Approx.ifd (Approx.const _) Approx.none) Approx.none) Approx.none)
theorem ref1_Two_of {a0 : Int} {y : (List Int)} (h : ref1_Two_B (pcL prog cfg) lpL a0 = some y) : ref1_Two_c (pcL prog cfg) a0 = some y := fn_of rfl (ref1_Two_eq a0) (ref1_Two_ap (appN prog cfg) a0) h

noncomputable def bytes_Cut_B (pc : PC prog) (lp : LP) (a0 : List Int) (a1 : List Int) : Option ((List Int) × ((List Int) × (Bool × Unit))) :=
  bnd (bnd (bytes_Index_c pc a0 a1) fun (x0 : Int) =>
  some x0) fun (x1 : Int) =>
  ifd ((decide (x1 ≥ 0)) = true) (
    ifd ((decide (((0 : Int) ≤ 0) ∧ (((0 : Int) ≤ x1) ∧ (x1 ≤ (((List.length a0) : Nat) : Int))))) = true) (
      ifd ((decide (((0 : Int) ≤ (Go.IntKind.wrap .i64 (x1 + (((List.length a1) : Nat) : Int)))) ∧ (((Go.IntKind.wrap .i64 (x1 + (((List.length a1) : Nat) : Int))) ≤ (((List.length a0) : Nat) : Int)) ∧ ((((List.length a0) : Nat) : Int) ≤ (((List.length a0) : Nat) : Int))))) = true) (
        some ((List.drop (Int.toNat 0) (List.take (Int.toNat x1) a0)), ((List.drop (Int.toNat (Go.IntKind.wrap .i64 (x1 + (((List.length a1) : Nat) : Int)))) (List.take (Int.toNat (((List.length a0) : Nat) : Int)) a0)), (true, ())))) (
        none)) (
      none)) (
    some (a0, (([] : List Int), (false, ()))))
theorem bytes_Cut_eq (a0 : List Int) (a1 : List Int) (pc : PC prog) (lp : LP) : got bytes_Cut_t (pcall prog (runO prog cfg (hand prog cfg lp pc 6 tbl 5) pc 6) 27 [(.c (.slice .ro (.int .u8) a0)), (.c (.slice .ro (.int .u8) a1))]) = bytes_Cut_B pc lp a0 a1 := by kernel_rfl
theorem bytes_Cut_ap (E : AppE prog pcN pc lN lp) (a0 : List Int) (a1 : List Int) : Approx (fun N => bytes_Cut_B (pcN N) (lN N) a0 a1) (bytes_Cut_B pc lp a0 a1) := by
  delta bytes_Cut_B
  exact (Approx.bnd (Approx.bnd (bytes_Index_ca E) fun x0 => (Approx.const _)) fun x1 => (Approx.ifd (Approx.ifd (Approx.ifd (Approx.const _) Approx.none) Approx.none) (Approx.const _)))
theorem bytes_Cut_of {a0 : List Int} {a1 : List Int} {y : ((List Int) × ((List Int) × (Bool × Unit)))} (h : bytes_Cut_B (pcL prog cfg) lpL a0 a1 = some y) : bytes_Cut_c (pcL prog cfg) a0 a1 = some y := fn_of rfl (bytes_Cut_eq a0 a1) (bytes_Cut_ap (appN prog cfg) a0 a1) h

-- quoted_line, part 7
abbrev quoted_line_C1_D := (((List Int) × Unit) × Unit)
abbrev quoted_line_C1_X := (((List Int) × (Bool × Unit)) × Unit)
noncomputable def quoted_line_C1 (pc : PC prog) (lp : LP) (d : quoted_line_C1_D) : Option quoted_line_C1_X :=
  ifd ((decide ((((List.length d.1.1) : Nat) : Int) > 0)) = true) (
    ifd ((decide (((0 : Int) ≤ (Go.IntKind.wrap .i64 ((((List.length d.1.1) : Nat) : Int) - 1))) ∧ ((Go.IntKind.wrap .i64 ((((List.length d.1.1) : Nat) : Int) - 1)) < (((List.length d.1.1) : Nat) : Int)))) = true) (
      ifd ((decide ((((List.length d.1.1) : Nat) : Int) > 0)) = true) (
        some ((d.1.1, ((List.getD d.1.1 (Int.toNat (Go.IntKind.wrap .i64 ((((List.length d.1.1) : Nat) : Int) - 1))) 0) == 61), ()), ())) (
        some ((d.1.1, false, ()), ()))) (
      none)) (
    ifd ((decide ((((List.length d.1.1) : Nat) : Int) > 0)) = true) (
      none) (
      some ((d.1.1, false, ()), ())))
theorem quoted_line_C1_a (E : AppE prog pcN pc lN lp) {d : quoted_line_C1_D} : Approx (fun N => quoted_line_C1 (pcN N) (lN N) d) (quoted_line_C1 pc lp d) := by
  delta quoted_line_C1
  exact (Approx.ifd (Approx.ifd (Approx.ifd (Approx.const _) (Approx.const _)) Approx.none) (Approx.ifd Approx.none (Approx.const _)))

-- quoted_line, part 15
abbrev quoted_line_C2_D := (((List Int) × (Bool × Unit)) × Unit)
abbrev quoted_line_C2_X := (((List Int) × (Bool × Unit)) × Unit)
noncomputable def quoted_line_C2 (pc : PC prog) (lp : LP) (d : quoted_line_C2_D) : Option quoted_line_C2_X :=
  ifd (d.1.2.1 = true) (
    ifd ((decide (((0 : Int) ≤ 0) ∧ (((0 : Int) ≤ (Go.IntKind.wrap .i64 ((((List.length d.1.1) : Nat) : Int) - 1))) ∧ ((Go.IntKind.wrap .i64 ((((List.length d.1.1) : Nat) : Int) - 1)) ≤ (((List.length d.1.1) : Nat) : Int))))) = true) (
      some (((List.drop (Int.toNat 0) (List.take (Int.toNat (Go.IntKind.wrap .i64 ((((List.length d.1.1) : Nat) : Int) - 1))) d.1.1)), d.1.2.1, ()), ())) (
      none)) (
    some ((d.1.1, d.1.2.1, ()), ()))
theorem quoted_line_C2_a (E : AppE prog pcN pc lN lp) {d : quoted_line_C2_D} : Approx (fun N => quoted_line_C2 (pcN N) (lN N) d) (quoted_line_C2 pc lp d) := by
  delta quoted_line_C2
  exact (Approx.ifd (Approx.ifd (Approx.const _) Approx.none) (Approx.const _))

-- quoted_line, part 16200
abbrev quoted_line_C3_D := (((List Int) × (Bool × (Unit × (Int × Unit)))) × Unit)
abbrev quoted_line_C3_X := (((List Int) × (Bool × (Unit × (Int × (Bool × Unit))))) × Unit)
noncomputable def quoted_line_C3 (pc : PC prog) (lp : LP) (d : quoted_line_C3_D) : Option quoted_line_C3_X :=
  ifd ((decide (((0 : Int) ≤ d.1.2.2.2.1) ∧ (d.1.2.2.2.1 < (((List.length d.1.1) : Nat) : Int)))) = true) (
    ifd (((List.getD d.1.1 (Int.toNat d.1.2.2.2.1) 0) == 61) = true) (
      ifd (((List.getD d.1.1 (Int.toNat d.1.2.2.2.1) 0) == 61) = true) (
        ifd ((decide ((Go.IntKind.wrap .i64 (d.1.2.2.2.1 + 2)) < (((List.length d.1.1) : Nat) : Int))) = true) (
          ifd ((decide (((0 : Int) ≤ (Go.IntKind.wrap .i64 (d.1.2.2.2.1 + 1))) ∧ ((Go.IntKind.wrap .i64 (d.1.2.2.2.1 + 1)) < (((List.length d.1.1) : Nat) : Int)))) = true) (
            bnd (bnd (quoted_Hex_c pc (List.getD d.1.1 (Int.toNat (Go.IntKind.wrap .i64 (d.1.2.2.2.1 + 1))) 0)) fun (x12 : Int) =>
            some x12) fun (x13 : Int) =>
            ifd ((decide ((Go.IntKind.wrap .i64 (d.1.2.2.2.1 + 2)) < (((List.length d.1.1) : Nat) : Int))) = true) (
              ifd ((decide (x13 ≥ 0)) = true) (
                ifd ((decide (((0 : Int) ≤ (Go.IntKind.wrap .i64 (d.1.2.2.2.1 + 2))) ∧ ((Go.IntKind.wrap .i64 (d.1.2.2.2.1 + 2)) < (((List.length d.1.1) : Nat) : Int)))) = true) (
                  bnd (bnd (quoted_Hex_c pc (List.getD d.1.1 (Int.toNat (Go.IntKind.wrap .i64 (d.1.2.2.2.1 + 2))) 0)) fun (x14 : Int) =>
                  some x14) fun (x15 : Int) =>
                  ifd ((decide (x13 ≥ 0)) = true) (
                    some ((d.1.1, d.1.2.1, (), d.1.2.2.2.1, (decide (x15 ≥ 0)), ()), ())) (
                    some ((d.1.1, d.1.2.1, (), d.1.2.2.2.1, false, ()), ()))) (
                  none)) (
                ifd ((decide (x13 ≥ 0)) = true) (
                  none) (
                  some ((d.1.1, d.1.2.1, (), d.1.2.2.2.1, false, ()), ())))) (
              some ((d.1.1, d.1.2.1, (), d.1.2.2.2.1, false, ()), ()))) (
            none)) (
          ifd ((decide ((Go.IntKind.wrap .i64 (d.1.2.2.2.1 + 2)) < (((List.length d.1.1) : Nat) : Int))) = true) (
            none) (
            some ((d.1.1, d.1.2.1, (), d.1.2.2.2.1, false, ()), ())))) (
        some ((d.1.1, d.1.2.1, (), d.1.2.2.2.1, false, ()), ()))) (
      ifd (((List.getD d.1.1 (Int.toNat d.1.2.2.2.1) 0) == 61) = true) (
        none) (
        some ((d.1.1, d.1.2.1, (), d.1.2.2.2.1, false, ()), ())))) (
    none)
theorem quoted_line_C3_a (E : AppE prog pcN pc lN lp) {d : quoted_line_C3_D} : Approx (fun N => quoted_line_C3 (pcN N) (lN N) d) (quoted_line_C3 pc lp d) := by
  delta quoted_line_C3
  exact (Approx.ifd (Approx.ifd (Approx.ifd (Approx.ifd (Approx.ifd (Approx.bnd (Approx.bnd (quoted_Hex_ca E) fun x12 => (Approx.const _)) fun x13 => (Approx.ifd (Approx.ifd (Approx.ifd (Approx.bnd (Approx.bnd (quoted_Hex_ca E) fun x14 => (Approx.const _)) fun x15 => (Approx.ifd (Approx.const _) (Approx.const _))) Approx.none) (Approx.ifd Approx.none (Approx.const _))) (Approx.const _))) Approx.none) (Approx.ifd Approx.none (Approx.const _))) (Approx.const _)) (Approx.ifd Approx.none (Approx.const _))) Approx.none)

-- quoted_line, part 16200
abbrev quoted_line_C4_D := (((List Int) × (Bool × ((List Int) × (Int × Unit)))) × Unit)
abbrev quoted_line_C4_X := (((List Int) × (Bool × ((List Int) × (Int × (Bool × Unit))))) × Unit)
noncomputable def quoted_line_C4 (pc : PC prog) (lp : LP) (d : quoted_line_C4_D) : Option quoted_line_C4_X :=
  ifd ((decide (((0 : Int) ≤ d.1.2.2.2.1) ∧ (d.1.2.2.2.1 < (((List.length d.1.1) : Nat) : Int)))) = true) (
    ifd (((List.getD d.1.1 (Int.toNat d.1.2.2.2.1) 0) == 61) = true) (
      ifd (((List.getD d.1.1 (Int.toNat d.1.2.2.2.1) 0) == 61) = true) (
        ifd ((decide ((Go.IntKind.wrap .i64 (d.1.2.2.2.1 + 2)) < (((List.length d.1.1) : Nat) : Int))) = true) (
          ifd ((decide (((0 : Int) ≤ (Go.IntKind.wrap .i64 (d.1.2.2.2.1 + 1))) ∧ ((Go.IntKind.wrap .i64 (d.1.2.2.2.1 + 1)) < (((List.length d.1.1) : Nat) : Int)))) = true) (
            bnd (bnd (quoted_Hex_c pc (List.getD d.1.1 (Int.toNat (Go.IntKind.wrap .i64 (d.1.2.2.2.1 + 1))) 0)) fun (x25 : Int) =>
            some x25) fun (x26 : Int) =>
            ifd ((decide ((Go.IntKind.wrap .i64 (d.1.2.2.2.1 + 2)) < (((List.length d.1.1) : Nat) : Int))) = true) (
              ifd ((decide (x26 ≥ 0)) = true) (
                ifd ((decide (((0 : Int) ≤ (Go.IntKind.wrap .i64 (d.1.2.2.2.1 + 2))) ∧ ((Go.IntKind.wrap .i64 (d.1.2.2.2.1 + 2)) < (((List.length d.1.1) : Nat) : Int)))) = true) (
                  bnd (bnd (quoted_Hex_c pc (List.getD d.1.1 (Int.toNat (Go.IntKind.wrap .i64 (d.1.2.2.2.1 + 2))) 0)) fun (x27 : Int) =>
                  some x27) fun (x28 : Int) =>
                  ifd ((decide (x26 ≥ 0)) = true) (
                    some ((d.1.1, d.1.2.1, d.1.2.2.1, d.1.2.2.2.1, (decide (x28 ≥ 0)), ()), ())) (
                    some ((d.1.1, d.1.2.1, d.1.2.2.1, d.1.2.2.2.1, false, ()), ()))) (
                  none)) (
                ifd ((decide (x26 ≥ 0)) = true) (
                  none) (
                  some ((d.1.1, d.1.2.1, d.1.2.2.1, d.1.2.2.2.1, false, ()), ())))) (
              some ((d.1.1, d.1.2.1, d.1.2.2.1, d.1.2.2.2.1, false, ()), ()))) (
            none)) (
          ifd ((decide ((Go.IntKind.wrap .i64 (d.1.2.2.2.1 + 2)) < (((List.length d.1.1) : Nat) : Int))) = true) (
            none) (
            some ((d.1.1, d.1.2.1, d.1.2.2.1, d.1.2.2.2.1, false, ()), ())))) (
        some ((d.1.1, d.1.2.1, d.1.2.2.1, d.1.2.2.2.1, false, ()), ()))) (
      ifd (((List.getD d.1.1 (Int.toNat d.1.2.2.2.1) 0) == 61) = true) (
        none) (
        some ((d.1.1, d.1.2.1, d.1.2.2.1, d.1.2.2.2.1, false, ()), ())))) (
    none)
theorem quoted_line_C4_a (E : AppE prog pcN pc lN lp) {d : quoted_line_C4_D} : Approx (fun N => quoted_line_C4 (pcN N) (lN N) d) (quoted_line_C4 pc lp d) := by
  delta quoted_line_C4
  exact (Approx.ifd (Approx.ifd (Approx.ifd (Approx.ifd (Approx.ifd (Approx.bnd (Approx.bnd (quoted_Hex_ca E) fun x25 => (Approx.const _)) fun x26 => (Approx.ifd (Approx.ifd (Approx.ifd (Approx.bnd (Approx.bnd (quoted_Hex_ca E) fun x27 => (Approx.const _)) fun x28 => (Approx.ifd (Approx.const _) (Approx.const _))) Approx.none) (Approx.ifd Approx.none (Approx.const _))) (Approx.const _))) Approx.none) (Approx.ifd Approx.none (Approx.const _))) (Approx.const _)) (Approx.ifd Approx.none (Approx.const _))) Approx.none)

-- quoted_line, loop 506
abbrev quoted_line_L5_D := (((List Int) × (Bool × ((List Int) × (Int × Unit)))) × Unit)
abbrev quoted_line_L5_X := ((Bool × ((List Int) × Unit)) × Unit)
noncomputable def quoted_line_L5_R (pc : PC prog) (lp : LP) (ψ : quoted_line_L5_D → Option quoted_line_L5_X) (d : quoted_line_L5_D) : Option quoted_line_L5_X :=
  ifd ((decide (d.1.2.2.2.1 < (((List.length d.1.1) : Nat) : Int))) = true) (
    bnd (quoted_line_C4 pc lp ((d.1.1, d.1.2.1, d.1.2.2.1, d.1.2.2.2.1, ()), ())) (fun (y39 : (((List Int) × (Bool × ((List Int) × (Int × (Bool × Unit))))) × Unit)) =>
    ifd (y39.1.2.2.2.2.1 = true) (
      ifd ((decide (((0 : Int) ≤ (Go.IntKind.wrap .i64 (y39.1.2.2.2.1 + 1))) ∧ ((Go.IntKind.wrap .i64 (y39.1.2.2.2.1 + 1)) < (((List.length y39.1.1) : Nat) : Int)))) = true) (
        bnd (bnd (quoted_Hex_c pc (List.getD y39.1.1 (Int.toNat (Go.IntKind.wrap .i64 (y39.1.2.2.2.1 + 1))) 0)) fun (x40 : Int) =>
        some x40) fun (x41 : Int) =>
        ifd ((decide (((0 : Int) ≤ (Go.IntKind.wrap .i64 (y39.1.2.2.2.1 + 2))) ∧ ((Go.IntKind.wrap .i64 (y39.1.2.2.2.1 + 2)) < (((List.length y39.1.1) : Nat) : Int)))) = true) (
          bnd (bnd (quoted_Hex_c pc (List.getD y39.1.1 (Int.toNat (Go.IntKind.wrap .i64 (y39.1.2.2.2.1 + 2))) 0)) fun (x42 : Int) =>
          some x42) fun (x43 : Int) =>
          ifd ((decide ((((List.length y39.1.2.2.1) + (List.length ([(Go.IntKind.wrap .u8 (ibits .or .i64 (Go.IntKind.wrap .i64 (x41 * ((2 : Int) ^ (min (Int.toNat 4) 64)))) x43))] : List Int))) * 1) ≤ 140737488355328)) = true) (
            ψ ((y39.1.1, y39.1.2.1, (y39.1.2.2.1 ++ ([(Go.IntKind.wrap .u8 (ibits .or .i64 (Go.IntKind.wrap .i64 (x41 * ((2 : Int) ^ (min (Int.toNat 4) 64)))) x43))] : List Int)), (Go.IntKind.wrap .i64 ((Go.IntKind.wrap .i64 (y39.1.2.2.2.1 + 2)) + 1)), ()), ())) (
            none)) (
          none)) (
        none)) (
      ifd ((decide (((0 : Int) ≤ y39.1.2.2.2.1) ∧ (y39.1.2.2.2.1 < (((List.length y39.1.1) : Nat) : Int)))) = true) (
        ifd ((decide ((((List.length y39.1.2.2.1) + (List.length ([(List.getD y39.1.1 (Int.toNat y39.1.2.2.2.1) 0)] : List Int))) * 1) ≤ 140737488355328)) = true) (
          ψ ((y39.1.1, y39.1.2.1, (y39.1.2.2.1 ++ ([(List.getD y39.1.1 (Int.toNat y39.1.2.2.2.1) 0)] : List Int)), (Go.IntKind.wrap .i64 (y39.1.2.2.2.1 + 1)), ()), ())) (
          none)) (
        none)))) (
    some ((d.1.2.1, d.1.2.2.1, ()), ()))
noncomputable def quoted_line_L5 (pc : PC prog) (lp : LP) (d : quoted_line_L5_D) : Option quoted_line_L5_X := lp quoted_line_L5_D quoted_line_L5_X (quoted_line_L5_R pc lp) d
theorem quoted_line_L5_ap (E : AppE prog pcN pc lN lp) : ContR (fun N => quoted_line_L5_R (pcN N) (lN N)) (quoted_line_L5_R pc lp) := fun ψN ψ h d => by
  delta quoted_line_L5_R
  exact (Approx.ifd (Approx.bnd (quoted_line_C4_a E) (fun y39 => (Approx.ifd (Approx.ifd (Approx.bnd (Approx.bnd (quoted_Hex_ca E) fun x40 => (Approx.const _)) fun x41 => (Approx.ifd (Approx.bnd (Approx.bnd (quoted_Hex_ca E) fun x42 => (Approx.const _)) fun x43 => (Approx.ifd (h _) Approx.none)) Approx.none)) Approx.none) (Approx.ifd (Approx.ifd (h _) Approx.none) Approx.none)))) (Approx.const _))
theorem quoted_line_L5_a (E : AppE prog pcN pc lN lp) {d : quoted_line_L5_D} : Approx (fun N => quoted_line_L5 (pcN N) (lN N) d) (quoted_line_L5 pc lp d) := E.loop (quoted_line_L5_ap E) d
theorem quoted_line_L5_of {d : quoted_line_L5_D} {x : quoted_line_L5_X} (h : quoted_line_L5_R (pcL prog cfg) lpL (quoted_line_L5 (pcL prog cfg) lpL) d = some x) : quoted_line_L5 (pcL prog cfg) lpL d = some x := lpL_step (quoted_line_L5_ap (appL prog cfg)) h

noncomputable def quoted_line_B (pc : PC prog) (lp : LP) (a0 : List Int) : Option ((List Int) × (Bool × Unit)) :=
  bnd (bnd (bytes_TrimRight_c pc a0 ([32, 9] : List Int)) fun (x0 : (List Int)) =>
  some x0) fun (x1 : (List Int)) =>
  bnd (quoted_line_C1 pc lp ((x1, ()), ())) (fun (y2 : (((List Int) × (Bool × Unit)) × Unit)) =>
  bnd (quoted_line_C2 pc lp ((y2.1.1, y2.1.2.1, ()), ())) (fun (y3 : (((List Int) × (Bool × Unit)) × Unit)) =>
  bnd (quoted_line_L5 pc lp ((y3.1.1, y3.1.2.1, ([] : List Int), 0, ()), ())) (fun (y44 : ((Bool × ((List Int) × Unit)) × Unit)) =>
  some (y44.1.2.1, (y44.1.1, ())))))
theorem quoted_line_eq (a0 : List Int) (pc : PC prog) (lp : LP) : got quoted_line_t (pcall prog (runO prog cfg (hand prog cfg lp pc 6 tbl 5) pc 6) 28 [(.c (.slice .ro (.int .u8) a0))]) = quoted_line_B pc lp a0 := by kernel_rfl
theorem quoted_line_ap (E : AppE prog pcN pc lN lp) (a0 : List Int) : Approx (fun N => quoted_line_B (pcN N) (lN N) a0) (quoted_line_B pc lp a0) := by
  delta quoted_line_B
  exact (Approx.bnd (Approx.bnd (bytes_TrimRight_ca E) fun x0 => (Approx.const _)) fun x1 => (Approx.bnd (quoted_line_C1_a E) (fun y2 => (Approx.bnd (quoted_line_C2_a E) (fun y3 => (Approx.bnd (quoted_line_L5_a E) (fun y44 => (Approx.const _))))))))
theorem quoted_line_of {a0 : List Int} {y : ((List Int) × (Bool × Unit))} (h : quoted_line_B (pcL prog cfg) lpL a0 = some y) : quoted_line_c (pcL prog cfg) a0 = some y := fn_of rfl (quoted_line_eq a0) (quoted_line_ap (appN prog cfg) a0) h

-- ref1_Lower, loop 58
abbrev ref1_Lower_L1_D := ((Unit × (Int × Unit)) × ((List Int) × Unit))
abbrev ref1_Lower_L1_X := ((Unit × Unit) × ((List Int) × Unit))
noncomputable def ref1_Lower_L1_R (pc : PC prog) (lp : LP) (ψ : ref1_Lower_L1_D → Option ref1_Lower_L1_X) (d : ref1_Lower_L1_D) : Option ref1_Lower_L1_X :=
  ifd ((decide (d.1.2.1 < (((List.length d.2.1) : Nat) : Int))) = true) (
    ifd ((decide (((0 : Int) ≤ d.1.2.1) ∧ (d.1.2.1 < (((List.length d.2.1) : Nat) : Int)))) = true) (
      ifd ((decide ((Int.toNat d.1.2.1) < (List.length d.2.1))) = true) (
        bnd (bnd (ref1_In_c pc (Go.IntKind.wrap .i64 (List.getD d.2.1 (Int.toNat d.1.2.1) 0)) 65 90) fun (x2 : Bool) =>
        some x2) fun (x3 : Bool) =>
        ifd (x3 = true) (
          ifd ((decide (((0 : Int) ≤ d.1.2.1) ∧ (d.1.2.1 < (((List.length d.2.1) : Nat) : Int)))) = true) (
            ifd ((decide ((Int.toNat d.1.2.1) < (List.length d.2.1))) = true) (
              ifd ((decide (((0 : Int) ≤ d.1.2.1) ∧ (d.1.2.1 < (((List.length d.2.1) : Nat) : Int)))) = true) (
                ifd ((decide ((Int.toNat d.1.2.1) < (List.length d.2.1))) = true) (
                  ψ (((), (Go.IntKind.wrap .i64 (d.1.2.1 + 1)), ()), ((List.set d.2.1 (Int.toNat d.1.2.1) (Go.IntKind.wrap .u8 ((List.getD d.2.1 (Int.toNat d.1.2.1) 0) + 32))), ()))) (
                  none)) (
                none)) (
              none)) (
            none)) (
          ψ (((), (Go.IntKind.wrap .i64 (d.1.2.1 + 1)), ()), (d.2.1, ())))) (
        none)) (
      none)) (
    some (((), ()), (d.2.1, ())))
noncomputable def ref1_Lower_L1 (pc : PC prog) (lp : LP) (d : ref1_Lower_L1_D) : Option ref1_Lower_L1_X := lp ref1_Lower_L1_D ref1_Lower_L1_X (ref1_Lower_L1_R pc lp) d
theorem ref1_Lower_L1_ap (E : AppE prog pcN pc lN lp) : ContR (fun N => ref1_Lower_L1_R (pcN N) (lN N)) (ref1_Lower_L1_R pc lp) := fun ψN ψ h d => by
  delta ref1_Lower_L1_R
  exact (Approx.ifd (Approx.ifd (Approx.ifd (Approx.bnd (Approx.bnd (ref1_In_ca E) fun x2 => (Approx.const _)) fun x3 => (Approx.ifd (Approx.ifd (Approx.ifd (Approx.ifd (Approx.ifd (h _) Approx.none) Approx.none) Approx.none) Approx.none) (h _))) Approx.none) Approx.none) (Approx.const _))
theorem ref1_Lower_L1_a (E : AppE prog pcN pc lN lp) {d : ref1_Lower_L1_D} : Approx (fun N => ref1_Lower_L1 (pcN N) (lN N) d) (ref1_Lower_L1 pc lp d) := E.loop (ref1_Lower_L1_ap E) d
theorem ref1_Lower_L1_of {d : ref1_Lower_L1_D} {x : ref1_Lower_L1_X} (h : ref1_Lower_L1_R (pcL prog cfg) lpL (ref1_Lower_L1 (pcL prog cfg) lpL) d = some x) : ref1_Lower_L1 (pcL prog cfg) lpL d = some x := lpL_step (ref1_Lower_L1_ap (appL prog cfg)) h

noncomputable def ref1_Lower_B (pc : PC prog) (lp : LP) (a0 : List Int) : Option (List Int) :=
  ifd ((decide ((List.length a0) ≤ 140737488355328)) = true) (
    bnd (ref1_Lower_L1 pc lp (((), 0, ()), (a0, ()))) (fun (y4 : ((Unit × Unit) × ((List Int) × Unit))) =>
    some y4.2.1)) (
    none)
theorem ref1_Lower_eq (a0 : List Int) (pc : PC prog) (lp : LP) : got ref1_Lower_t (pcall prog (runO prog cfg (hand prog cfg lp pc 6 tbl 5) pc 6) 29 [(.c (.str a0))]) = ref1_Lower_B pc lp a0 := by kernel_rfl
theorem ref1_Lower_ap (E : AppE prog pcN pc lN lp) (a0 : List Int) : Approx (fun N => ref1_Lower_B (pcN N) (lN N) a0) (ref1_Lower_B pc lp a0) := by
  delta ref1_Lower_B
  exact (Approx.ifd (Approx.bnd (ref1_Lower_L1_a E) (fun y4 => (Approx.const _))) Approx.none)
theorem ref1_Lower_of {a0 : List Int} {y : (List Int)} (h : ref1_Lower_B (pcL prog cfg) lpL a0 = some y) : ref1_Lower_c (pcL prog cfg) a0 = some y := fn_of rfl (ref1_Lower_eq a0) (ref1_Lower_ap (appN prog cfg) a0) h

noncomputable def bytes_Index_B (pc : PC prog) (lp : LP) (a0 : List Int) (a1 : List Int) : Option Int :=
  ifd (((((List.length a1) : Nat) : Int) == 0) = true) (
    some 0) (
    ifd (((((List.length a1) : Nat) : Int) == 1) = true) (
      ifd ((decide (((0 : Int) ≤ 0) ∧ ((0 : Int) < (((List.length a1) : Nat) : Int)))) = true) (
        bnd (bnd (bytes_IndexByte_c pc a0 (List.getD a1 (Int.toNat 0) 0)) fun (x0 : Int) =>
        some x0) fun (x1 : Int) =>
        some x1) (
        none)) (
      ifd (((((List.length a1) : Nat) : Int) == (((List.length a0) : Nat) : Int)) = true) (
        bnd (bnd (bytes_Equal_c pc a1 a0) fun (x2 : Bool) =>
        some x2) fun (x3 : Bool) =>
        ifd (x3 = true) (
          some 0) (
          some (-1))) (
        ifd ((decide ((((List.length a1) : Nat) : Int) > (((List.length a0) : Nat) : Int))) = true) (
          some (-1)) (
          none))))
theorem bytes_Index_eq (a0 : List Int) (a1 : List Int) (pc : PC prog) (lp : LP) : got bytes_Index_t (pcall prog (runO prog cfg (hand prog cfg lp pc 6 tbl 5) pc 6) 30 [(.c (.slice .ro (.int .u8) a0)), (.c (.slice .ro (.int .u8) a1))]) = bytes_Index_B pc lp a0 a1 := by kernel_rfl
theorem bytes_Index_ap (E : AppE prog pcN pc lN lp) (a0 : List Int) (a1 : List Int) : Approx (fun N => bytes_Index_B (pcN N) (lN N) a0 a1) (bytes_Index_B pc lp a0 a1) := by
  delta bytes_Index_B
  exact (Approx.ifd (Approx.const _) (Approx.ifd (Approx.ifd (Approx.bnd (Approx.bnd (bytes_IndexByte_ca E) fun x0 => (Approx.const _)) fun x1 => (Approx.const _)) Approx.none) (Approx.ifd (Approx.bnd (Approx.bnd (bytes_Equal_ca E) fun x2 => (Approx.const _)) fun x3 => (Approx.ifd (Approx.const _) (Approx.const _))) (Approx.ifd (Approx.const _) Approx.none))))
theorem bytes_Index_of {a0 : List Int} {a1 : List Int} {y : Int} (h : bytes_Index_B (pcL prog cfg) lpL a0 a1 = some y) : bytes_Index_c (pcL prog cfg) a0 a1 = some y := fn_of rfl (bytes_Index_eq a0 a1) (bytes_Index_ap (appN prog cfg) a0 a1) h

-- bytes_TrimRight, part 6
abbrev bytes_TrimRight_C1_D := (((List Int) × ((List Int) × Unit)) × Unit)
abbrev bytes_TrimRight_C1_X := (((List Int) × ((List Int) × (Bool × Unit))) × Unit)
noncomputable def bytes_TrimRight_C1 (pc : PC prog) (lp : LP) (d : bytes_TrimRight_C1_D) : Option bytes_TrimRight_C1_X :=
  ifd (((((List.length d.1.1) : Nat) : Int) == 0) = true) (
    ifd (((((List.length d.1.1) : Nat) : Int) == 0) = true) (
      some ((d.1.1, d.1.2.1, true, ()), ())) (
      none)) (
    ifd (((((List.length d.1.1) : Nat) : Int) == 0) = true) (
      some ((d.1.1, d.1.2.1, true, ()), ())) (
      some ((d.1.1, d.1.2.1, (d.1.2.1 == ([] : List Int)), ()), ())))
theorem bytes_TrimRight_C1_a (E : AppE prog pcN pc lN lp) {d : bytes_TrimRight_C1_D} : Approx (fun N => bytes_TrimRight_C1 (pcN N) (lN N) d) (bytes_TrimRight_C1 pc lp d) := by
  delta bytes_TrimRight_C1
  exact (Approx.ifd (Approx.ifd (Approx.const _) Approx.none) (Approx.ifd (Approx.const _) (Approx.const _)))

-- bytes_TrimRight, part 14
abbrev bytes_TrimRight_C2_D := (((List Int) × ((List Int) × Unit)) × Unit)
abbrev bytes_TrimRight_C2_X := (((List Int) × ((List Int) × (Bool × Unit))) × Unit)
noncomputable def bytes_TrimRight_C2 (pc : PC prog) (lp : LP) (d : bytes_TrimRight_C2_D) : Option bytes_TrimRight_C2_X :=
  ifd (((((List.length d.1.2.1) : Nat) : Int) == 1) = true) (
    ifd ((decide (((0 : Int) ≤ 0) ∧ ((0 : Int) < (((List.length d.1.2.1) : Nat) : Int)))) = true) (
      ifd (((((List.length d.1.2.1) : Nat) : Int) == 1) = true) (
        some ((d.1.1, d.1.2.1, (decide ((List.getD d.1.2.1 (Int.toNat 0) 0) < 128)), ()), ())) (
        some ((d.1.1, d.1.2.1, false, ()), ()))) (
      none)) (
    ifd (((((List.length d.1.2.1) : Nat) : Int) == 1) = true) (
      none) (
      some ((d.1.1, d.1.2.1, false, ()), ())))
theorem bytes_TrimRight_C2_a (E : AppE prog pcN pc lN lp) {d : bytes_TrimRight_C2_D} : Approx (fun N => bytes_TrimRight_C2 (pcN N) (lN N) d) (bytes_TrimRight_C2 pc lp d) := by
  delta bytes_TrimRight_C2
  exact (Approx.ifd (Approx.ifd (Approx.ifd (Approx.const _) (Approx.const _)) Approx.none) (Approx.ifd Approx.none (Approx.const _)))

-- bytes_makeASCIISet, loop 26
abbrev bytes_TrimRight_L3_D := (((List Int) × (Unit × (Int × Unit))) × ((List Bool) × Unit))
abbrev bytes_TrimRight_L3_X := (((Unit × (Bool × Unit)) × ((List Bool) × Unit)) ⊕ ((Unit × Unit) × ((List Bool) × Unit)))
noncomputable def bytes_TrimRight_L3_R (pc : PC prog) (lp : LP) (ψ : bytes_TrimRight_L3_D → Option bytes_TrimRight_L3_X) (d : bytes_TrimRight_L3_D) : Option bytes_TrimRight_L3_X :=
  ifd ((decide (d.1.2.2.1 < (((List.length d.1.1) : Nat) : Int))) = true) (
    ifd ((decide (((0 : Int) ≤ d.1.2.2.1) ∧ (d.1.2.2.1 < (((List.length d.1.1) : Nat) : Int)))) = true) (
      ifd ((decide ((List.getD d.1.1 (Int.toNat d.1.2.2.1) 0) ≥ 128)) = true) (
        ifd ((decide ((List.length d.2.1) = 256)) = true) (
          ifd ((decide ((List.length d.2.1) = 256)) = true) (
            some (Sum.inl (((), false, ()), ((getRow d.2.1 false 0 256 : List Bool), ())))) (
            none)) (
          none)) (
        ifd (((decide (((0 : Int) ≤ (List.getD d.1.1 (Int.toNat d.1.2.2.1) 0)) ∧ ((List.getD d.1.1 (Int.toNat d.1.2.2.1) 0) < 256))) && (decide ((List.length d.2.1) = 256))) = true) (
          ifd ((decide ((Int.toNat (List.getD d.1.1 (Int.toNat d.1.2.2.1) 0)) < (List.length d.2.1))) = true) (
            ψ ((d.1.1, (), (Go.IntKind.wrap .i64 (d.1.2.2.1 + 1)), ()), ((List.set d.2.1 (Int.toNat (List.getD d.1.1 (Int.toNat d.1.2.2.1) 0)) true), ()))) (
            none)) (
          none))) (
      none)) (
    some (Sum.inr (((), ()), (d.2.1, ()))))
noncomputable def bytes_TrimRight_L3 (pc : PC prog) (lp : LP) (d : bytes_TrimRight_L3_D) : Option bytes_TrimRight_L3_X := lp bytes_TrimRight_L3_D bytes_TrimRight_L3_X (bytes_TrimRight_L3_R pc lp) d
theorem bytes_TrimRight_L3_ap (E : AppE prog pcN pc lN lp) : ContR (fun N => bytes_TrimRight_L3_R (pcN N) (lN N)) (bytes_TrimRight_L3_R pc lp) := fun ψN ψ h d => by
  delta bytes_TrimRight_L3_R
  exact (Approx.ifd (Approx.ifd (Approx.ifd (Approx.ifd (Approx.ifd (Approx.const _) Approx.none) Approx.none) (Approx.ifd (Approx.ifd (h _) Approx.none) Approx.none)) Approx.none) (Approx.const _))
theorem bytes_TrimRight_L3_a (E : AppE prog pcN pc lN lp) {d : bytes_TrimRight_L3_D} : Approx (fun N => bytes_TrimRight_L3 (pcN N) (lN N) d) (bytes_TrimRight_L3 pc lp d) := E.loop (bytes_TrimRight_L3_ap E) d
theorem bytes_TrimRight_L3_of {d : bytes_TrimRight_L3_D} {x : bytes_TrimRight_L3_X} (h : bytes_TrimRight_L3_R (pcL prog cfg) lpL (bytes_TrimRight_L3 (pcL prog cfg) lpL) d = some x) : bytes_TrimRight_L3 (pcL prog cfg) lpL d = some x := lpL_step (bytes_TrimRight_L3_ap (appL prog cfg)) h

-- bytes_trimRightASCII, loop 12
abbrev bytes_TrimRight_L4_D := (((List Int) × (Unit × Unit)) × ((List Bool) × ((List Bool) × Unit)))
abbrev bytes_TrimRight_L4_X := (((List Int) × Unit) × ((List Bool) × ((List Bool) × Unit)))
noncomputable def bytes_TrimRight_L4_R (pc : PC prog) (lp : LP) (ψ : bytes_TrimRight_L4_D → Option bytes_TrimRight_L4_X) (d : bytes_TrimRight_L4_D) : Option bytes_TrimRight_L4_X :=
  ifd ((decide ((((List.length d.1.1) : Nat) : Int) > 0)) = true) (
    ifd ((decide (((0 : Int) ≤ (Go.IntKind.wrap .i64 ((((List.length d.1.1) : Nat) : Int) - 1))) ∧ ((Go.IntKind.wrap .i64 ((((List.length d.1.1) : Nat) : Int) - 1)) < (((List.length d.1.1) : Nat) : Int)))) = true) (
      ifd (((decide (((0 : Int) ≤ (List.getD d.1.1 (Int.toNat (Go.IntKind.wrap .i64 ((((List.length d.1.1) : Nat) : Int) - 1))) 0)) ∧ ((List.getD d.1.1 (Int.toNat (Go.IntKind.wrap .i64 ((((List.length d.1.1) : Nat) : Int) - 1))) 0) < 256))) && (decide ((List.length d.2.2.1) = 256))) = true) (
        ifd ((decide ((Int.toNat (List.getD d.1.1 (Int.toNat (Go.IntKind.wrap .i64 ((((List.length d.1.1) : Nat) : Int) - 1))) 0)) < (List.length d.2.2.1))) = true) (
          ifd ((!(List.getD d.2.2.1 (Int.toNat (List.getD d.1.1 (Int.toNat (Go.IntKind.wrap .i64 ((((List.length d.1.1) : Nat) : Int) - 1))) 0)) false)) = true) (
            some ((d.1.1, ()), (d.2.1, d.2.2.1, ()))) (
            ifd ((decide (((0 : Int) ≤ 0) ∧ (((0 : Int) ≤ (Go.IntKind.wrap .i64 ((((List.length d.1.1) : Nat) : Int) - 1))) ∧ ((Go.IntKind.wrap .i64 ((((List.length d.1.1) : Nat) : Int) - 1)) ≤ (((List.length d.1.1) : Nat) : Int))))) = true) (
              ψ (((List.drop (Int.toNat 0) (List.take (Int.toNat (Go.IntKind.wrap .i64 ((((List.length d.1.1) : Nat) : Int) - 1))) d.1.1)), (), ()), (d.2.1, d.2.2.1, ()))) (
              none))) (
          none)) (
        none)) (
      none)) (
    some ((d.1.1, ()), (d.2.1, d.2.2.1, ())))
noncomputable def bytes_TrimRight_L4 (pc : PC prog) (lp : LP) (d : bytes_TrimRight_L4_D) : Option bytes_TrimRight_L4_X := lp bytes_TrimRight_L4_D bytes_TrimRight_L4_X (bytes_TrimRight_L4_R pc lp) d
theorem bytes_TrimRight_L4_ap (E : AppE prog pcN pc lN lp) : ContR (fun N => bytes_TrimRight_L4_R (pcN N) (lN N)) (bytes_TrimRight_L4_R pc lp) := fun ψN ψ h d => by
  delta bytes_TrimRight_L4_R
  exact (Approx.ifd (Approx.ifd (Approx.ifd (Approx.ifd (Approx.ifd (Approx.const _) (Approx.ifd (h _) Approx.none)) Approx.none) Approx.none) Approx.none) (Approx.const _))
theorem bytes_TrimRight_L4_a (E : AppE prog pcN pc lN lp) {d : bytes_TrimRight_L4_D} : Approx (fun N => bytes_TrimRight_L4 (pcN N) (lN N) d) (bytes_TrimRight_L4 pc lp d) := E.loop (bytes_TrimRight_L4_ap E) d
theorem bytes_TrimRight_L4_of {d : bytes_TrimRight_L4_D} {x : bytes_TrimRight_L4_X} (h : bytes_TrimRight_L4_R (pcL prog cfg) lpL (bytes_TrimRight_L4 (pcL prog cfg) lpL) d = some x) : bytes_TrimRight_L4 (pcL prog cfg) lpL d = some x := lpL_step (bytes_TrimRight_L4_ap (appL prog cfg)) h

-- bytes_trimRightASCII, loop 12
abbrev bytes_TrimRight_L5_D := (((List Int) × (Unit × Unit)) × ((List Bool) × ((List Bool) × Unit)))
abbrev bytes_TrimRight_L5_X := (((List Int) × Unit) × ((List Bool) × ((List Bool) × Unit)))
noncomputable def bytes_TrimRight_L5_R (pc : PC prog) (lp : LP) (ψ : bytes_TrimRight_L5_D → Option bytes_TrimRight_L5_X) (d : bytes_TrimRight_L5_D) : Option bytes_TrimRight_L5_X :=
  ifd ((decide ((((List.length d.1.1) : Nat) : Int) > 0)) = true) (
    ifd ((decide (((0 : Int) ≤ (Go.IntKind.wrap .i64 ((((List.length d.1.1) : Nat) : Int) - 1))) ∧ ((Go.IntKind.wrap .i64 ((((List.length d.1.1) : Nat) : Int) - 1)) < (((List.length d.1.1) : Nat) : Int)))) = true) (
      ifd (((decide (((0 : Int) ≤ (List.getD d.1.1 (Int.toNat (Go.IntKind.wrap .i64 ((((List.length d.1.1) : Nat) : Int) - 1))) 0)) ∧ ((List.getD d.1.1 (Int.toNat (Go.IntKind.wrap .i64 ((((List.length d.1.1) : Nat) : Int) - 1))) 0) < 256))) && (decide ((List.length d.2.2.1) = 256))) = true) (
        ifd ((decide ((Int.toNat (List.getD d.1.1 (Int.toNat (Go.IntKind.wrap .i64 ((((List.length d.1.1) : Nat) : Int) - 1))) 0)) < (List.length d.2.2.1))) = true) (
          ifd ((!(List.getD d.2.2.1 (Int.toNat (List.getD d.1.1 (Int.toNat (Go.IntKind.wrap .i64 ((((List.length d.1.1) : Nat) : Int) - 1))) 0)) false)) = true) (
            some ((d.1.1, ()), (d.2.1, d.2.2.1, ()))) (
            ifd ((decide (((0 : Int) ≤ 0) ∧ (((0 : Int) ≤ (Go.IntKind.wrap .i64 ((((List.length d.1.1) : Nat) : Int) - 1))) ∧ ((Go.IntKind.wrap .i64 ((((List.length d.1.1) : Nat) : Int) - 1)) ≤ (((List.length d.1.1) : Nat) : Int))))) = true) (
              ψ (((List.drop (Int.toNat 0) (List.take (Int.toNat (Go.IntKind.wrap .i64 ((((List.length d.1.1) : Nat) : Int) - 1))) d.1.1)), (), ()), (d.2.1, d.2.2.1, ()))) (
              none))) (
          none)) (
        none)) (
      none)) (
    some ((d.1.1, ()), (d.2.1, d.2.2.1, ())))
noncomputable def bytes_TrimRight_L5 (pc : PC prog) (lp : LP) (d : bytes_TrimRight_L5_D) : Option bytes_TrimRight_L5_X := lp bytes_TrimRight_L5_D bytes_TrimRight_L5_X (bytes_TrimRight_L5_R pc lp) d
theorem bytes_TrimRight_L5_ap (E : AppE prog pcN pc lN lp) : ContR (fun N => bytes_TrimRight_L5_R (pcN N) (lN N)) (bytes_TrimRight_L5_R pc lp) := fun ψN ψ h d => by
  delta bytes_TrimRight_L5_R
  exact (Approx.ifd (Approx.ifd (Approx.ifd (Approx.ifd (Approx.ifd (Approx.const _) (Approx.ifd (h _) Approx.none)) Approx.none) Approx.none) Approx.none) (Approx.const _))
theorem bytes_TrimRight_L5_a (E : AppE prog pcN pc lN lp) {d : bytes_TrimRight_L5_D} : Approx (fun N => bytes_TrimRight_L5 (pcN N) (lN N) d) (bytes_TrimRight_L5 pc lp d) := E.loop (bytes_TrimRight_L5_ap E) d
theorem bytes_TrimRight_L5_of {d : bytes_TrimRight_L5_D} {x : bytes_TrimRight_L5_X} (h : bytes_TrimRight_L5_R (pcL prog cfg) lpL (bytes_TrimRight_L5 (pcL prog cfg) lpL) d = some x) : bytes_TrimRight_L5 (pcL prog cfg) lpL d = some x := lpL_step (bytes_TrimRight_L5_ap (appL prog cfg)) h

noncomputable def bytes_TrimRight_B (pc : PC prog) (lp : LP) (a0 : List Int) (a1 : List Int) : Option (List Int) :=
  bnd (bytes_TrimRight_C1 pc lp ((a0, a1, ()), ())) (fun (y0 : (((List Int) × ((List Int) × (Bool × Unit))) × Unit)) =>
  ifd (y0.1.2.2.1 = true) (
    some y0.1.1) (
    bnd (bytes_TrimRight_C2 pc lp ((y0.1.1, y0.1.2.1, ()), ())) (fun (y1 : (((List Int) × ((List Int) × (Bool × Unit))) × Unit)) =>
    ifd (y1.1.2.2.1 = true) (
      ifd ((decide (((0 : Int) ≤ 0) ∧ ((0 : Int) < (((List.length y1.1.2.1) : Nat) : Int)))) = true) (
        bnd (bnd (bytes_trimRightByte_c pc y1.1.1 (List.getD y1.1.2.1 (Int.toNat 0) 0)) fun (x2 : (List Int)) =>
        some x2) fun (x3 : (List Int)) =>
        some x3) (
        none)) (
      bnd (bytes_TrimRight_L3 pc lp ((y1.1.2.1, (), 0, ()), ((List.replicate 256 false : List Bool), ()))) (Sum.elim (fun (y4 : ((Unit × (Bool × Unit)) × ((List Bool) × Unit))) =>
      ifd ((List.length y4.2.1) = 256) (
        ifd (y4.1.2.1 = true) (
          bnd (bytes_TrimRight_L4 pc lp ((y1.1.1, (), ()), (y4.2.1, (getRow y4.2.1 false 0 256 : List Bool), ()))) (fun (y5 : (((List Int) × Unit) × ((List Bool) × ((List Bool) × Unit)))) =>
          some y5.1.1)) (
          bnd (bnd (bytes_trimRightUnicode_c pc y1.1.1 y1.1.2.1) fun (x6 : (List Int)) =>
          some x6) fun (x7 : (List Int)) =>
          some x7)) (
        none)) (fun (y8 : ((Unit × Unit) × ((List Bool) × Unit))) =>
      ifd ((decide ((List.length y8.2.1) = 256)) = true) (
        ifd ((decide ((List.length y8.2.1) = 256)) = true) (
          ifd ((List.length (getRow y8.2.1 false 0 256 : List Bool)) = 256) (
            bnd (bytes_TrimRight_L5 pc lp ((y1.1.1, (), ()), ((getRow y8.2.1 false 0 256 : List Bool), (getRow (getRow y8.2.1 false 0 256 : List Bool) false 0 256 : List Bool), ()))) (fun (y9 : (((List Int) × Unit) × ((List Bool) × ((List Bool) × Unit)))) =>
            some y9.1.1)) (
            none)) (
          none)) (
        none)))))))
theorem bytes_TrimRight_eq (a0 : List Int) (a1 : List Int) (pc : PC prog) (lp : LP) : got bytes_TrimRight_t (pcall prog (runO prog cfg (hand prog cfg lp pc 6 tbl 5) pc 6) 31 [(.c (.slice .ro (.int .u8) a0)), (.c (.str a1))]) = bytes_TrimRight_B pc lp a0 a1 := by kernel_rfl
theorem bytes_TrimRight_ap (E : AppE prog pcN pc lN lp) (a0 : List Int) (a1 : List Int) : Approx (fun N => bytes_TrimRight_B (pcN N) (lN N) a0 a1) (bytes_TrimRight_B pc lp a0 a1) := by
  delta bytes_TrimRight_B
  exact (Approx.bnd (bytes_TrimRight_C1_a E) (fun y0 => (Approx.ifd (Approx.const _) (Approx.bnd (bytes_TrimRight_C2_a E) (fun y1 => (Approx.ifd (Approx.ifd (Approx.bnd (Approx.bnd (bytes_trimRightByte_ca E) fun x2 => (Approx.const _)) fun x3 => (Approx.const _)) Approx.none) (Approx.bnd (bytes_TrimRight_L3_a E) (Approx.sum (fun y4 => (Approx.ifd (Approx.ifd (Approx.bnd (bytes_TrimRight_L4_a E) (fun y5 => (Approx.const _))) (Approx.bnd (Approx.bnd (bytes_trimRightUnicode_ca E) fun x6 => (Approx.const _)) fun x7 => (Approx.const _))) Approx.none)) (fun y8 => (Approx.ifd (Approx.ifd (Approx.ifd (Approx.bnd (bytes_TrimRight_L5_a E) (fun y9 => (Approx.const _))) Approx.none) Approx.none) Approx.none))))))))))
theorem bytes_TrimRight_of {a0 : List Int} {a1 : List Int} {y : (List Int)} (h : bytes_TrimRight_B (pcL prog cfg) lpL a0 a1 = some y) : bytes_TrimRight_c (pcL prog cfg) a0 a1 = some y := fn_of rfl (bytes_TrimRight_eq a0 a1) (bytes_TrimRight_ap (appN prog cfg) a0 a1) h

noncomputable def quoted_Hex_B (pc : PC prog) (lp : LP) (a0 : Int) : Option Int :=
  ifd ((decide (a0 ≥ 97)) = true) (
    ifd ((decide (a0 ≥ 97)) = true) (
      ifd ((decide (a0 ≤ 102)) = true) (
        bnd (bnd (bytes_IndexByte_c pc ([48, 49, 50, 51, 52, 53, 54, 55, 56, 57, 65, 66, 67, 68, 69, 70] : List Int) (Go.IntKind.wrap .u8 (a0 - 32))) fun (x0 : Int) =>
        some x0) fun (x1 : Int) =>
        some x1) (
        bnd (bnd (bytes_IndexByte_c pc ([48, 49, 50, 51, 52, 53, 54, 55, 56, 57, 65, 66, 67, 68, 69, 70] : List Int) a0) fun (x2 : Int) =>
        some x2) fun (x3 : Int) =>
        some x3)) (
      bnd (bnd (bytes_IndexByte_c pc ([48, 49, 50, 51, 52, 53, 54, 55, 56, 57, 65, 66, 67, 68, 69, 70] : List Int) a0) fun (x4 : Int) =>
      some x4) fun (x5 : Int) =>
      some x5)) (
    ifd ((decide (a0 ≥ 97)) = true) (
      none) (
      bnd (bnd (bytes_IndexByte_c pc ([48, 49, 50, 51, 52, 53, 54, 55, 56, 57, 65, 66, 67, 68, 69, 70] : List Int) a0) fun (x6 : Int) =>
      some x6) fun (x7 : Int) =>
      some x7))
theorem quoted_Hex_eq (a0 : Int) (pc : PC prog) (lp : LP) : got quoted_Hex_t (pcall prog (runO prog cfg (hand prog cfg lp pc 6 tbl 5) pc 6) 32 [(.c (.int .u8 a0))]) = quoted_Hex_B pc lp a0 := by kernel_rfl
theorem quoted_Hex_ap (E : AppE prog pcN pc lN lp) (a0 : Int) : Approx (fun N => quoted_Hex_B (pcN N) (lN N) a0) (quoted_Hex_B pc lp a0) := by
  delta quoted_Hex_B
  exact (Approx.ifd (Approx.ifd (Approx.ifd (Approx.bnd (Approx.bnd (bytes_IndexByte_ca E) fun x0 => (Approx.const _)) fun x1 => (Approx.const _)) (Approx.bnd (Approx.bnd (bytes_IndexByte_ca E) fun x2 => (Approx.const _)) fun x3 => (Approx.const _))) (Approx.bnd (Approx.bnd (bytes_IndexByte_ca E) fun x4 => (Approx.const _)) fun x5 => (Approx.const _))) (Approx.ifd Approx.none (Approx.bnd (Approx.bnd (bytes_IndexByte_ca E) fun x6 => (Approx.const _)) fun x7 => (Approx.const _))))
theorem quoted_Hex_of {a0 : Int} {y : Int} (h : quoted_Hex_B (pcL prog cfg) lpL a0 = some y) : quoted_Hex_c (pcL prog cfg) a0 = some y := fn_of rfl (quoted_Hex_eq a0) (quoted_Hex_ap (appN prog cfg) a0) h

noncomputable def bytes_IndexByte_B (pc : PC prog) (lp : LP) (a0 : List Int) (a1 : Int) : Option Int :=
  some (indexByteL a0 a1)
theorem bytes_IndexByte_eq (a0 : List Int) (a1 : Int) (pc : PC prog) (lp : LP) : got bytes_IndexByte_t (pcall prog (runO prog cfg (hand prog cfg lp pc 6 tbl 5) pc 6) 33 [(.c (.slice .ro (.int .u8) a0)), (.c (.int .u8 a1))]) = bytes_IndexByte_B pc lp a0 a1 := by kernel_rfl
theorem bytes_IndexByte_ap (E : AppE prog pcN pc lN lp) (a0 : List Int) (a1 : Int) : Approx (fun N => bytes_IndexByte_B (pcN N) (lN N) a0 a1) (bytes_IndexByte_B pc lp a0 a1) := by
  delta bytes_IndexByte_B
  exact (Approx.const _)
theorem bytes_IndexByte_of {a0 : List Int} {a1 : Int} {y : Int} (h : bytes_IndexByte_B (pcL prog cfg) lpL a0 a1 = some y) : bytes_IndexByte_c (pcL prog cfg) a0 a1 = some y := fn_of rfl (bytes_IndexByte_eq a0 a1) (bytes_IndexByte_ap (appN prog cfg) a0 a1) h

-- bytes_trimRightByte, loop 12
abbrev bytes_trimRightByte_L1_D := (((List Int) × (Int × Unit)) × Unit)
abbrev bytes_trimRightByte_L1_X := (((List Int) × Unit) × Unit)
noncomputable def bytes_trimRightByte_L1_R (pc : PC prog) (lp : LP) (ψ : bytes_trimRightByte_L1_D → Option bytes_trimRightByte_L1_X) (d : bytes_trimRightByte_L1_D) : Option bytes_trimRightByte_L1_X :=
  ifd ((decide ((((List.length d.1.1) : Nat) : Int) > 0)) = true) (
    ifd ((decide (((0 : Int) ≤ (Go.IntKind.wrap .i64 ((((List.length d.1.1) : Nat) : Int) - 1))) ∧ ((Go.IntKind.wrap .i64 ((((List.length d.1.1) : Nat) : Int) - 1)) < (((List.length d.1.1) : Nat) : Int)))) = true) (
      ifd ((decide ((((List.length d.1.1) : Nat) : Int) > 0)) = true) (
        ifd (((List.getD d.1.1 (Int.toNat (Go.IntKind.wrap .i64 ((((List.length d.1.1) : Nat) : Int) - 1))) 0) == d.1.2.1) = true) (
          ifd ((decide (((0 : Int) ≤ 0) ∧ (((0 : Int) ≤ (Go.IntKind.wrap .i64 ((((List.length d.1.1) : Nat) : Int) - 1))) ∧ ((Go.IntKind.wrap .i64 ((((List.length d.1.1) : Nat) : Int) - 1)) ≤ (((List.length d.1.1) : Nat) : Int))))) = true) (
            ψ (((List.drop (Int.toNat 0) (List.take (Int.toNat (Go.IntKind.wrap .i64 ((((List.length d.1.1) : Nat) : Int) - 1))) d.1.1)), d.1.2.1, ()), ())) (
            none)) (
          some ((d.1.1, ()), ()))) (
        some ((d.1.1, ()), ()))) (
      none)) (
    ifd ((decide ((((List.length d.1.1) : Nat) : Int) > 0)) = true) (
      none) (
      some ((d.1.1, ()), ())))
noncomputable def bytes_trimRightByte_L1 (pc : PC prog) (lp : LP) (d : bytes_trimRightByte_L1_D) : Option bytes_trimRightByte_L1_X := lp bytes_trimRightByte_L1_D bytes_trimRightByte_L1_X (bytes_trimRightByte_L1_R pc lp) d
theorem bytes_trimRightByte_L1_ap (E : AppE prog pcN pc lN lp) : ContR (fun N => bytes_trimRightByte_L1_R (pcN N) (lN N)) (bytes_trimRightByte_L1_R pc lp) := fun ψN ψ h d => by
  delta bytes_trimRightByte_L1_R
  exact (Approx.ifd (Approx.ifd (Approx.ifd (Approx.ifd (Approx.ifd (h _) Approx.none) (Approx.const _)) (Approx.const _)) Approx.none) (Approx.ifd Approx.none (Approx.const _)))
theorem bytes_trimRightByte_L1_a (E : AppE prog pcN pc lN lp) {d : bytes_trimRightByte_L1_D} : Approx (fun N => bytes_trimRightByte_L1 (pcN N) (lN N) d) (bytes_trimRightByte_L1 pc lp d) := E.loop (bytes_trimRightByte_L1_ap E) d
theorem bytes_trimRightByte_L1_of {d : bytes_trimRightByte_L1_D} {x : bytes_trimRightByte_L1_X} (h : bytes_trimRightByte_L1_R (pcL prog cfg) lpL (bytes_trimRightByte_L1 (pcL prog cfg) lpL) d = some x) : bytes_trimRightByte_L1 (pcL prog cfg) lpL d = some x := lpL_step (bytes_trimRightByte_L1_ap (appL prog cfg)) h

noncomputable def bytes_trimRightByte_B (pc : PC prog) (lp : LP) (a0 : List Int) (a1 : Int) : Option (List Int) :=
  bnd (bytes_trimRightByte_L1 pc lp ((a0, a1, ()), ())) (fun (y0 : (((List Int) × Unit) × Unit)) =>
  some y0.1.1)
theorem bytes_trimRightByte_eq (a0 : List Int) (a1 : Int) (pc : PC prog) (lp : LP) : got bytes_trimRightByte_t (pcall prog (runO prog cfg (hand prog cfg lp pc 6 tbl 5) pc 6) 37 [(.c (.slice .ro (.int .u8) a0)), (.c (.int .u8 a1))]) = bytes_trimRightByte_B pc lp a0 a1 := by kernel_rfl
theorem bytes_trimRightByte_ap (E : AppE prog pcN pc lN lp) (a0 : List Int) (a1 : Int) : Approx (fun N => bytes_trimRightByte_B (pcN N) (lN N) a0 a1) (bytes_trimRightByte_B pc lp a0 a1) := by
  delta bytes_trimRightByte_B
  exact (Approx.bnd (bytes_trimRightByte_L1_a E) (fun y0 => (Approx.const _)))
theorem bytes_trimRightByte_of {a0 : List Int} {a1 : Int} {y : (List Int)} (h : bytes_trimRightByte_B (pcL prog cfg) lpL a0 a1 = some y) : bytes_trimRightByte_c (pcL prog cfg) a0 a1 = some y := fn_of rfl (bytes_trimRightByte_eq a0 a1) (bytes_trimRightByte_ap (appN prog cfg) a0 a1) h

-- bytes_trimRightUnicode, loop 12
abbrev bytes_trimRightUnicode_L1_D := (((List Int) × ((List Int) × Unit)) × Unit)
abbrev bytes_trimRightUnicode_L1_X := (((List Int) × Unit) × Unit)
noncomputable def bytes_trimRightUnicode_L1_R (pc : PC prog) (lp : LP) (ψ : bytes_trimRightUnicode_L1_D → Option bytes_trimRightUnicode_L1_X) (d : bytes_trimRightUnicode_L1_D) : Option bytes_trimRightUnicode_L1_X :=
  ifd ((decide ((((List.length d.1.1) : Nat) : Int) > 0)) = true) (
    ifd ((decide (((0 : Int) ≤ (Go.IntKind.wrap .i64 ((((List.length d.1.1) : Nat) : Int) - 1))) ∧ ((Go.IntKind.wrap .i64 ((((List.length d.1.1) : Nat) : Int) - 1)) < (((List.length d.1.1) : Nat) : Int)))) = true) (
      ifd ((decide ((Go.IntKind.wrap .i32 (List.getD d.1.1 (Int.toNat (Go.IntKind.wrap .i64 ((((List.length d.1.1) : Nat) : Int) - 1))) 0)) ≥ 128)) = true) (
        bnd (bnd (unicode_utf8_DecodeLastRune_c pc d.1.1) fun (x6 : (Int × (Int × Unit))) =>
        some (x6.1, (x6.2.1, ()))) fun (x7 : (Int × (Int × Unit))) =>
        bnd (bnd (bytes_containsRune_c pc d.1.2.1 x7.1) fun (x8 : Bool) =>
        some x8) fun (x9 : Bool) =>
        ifd ((!x9) = true) (
          some ((d.1.1, ()), ())) (
          ifd ((decide (((0 : Int) ≤ 0) ∧ (((0 : Int) ≤ (Go.IntKind.wrap .i64 ((((List.length d.1.1) : Nat) : Int) - x7.2.1))) ∧ ((Go.IntKind.wrap .i64 ((((List.length d.1.1) : Nat) : Int) - x7.2.1)) ≤ (((List.length d.1.1) : Nat) : Int))))) = true) (
            ψ (((List.drop (Int.toNat 0) (List.take (Int.toNat (Go.IntKind.wrap .i64 ((((List.length d.1.1) : Nat) : Int) - x7.2.1))) d.1.1)), d.1.2.1, ()), ())) (
            none))) (
        bnd (bnd (bytes_containsRune_c pc d.1.2.1 (Go.IntKind.wrap .i32 (List.getD d.1.1 (Int.toNat (Go.IntKind.wrap .i64 ((((List.length d.1.1) : Nat) : Int) - 1))) 0))) fun (x10 : Bool) =>
        some x10) fun (x11 : Bool) =>
        ifd ((!x11) = true) (
          some ((d.1.1, ()), ())) (
          ifd ((decide (((0 : Int) ≤ 0) ∧ (((0 : Int) ≤ (Go.IntKind.wrap .i64 ((((List.length d.1.1) : Nat) : Int) - 1))) ∧ ((Go.IntKind.wrap .i64 ((((List.length d.1.1) : Nat) : Int) - 1)) ≤ (((List.length d.1.1) : Nat) : Int))))) = true) (
            ψ (((List.drop (Int.toNat 0) (List.take (Int.toNat (Go.IntKind.wrap .i64 ((((List.length d.1.1) : Nat) : Int) - 1))) d.1.1)), d.1.2.1, ()), ())) (
            none)))) (
      none)) (
    some ((d.1.1, ()), ()))
noncomputable def bytes_trimRightUnicode_L1 (pc : PC prog) (lp : LP) (d : bytes_trimRightUnicode_L1_D) : Option bytes_trimRightUnicode_L1_X := lp bytes_trimRightUnicode_L1_D bytes_trimRightUnicode_L1_X (bytes_trimRightUnicode_L1_R pc lp) d
theorem bytes_trimRightUnicode_L1_ap (E : AppE prog pcN pc lN lp) : ContR (fun N => bytes_trimRightUnicode_L1_R (pcN N) (lN N)) (bytes_trimRightUnicode_L1_R pc lp) := fun ψN ψ h d => by
  delta bytes_trimRightUnicode_L1_R
  exact (Approx.ifd (Approx.ifd (Approx.ifd (Approx.bnd (Approx.bnd (unicode_utf8_DecodeLastRune_ca E) fun x6 => (Approx.const _)) fun x7 => (Approx.bnd (Approx.bnd (bytes_containsRune_ca E) fun x8 => (Approx.const _)) fun x9 => (Approx.ifd (Approx.const _) (Approx.ifd (h _) Approx.none)))) (Approx.bnd (Approx.bnd (bytes_containsRune_ca E) fun x10 => (Approx.const _)) fun x11 => (Approx.ifd (Approx.const _) (Approx.ifd (h _) Approx.none)))) Approx.none) (Approx.const _))
theorem bytes_trimRightUnicode_L1_a (E : AppE prog pcN pc lN lp) {d : bytes_trimRightUnicode_L1_D} : Approx (fun N => bytes_trimRightUnicode_L1 (pcN N) (lN N) d) (bytes_trimRightUnicode_L1 pc lp d) := E.loop (bytes_trimRightUnicode_L1_ap E) d
theorem bytes_trimRightUnicode_L1_of {d : bytes_trimRightUnicode_L1_D} {x : bytes_trimRightUnicode_L1_X} (h : bytes_trimRightUnicode_L1_R (pcL prog cfg) lpL (bytes_trimRightUnicode_L1 (pcL prog cfg) lpL) d = some x) : bytes_trimRightUnicode_L1 (pcL prog cfg) lpL d = some x := lpL_step (bytes_trimRightUnicode_L1_ap (appL prog cfg)) h

noncomputable def bytes_trimRightUnicode_B (pc : PC prog) (lp : LP) (a0 : List Int) (a1 : List Int) : Option (List Int) :=
  bnd (bytes_trimRightUnicode_L1 pc lp ((a0, a1, ()), ())) (fun (y12 : (((List Int) × Unit) × Unit)) =>
  some y12.1.1)
theorem bytes_trimRightUnicode_eq (a0 : List Int) (a1 : List Int) (pc : PC prog) (lp : LP) : got bytes_trimRightUnicode_t (pcall prog (runO prog cfg (hand prog cfg lp pc 6 tbl 5) pc 6) 40 [(.c (.slice .ro (.int .u8) a0)), (.c (.str a1))]) = bytes_trimRightUnicode_B pc lp a0 a1 := by kernel_rfl
theorem bytes_trimRightUnicode_ap (E : AppE prog pcN pc lN lp) (a0 : List Int) (a1 : List Int) : Approx (fun N => bytes_trimRightUnicode_B (pcN N) (lN N) a0 a1) (bytes_trimRightUnicode_B pc lp a0 a1) := by
  delta bytes_trimRightUnicode_B
  exact (Approx.bnd (bytes_trimRightUnicode_L1_a E) (fun y12 => (Approx.const _)))
theorem bytes_trimRightUnicode_of {a0 : List Int} {a1 : List Int} {y : (List Int)} (h : bytes_trimRightUnicode_B (pcL prog cfg) lpL a0 a1 = some y) : bytes_trimRightUnicode_c (pcL prog cfg) a0 a1 = some y := fn_of rfl (bytes_trimRightUnicode_eq a0 a1) (bytes_trimRightUnicode_ap (appN prog cfg) a0 a1) h

-- unicode_utf8_DecodeLastRune, loop 2042
abbrev unicode_utf8_DecodeLastRune_L1_D := (((List Int) × (Int × (Int × (Int × Unit)))) × Unit)
abbrev unicode_utf8_DecodeLastRune_L1_X := (((List Int) × (Int × (Int × Unit))) × Unit)
noncomputable def unicode_utf8_DecodeLastRune_L1_R (pc : PC prog) (lp : LP) (ψ : unicode_utf8_DecodeLastRune_L1_D → Option unicode_utf8_DecodeLastRune_L1_X) (d : unicode_utf8_DecodeLastRune_L1_D) : Option unicode_utf8_DecodeLastRune_L1_X :=
  ifd ((decide (d.1.2.2.1 ≥ d.1.2.2.2.1)) = true) (
    ifd ((decide (((0 : Int) ≤ d.1.2.2.1) ∧ (d.1.2.2.1 < (((List.length d.1.1) : Nat) : Int)))) = true) (
      bnd (bnd (unicode_utf8_RuneStart_c pc (List.getD d.1.1 (Int.toNat d.1.2.2.1) 0)) fun (x2 : Bool) =>
      some x2) fun (x3 : Bool) =>
      ifd (x3 = true) (
        some ((d.1.1, d.1.2.1, d.1.2.2.1, ()), ())) (
        ψ ((d.1.1, d.1.2.1, (Go.IntKind.wrap .i64 (d.1.2.2.1 - 1)), d.1.2.2.2.1, ()), ()))) (
      none)) (
    some ((d.1.1, d.1.2.1, d.1.2.2.1, ()), ()))
noncomputable def unicode_utf8_DecodeLastRune_L1 (pc : PC prog) (lp : LP) (d : unicode_utf8_DecodeLastRune_L1_D) : Option unicode_utf8_DecodeLastRune_L1_X := lp unicode_utf8_DecodeLastRune_L1_D unicode_utf8_DecodeLastRune_L1_X (unicode_utf8_DecodeLastRune_L1_R pc lp) d
theorem unicode_utf8_DecodeLastRune_L1_ap (E : AppE prog pcN pc lN lp) : ContR (fun N => unicode_utf8_DecodeLastRune_L1_R (pcN N) (lN N)) (unicode_utf8_DecodeLastRune_L1_R pc lp) := fun ψN ψ h d => by
  delta unicode_utf8_DecodeLastRune_L1_R
  exact (Approx.ifd (Approx.ifd (Approx.bnd (Approx.bnd (unicode_utf8_RuneStart_ca E) fun x2 => (Approx.const _)) fun x3 => (Approx.ifd (Approx.const _) (h _))) Approx.none) (Approx.const _))
theorem unicode_utf8_DecodeLastRune_L1_a (E : AppE prog pcN pc lN lp) {d : unicode_utf8_DecodeLastRune_L1_D} : Approx (fun N => unicode_utf8_DecodeLastRune_L1 (pcN N) (lN N) d) (unicode_utf8_DecodeLastRune_L1 pc lp d) := E.loop (unicode_utf8_DecodeLastRune_L1_ap E) d
theorem unicode_utf8_DecodeLastRune_L1_of {d : unicode_utf8_DecodeLastRune_L1_D} {x : unicode_utf8_DecodeLastRune_L1_X} (h : unicode_utf8_DecodeLastRune_L1_R (pcL prog cfg) lpL (unicode_utf8_DecodeLastRune_L1 (pcL prog cfg) lpL) d = some x) : unicode_utf8_DecodeLastRune_L1 (pcL prog cfg) lpL d = some x := lpL_step (unicode_utf8_DecodeLastRune_L1_ap (appL prog cfg)) h

-- unicode_utf8_DecodeLastRune, part 511
abbrev unicode_utf8_DecodeLastRune_C2_D := (((List Int) × (Int × (Int × Unit))) × Unit)
abbrev unicode_utf8_DecodeLastRune_C2_X := (((List Int) × (Int × (Int × Unit))) × Unit)
noncomputable def unicode_utf8_DecodeLastRune_C2 (pc : PC prog) (lp : LP) (d : unicode_utf8_DecodeLastRune_C2_D) : Option unicode_utf8_DecodeLastRune_C2_X :=
  ifd ((decide (d.1.2.2.1 < 0)) = true) (
    some ((d.1.1, d.1.2.1, 0, ()), ())) (
    some ((d.1.1, d.1.2.1, d.1.2.2.1, ()), ()))
theorem unicode_utf8_DecodeLastRune_C2_a (E : AppE prog pcN pc lN lp) {d : unicode_utf8_DecodeLastRune_C2_D} : Approx (fun N => unicode_utf8_DecodeLastRune_C2 (pcN N) (lN N) d) (unicode_utf8_DecodeLastRune_C2 pc lp d) := by
  delta unicode_utf8_DecodeLastRune_C2
  exact (Approx.ifd (Approx.const _) (Approx.const _))

noncomputable def unicode_utf8_DecodeLastRune_B (pc : PC prog) (lp : LP) (a0 : List Int) : Option (Int × (Int × Unit)) :=
  ifd (((((List.length a0) : Nat) : Int) == 0) = true) (
    some (65533, (0, ()))) (
    ifd ((decide (((0 : Int) ≤ (Go.IntKind.wrap .i64 ((((List.length a0) : Nat) : Int) - 1))) ∧ ((Go.IntKind.wrap .i64 ((((List.length a0) : Nat) : Int) - 1)) < (((List.length a0) : Nat) : Int)))) = true) (
      ifd ((decide ((Go.IntKind.wrap .i32 (List.getD a0 (Int.toNat (Go.IntKind.wrap .i64 ((((List.length a0) : Nat) : Int) - 1))) 0)) < 128)) = true) (
        some ((Go.IntKind.wrap .i32 (List.getD a0 (Int.toNat (Go.IntKind.wrap .i64 ((((List.length a0) : Nat) : Int) - 1))) 0)), (1, ()))) (
        bnd (unicode_utf8_DecodeLastRune_L1 pc lp ((a0, (((List.length a0) : Nat) : Int), (Go.IntKind.wrap .i64 ((Go.IntKind.wrap .i64 ((((List.length a0) : Nat) : Int) - 1)) - 1)), (max (Go.IntKind.wrap .i64 ((((List.length a0) : Nat) : Int) - 4)) 0), ()), ())) (fun (y4 : (((List Int) × (Int × (Int × Unit))) × Unit)) =>
        bnd (unicode_utf8_DecodeLastRune_C2 pc lp ((y4.1.1, y4.1.2.1, y4.1.2.2.1, ()), ())) (fun (y5 : (((List Int) × (Int × (Int × Unit))) × Unit)) =>
        ifd ((decide (((0 : Int) ≤ y5.1.2.2.1) ∧ ((y5.1.2.2.1 ≤ y5.1.2.1) ∧ (y5.1.2.1 ≤ (((List.length y5.1.1) : Nat) : Int))))) = true) (
          bnd (bnd (unicode_utf8_DecodeRune_c pc (List.drop (Int.toNat y5.1.2.2.1) (List.take (Int.toNat y5.1.2.1) y5.1.1))) fun (x6 : (Int × (Int × Unit))) =>
          some (x6.1, (x6.2.1, ()))) fun (x7 : (Int × (Int × Unit))) =>
          ifd (((Go.IntKind.wrap .i64 (y5.1.2.2.1 + x7.2.1)) != y5.1.2.1) = true) (
            some (65533, (1, ()))) (
            some (x7.1, (x7.2.1, ())))) (
          none))))) (
      none))
theorem unicode_utf8_DecodeLastRune_eq (a0 : List Int) (pc : PC prog) (lp : LP) : got unicode_utf8_DecodeLastRune_t (pcall prog (runO prog cfg (hand prog cfg lp pc 6 tbl 5) pc 6) 44 [(.c (.slice .ro (.int .u8) a0))]) = unicode_utf8_DecodeLastRune_B pc lp a0 := by kernel_rfl
theorem unicode_utf8_DecodeLastRune_ap (E : AppE prog pcN pc lN lp) (a0 : List Int) : Approx (fun N => unicode_utf8_DecodeLastRune_B (pcN N) (lN N) a0) (unicode_utf8_DecodeLastRune_B pc lp a0) := by
  delta unicode_utf8_DecodeLastRune_B
  exact (Approx.ifd (Approx.const _) (Approx.ifd (Approx.ifd (Approx.const _) (Approx.bnd (unicode_utf8_DecodeLastRune_L1_a E) (fun y4 => (Approx.bnd (unicode_utf8_DecodeLastRune_C2_a E) (fun y5 => (Approx.ifd (Approx.bnd (Approx.bnd (unicode_utf8_DecodeRune_ca E) fun x6 => (Approx.const _)) fun x7 => (Approx.ifd (Approx.const _) (Approx.const _))) Approx.none)))))) Approx.none))
theorem unicode_utf8_DecodeLastRune_of {a0 : List Int} {y : (Int × (Int × Unit))} (h : unicode_utf8_DecodeLastRune_B (pcL prog cfg) lpL a0 = some y) : unicode_utf8_DecodeLastRune_c (pcL prog cfg) a0 = some y := fn_of rfl (unicode_utf8_DecodeLastRune_eq a0) (unicode_utf8_DecodeLastRune_ap (appN prog cfg) a0) h

-- bytes_containsRune, loop 26
abbrev bytes_containsRune_L1_D := ((Int × (Unit × Unit)) × (((List Int) × Nat) × Unit))
abbrev bytes_containsRune_L1_X := (((Bool × Unit) × (((List Int) × Nat) × Unit)) ⊕ (Unit × (((List Int) × Nat) × Unit)))
noncomputable def bytes_containsRune_L1_R (pc : PC prog) (lp : LP) (ψ : bytes_containsRune_L1_D → Option bytes_containsRune_L1_X) (d : bytes_containsRune_L1_D) : Option bytes_containsRune_L1_X :=
  ifd (d.2.1.2 < (List.length d.2.1.1)) (
    ifd (((((decRune d.2.1.1 d.2.1.2).1 : Nat) : Int) == d.1.1) = true) (
      some (Sum.inl ((true, ()), ((d.2.1.1, (d.2.1.2 + (decRune d.2.1.1 d.2.1.2).2)), ())))) (
      ψ ((d.1.1, (), ()), ((d.2.1.1, (d.2.1.2 + (decRune d.2.1.1 d.2.1.2).2)), ())))) (
    some (Sum.inr ((), ((d.2.1.1, d.2.1.2), ()))))
noncomputable def bytes_containsRune_L1 (pc : PC prog) (lp : LP) (d : bytes_containsRune_L1_D) : Option bytes_containsRune_L1_X := lp bytes_containsRune_L1_D bytes_containsRune_L1_X (bytes_containsRune_L1_R pc lp) d
theorem bytes_containsRune_L1_ap (E : AppE prog pcN pc lN lp) : ContR (fun N => bytes_containsRune_L1_R (pcN N) (lN N)) (bytes_containsRune_L1_R pc lp) := fun ψN ψ h d => by
  delta bytes_containsRune_L1_R
  exact (Approx.ifd (Approx.ifd (Approx.const _) (h _)) (Approx.const _))
theorem bytes_containsRune_L1_a (E : AppE prog pcN pc lN lp) {d : bytes_containsRune_L1_D} : Approx (fun N => bytes_containsRune_L1 (pcN N) (lN N) d) (bytes_containsRune_L1 pc lp d) := E.loop (bytes_containsRune_L1_ap E) d
theorem bytes_containsRune_L1_of {d : bytes_containsRune_L1_D} {x : bytes_containsRune_L1_X} (h : bytes_containsRune_L1_R (pcL prog cfg) lpL (bytes_containsRune_L1 (pcL prog cfg) lpL) d = some x) : bytes_containsRune_L1 (pcL prog cfg) lpL d = some x := lpL_step (bytes_containsRune_L1_ap (appL prog cfg)) h

noncomputable def bytes_containsRune_B (pc : PC prog) (lp : LP) (a0 : List Int) (a1 : Int) : Option Bool :=
  bnd (bytes_containsRune_L1 pc lp ((a1, (), ()), ((a0, 0), ()))) (Sum.elim (fun (y0 : ((Bool × Unit) × (((List Int) × Nat) × Unit))) =>
  some y0.1.1) (fun (y1 : (Unit × (((List Int) × Nat) × Unit))) =>
  some false))
theorem bytes_containsRune_eq (a0 : List Int) (a1 : Int) (pc : PC prog) (lp : LP) : got bytes_containsRune_t (pcall prog (runO prog cfg (hand prog cfg lp pc 6 tbl 5) pc 6) 45 [(.c (.str a0)), (.c (.int .i32 a1))]) = bytes_containsRune_B pc lp a0 a1 := by kernel_rfl
theorem bytes_containsRune_ap (E : AppE prog pcN pc lN lp) (a0 : List Int) (a1 : Int) : Approx (fun N => bytes_containsRune_B (pcN N) (lN N) a0 a1) (bytes_containsRune_B pc lp a0 a1) := by
  delta bytes_containsRune_B
  exact (Approx.bnd (bytes_containsRune_L1_a E) (Approx.sum (fun y0 => (Approx.const _)) (fun y1 => (Approx.const _))))
theorem bytes_containsRune_of {a0 : List Int} {a1 : Int} {y : Bool} (h : bytes_containsRune_B (pcL prog cfg) lpL a0 a1 = some y) : bytes_containsRune_c (pcL prog cfg) a0 a1 = some y := fn_of rfl (bytes_containsRune_eq a0 a1) (bytes_containsRune_ap (appN prog cfg) a0 a1) h

noncomputable def unicode_utf8_RuneStart_B (pc : PC prog) (lp : LP) (a0 : Int) : Option Bool :=
  some ((ibits .and .u8 a0 192) != 128)
theorem unicode_utf8_RuneStart_eq (a0 : Int) (pc : PC prog) (lp : LP) : got unicode_utf8_RuneStart_t (pcall prog (runO prog cfg (hand prog cfg lp pc 6 tbl 5) pc 6) 46 [(.c (.int .u8 a0))]) = unicode_utf8_RuneStart_B pc lp a0 := by kernel_rfl
theorem unicode_utf8_RuneStart_ap (E : AppE prog pcN pc lN lp) (a0 : Int) : Approx (fun N => unicode_utf8_RuneStart_B (pcN N) (lN N) a0) (unicode_utf8_RuneStart_B pc lp a0) := by
  delta unicode_utf8_RuneStart_B
  exact (Approx.const _)
theorem unicode_utf8_RuneStart_of {a0 : Int} {y : Bool} (h : unicode_utf8_RuneStart_B (pcL prog cfg) lpL a0 = some y) : unicode_utf8_RuneStart_c (pcL prog cfg) a0 = some y := fn_of rfl (unicode_utf8_RuneStart_eq a0) (unicode_utf8_RuneStart_ap (appN prog cfg) a0) h

-- unicode_utf8_DecodeRune, loop 26
abbrev unicode_utf8_DecodeRune_L1_D := (((List Int) × ((List Int) × (Int × (Int × Unit)))) × Unit)
abbrev unicode_utf8_DecodeRune_L1_X := (((Int × (Int × Unit)) × Unit) ⊕ (((List Int) × Unit) × Unit))
noncomputable def unicode_utf8_DecodeRune_L1_R (pc : PC prog) (lp : LP) (ψ : unicode_utf8_DecodeRune_L1_D → Option unicode_utf8_DecodeRune_L1_X) (d : unicode_utf8_DecodeRune_L1_D) : Option unicode_utf8_DecodeRune_L1_X :=
  ifd ((decide (d.1.2.2.2.1 < d.1.2.2.1)) = true) (
    ifd ((decide (((0 : Int) ≤ d.1.2.2.2.1) ∧ (d.1.2.2.2.1 < (((List.length d.1.2.1) : Nat) : Int)))) = true) (
      ifd ((decide ((List.getD d.1.2.1 (Int.toNat d.1.2.2.2.1) 0) < 128)) = true) (
        some (Sum.inl (((Go.IntKind.wrap .i32 (List.getD d.1.2.1 (Int.toNat d.1.2.2.2.1) 0)), 1, ()), ()))) (
        some (Sum.inr ((d.1.1, ()), ())))) (
      none)) (
    some (Sum.inr ((d.1.1, ()), ())))
noncomputable def unicode_utf8_DecodeRune_L1 (pc : PC prog) (lp : LP) (d : unicode_utf8_DecodeRune_L1_D) : Option unicode_utf8_DecodeRune_L1_X := lp unicode_utf8_DecodeRune_L1_D unicode_utf8_DecodeRune_L1_X (unicode_utf8_DecodeRune_L1_R pc lp) d
theorem unicode_utf8_DecodeRune_L1_ap (E : AppE prog pcN pc lN lp) : ContR (fun N => unicode_utf8_DecodeRune_L1_R (pcN N) (lN N)) (unicode_utf8_DecodeRune_L1_R pc lp) := fun ψN ψ h d => by
  delta unicode_utf8_DecodeRune_L1_R
  exact (Approx.ifd (Approx.ifd (Approx.ifd (Approx.const _) (Approx.const _)) Approx.none) (Approx.const _))
theorem unicode_utf8_DecodeRune_L1_a (E : AppE prog pcN pc lN lp) {d : unicode_utf8_DecodeRune_L1_D} : Approx (fun N => unicode_utf8_DecodeRune_L1 (pcN N) (lN N) d) (unicode_utf8_DecodeRune_L1 pc lp d) := E.loop (unicode_utf8_DecodeRune_L1_ap E) d
theorem unicode_utf8_DecodeRune_L1_of {d : unicode_utf8_DecodeRune_L1_D} {x : unicode_utf8_DecodeRune_L1_X} (h : unicode_utf8_DecodeRune_L1_R (pcL prog cfg) lpL (unicode_utf8_DecodeRune_L1 (pcL prog cfg) lpL) d = some x) : unicode_utf8_DecodeRune_L1 (pcL prog cfg) lpL d = some x := lpL_step (unicode_utf8_DecodeRune_L1_ap (appL prog cfg)) h

noncomputable def unicode_utf8_DecodeRune_B (pc : PC prog) (lp : LP) (a0 : List Int) : Option (Int × (Int × Unit)) :=
  bnd (unicode_utf8_DecodeRune_L1 pc lp ((a0, a0, (((List.length a0) : Nat) : Int), 0, ()), ())) (Sum.elim (fun (y0 : ((Int × (Int × Unit)) × Unit)) =>
  some (y0.1.1, (y0.1.2.1, ()))) (fun (y1 : (((List Int) × Unit) × Unit)) =>
  bnd (bnd (unicode_utf8_decodeRuneSlow_c pc y1.1.1) fun (x2 : (Int × (Int × Unit))) =>
  some (x2.1, (x2.2.1, ()))) fun (x3 : (Int × (Int × Unit))) =>
  some (x3.1, (x3.2.1, ()))))
theorem unicode_utf8_DecodeRune_eq (a0 : List Int) (pc : PC prog) (lp : LP) : got unicode_utf8_DecodeRune_t (pcall prog (runO prog cfg (hand prog cfg lp pc 6 tbl 5) pc 6) 47 [(.c (.slice .ro (.int .u8) a0))]) = unicode_utf8_DecodeRune_B pc lp a0 := by kernel_rfl
theorem unicode_utf8_DecodeRune_ap (E : AppE prog pcN pc lN lp) (a0 : List Int) : Approx (fun N => unicode_utf8_DecodeRune_B (pcN N) (lN N) a0) (unicode_utf8_DecodeRune_B pc lp a0) := by
  delta unicode_utf8_DecodeRune_B
  exact (Approx.bnd (unicode_utf8_DecodeRune_L1_a E) (Approx.sum (fun y0 => (Approx.const _)) (fun y1 => (Approx.bnd (Approx.bnd (unicode_utf8_decodeRuneSlow_ca E) fun x2 => (Approx.const _)) fun x3 => (Approx.const _)))))
theorem unicode_utf8_DecodeRune_of {a0 : List Int} {y : (Int × (Int × Unit))} (h : unicode_utf8_DecodeRune_B (pcL prog cfg) lpL a0 = some y) : unicode_utf8_DecodeRune_c (pcL prog cfg) a0 = some y := fn_of rfl (unicode_utf8_DecodeRune_eq a0) (unicode_utf8_DecodeRune_ap (appN prog cfg) a0) h

noncomputable def unicode_utf8_decodeRuneSlow_B (pc : PC prog) (lp : LP) (a0 : List Int) : Option (Int × (Int × Unit)) :=
  ifd ((decide ((((List.length a0) : Nat) : Int) < 1)) = true) (
    some (65533, (0, ()))) (
    ifd ((decide (((0 : Int) ≤ 0) ∧ ((0 : Int) < (((List.length a0) : Nat) : Int)))) = true) (
      none) (
      none))
theorem unicode_utf8_decodeRuneSlow_eq (a0 : List Int) (pc : PC prog) (lp : LP) : got unicode_utf8_decodeRuneSlow_t (pcall prog (runO prog cfg (hand prog cfg lp pc 6 tbl 5) pc 6) 48 [(.c (.slice .ro (.int .u8) a0))]) = unicode_utf8_decodeRuneSlow_B pc lp a0 := by kernel_rfl
theorem unicode_utf8_decodeRuneSlow_ap (E : AppE prog pcN pc lN lp) (a0 : List Int) : Approx (fun N => unicode_utf8_decodeRuneSlow_B (pcN N) (lN N) a0) (unicode_utf8_decodeRuneSlow_B pc lp a0) := by
  delta unicode_utf8_decodeRuneSlow_B
  exact (Approx.ifd (Approx.const _) (Approx.ifd Approx.none Approx.none))
theorem unicode_utf8_decodeRuneSlow_of {a0 : List Int} {y : (Int × (Int × Unit))} (h : unicode_utf8_decodeRuneSlow_B (pcL prog cfg) lpL a0 = some y) : unicode_utf8_decodeRuneSlow_c (pcL prog cfg) a0 = some y := fn_of rfl (unicode_utf8_decodeRuneSlow_eq a0) (unicode_utf8_decodeRuneSlow_ap (appN prog cfg) a0) h

end Go.Proofs.YtldlfkgbfaneaaaDoorSim
